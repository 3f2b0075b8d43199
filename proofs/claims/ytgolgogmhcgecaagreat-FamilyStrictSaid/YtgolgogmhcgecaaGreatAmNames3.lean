/- The loop that collects a map's keys. -/
import Derived.Test.YtgolgogmhcgecaaGreatAmNames2
import Derived.Maps.RangeRun
namespace Go.Am
set_option linter.unusedVariables false
set_option linter.unusedSimpArgs false

/-! ### What was taken -/
structure Taken (es taken : List MapEntry) : Prop where
  mem : ∀ e ∈ taken, e ∈ es
  nodup : (taken.map (·.born)).Nodup
theorem Taken.nil (es : List MapEntry) : Taken es [] := ⟨fun e h => (by cases h), List.nodup_nil⟩
theorem Taken.snoc {es : Array MapEntry} {taken : List MapEntry} (h : Taken es.toList taken) {e : MapEntry} (he : e ∈ (leftOf es (taken.map (·.born)).toArray).toList) : Taken es.toList (taken ++ [e]) := by
  unfold leftOf at he
  simp only [Array.toList_filter, List.mem_filter, Bool.not_eq_true', List.contains_toArray] at he
  refine ⟨fun x hx => ?_, ?_⟩
  · rcases List.mem_append.1 hx with hx | hx
    · exact h.mem x hx
    · rw [List.mem_singleton] at hx; subst hx; exact he.1
  · rw [List.map_append, List.nodup_append]
    refine ⟨h.nodup, by simp, fun a ha b hb => ?_⟩
    simp only [List.map_cons, List.map_nil, List.mem_singleton] at hb
    subst hb
    rintro rfl
    have := he.2
    rw [← Bool.not_eq_true, List.contains_iff_mem] at this
    exact this ha
theorem nodup_of_map {α β : Type} {f : α → β} {l : List α} (h : (l.map f).Nodup) : l.Nodup := by
  unfold List.Nodup at *
  rw [List.pairwise_map] at h
  exact h.imp fun hne e => hne (by rw [e])
theorem born_inj : ∀ {l : List MapEntry}, (l.map (·.born)).Nodup → ∀ {a b : MapEntry}, a ∈ l → b ∈ l → a.born = b.born → a = b
  | [], _, _, _, h, _, _ => by cases h
  | x :: l, hn, a, b, ha, hb, he => by
    rw [List.map_cons, List.nodup_cons] at hn
    rcases List.mem_cons.1 ha with h1 | h1 <;> rcases List.mem_cons.1 hb with h2 | h2
    · rw [h1, h2]
    · rw [h1] at he
      exact absurd (List.mem_map.2 ⟨b, h2, he.symm⟩ : _ ∈ l.map (·.born)) hn.1
    · rw [h2] at he
      exact absurd (List.mem_map.2 ⟨a, h1, he⟩ : _ ∈ l.map (·.born)) hn.1
    · exact born_inj hn.2 h1 h2 he
theorem Taken.all {es : Array MapEntry} {taken : List MapEntry} (h : Taken es.toList taken) (hn : (es.toList.map (·.born)).Nodup) (h0 : (leftOf es (taken.map (·.born)).toArray).size = 0) : taken.Perm es.toList := by
  rw [List.perm_ext_iff_of_nodup (nodup_of_map h.nodup) (nodup_of_map hn)]
  intro e
  refine ⟨h.mem e, fun he => ?_⟩
  have h1 : leftOf es (taken.map (·.born)).toArray = #[] := Array.eq_empty_of_size_eq_zero h0
  have h2 : e ∉ (leftOf es (taken.map (·.born)).toArray).toList := by rw [h1]; simp
  unfold leftOf at h2
  simp only [Array.toList_filter, List.mem_filter, Bool.not_eq_true', List.contains_toArray, not_and] at h2
  have h3 := h2 he
  rw [Bool.not_eq_false, List.contains_iff_mem] at h3
  obtain ⟨e', he', hb⟩ := List.mem_map.1 h3
  rw [← born_inj hn (h.mem e' he') he hb]
  exact he'

section
variable {P : Program}

/-- An operation without a guard, ahead of others. -/
theorem wpOps_at {ops : Array Oper} {Q : Exit → Act → World → Prop} {i : Nat} {rest : List Nat} {a : Act} {w : World} {x : Oper} (hi : ops.toList[i]? = some x) (hg : x.guard = none) (h : x.wp P a w (wpOps P ops Q rest) Q) : wpOps P ops Q (i :: rest) a w := by
  have hi' : ops[i]? = some x := by rw [← Array.getElem?_toList]; exact hi
  simp only [wpOps, hi']
  have : Region.wanted x (yielded ops a.tmps) = true := by simp [Region.wanted, hg]
  rw [this, if_pos rfl]
  exact .inl h
theorem wp_value {x : Oper} {a : Act} {w w' : World} {K : Act → World → Prop} {Q : Exit → Act → World → Prop} {v : Value} (h : (execOp a.eval x).run P w = .ok (.value v) w') (hK : K (a.put x.dst v) w') : x.wp P a w K Q := by
  unfold Oper.wp
  rw [h]
  exact hK
end
end Go.Am
