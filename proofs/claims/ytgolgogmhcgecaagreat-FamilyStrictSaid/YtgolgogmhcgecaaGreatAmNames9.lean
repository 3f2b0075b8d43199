/- Sorting the list in the model, and what follows behind the call, joined. -/
import Derived.Test.YtgolgogmhcgecaaGreatAmNames8
namespace Go.Am
set_option linter.unusedVariables false
set_option linter.unusedSimpArgs false

section
variable {P : Program}
open Go.Sort Go.Proofs

/-- The library's sort of strings, as the shelf tells it. -/
structure SortOk (P : Program) (f : FuncId) : Prop where
  call : Callable P f
  some : ∀ (blk off cap : Nat) (ss : List (List UInt8)) (w : World), Holds encStr w blk off ss.toArray → blk < w.heap.size → ss.length < 4611686018427387904 →
    Calls P f #[.slice (some ⟨blk, off, none⟩) ss.length cap] w fun e w' => e = .returned (.tuple #[]) ∧ ∃ n os, w' = grow (putRow encStr (Sort.ahead w n) blk off (ss.mergeSort fun x y => decide (x ≤ y)).toArray) os
  none : ∀ (p : Option Addr) (cap : Nat) (w : World), Calls P f #[.slice p 0 cap] w fun e w' => e = .returned (.tuple #[]) ∧ w' = w

def bytesOf (k : List Nat) : List UInt8 := k.map UInt8.ofNat
theorem nums_bytes {k : List Nat} (h : small k) : nums (bytesOf k) = k := by
  unfold nums bytesOf
  rw [List.map_map]
  conv => rhs; rw [← List.map_id k]
  refine List.map_congr_left fun x hx => ?_
  simp [Nat.mod_eq_of_lt (h x hx)]
theorem bytes_nums (l : List UInt8) : bytesOf (nums l) = l := by
  unfold nums bytesOf
  rw [List.map_map]
  conv => rhs; rw [← List.map_id l]
  refine List.map_congr_left fun x hx => ?_
  simp
theorem enc_bytes (k : List Nat) : encStr (bytesOf k) = .string (strOf k) := rfl
theorem nums_small (l : List UInt8) : small (nums l) := fun x hx => by
  unfold nums at hx
  obtain ⟨b, _, rfl⟩ := List.mem_map.1 hx
  exact b.toNat_lt
theorem sortS_length (l : List (List Nat)) : (sortS l).length = l.length := (sortS_perm l).length_eq

/-- The list, sorted. -/
theorem LS.sorted {n0 : Nat} {w : World} {keys : List (List Nat)} {v : Value} (h : LS n0 w keys v) {f : FuncId} (hf : SortOk P f) (hlen : keys.length ≤ 1000) :
    Calls P f #[v] w fun e w' => e = .returned (.tuple #[]) ∧ LS n0 w' (sortS keys) v ∧ (∀ b, b < n0 → w'.heap[b]? = w.heap[b]?) ∧ w.heap.size ≤ w'.heap.size ∧ w'.os = w.os ∧ w'.tape = w.tape ∧ w'.output = w.output := by
  rcases h with ⟨rfl, rfl⟩ | ⟨lc, h1, h2, h3, h4, hne⟩
  · refine (hf.none none 0 w).mono fun e w' ⟨q1, q2⟩ => ?_
    subst q2
    exact ⟨q1, .inl ⟨rfl, rfl⟩, fun _ _ => rfl, Nat.le_refl _, rfl, rfl, rfl⟩
  · obtain ⟨hb, c, t, fr, g1, g5, g6, g2, g7⟩ := h2
    simp only [Rep] at h1
    obtain ⟨l, cp, e1, rfl, e2, e3⟩ := h1
    have el : l = lc := by simp only [rhoL, if_pos] at e1; injection e1 with e1; exact e1.symm
    subst el
    have hsm : ∀ k ∈ keys, small k := fun k hk => by
      obtain ⟨i, hi⟩ := List.mem_iff_getElem?.1 hk
      obtain ⟨u, q1, q2⟩ := g2 i (.str k) (by rw [List.getElem?_map, hi]; rfl)
      simp only [Rep] at q2
      exact q2.2
    have hcell : ∀ (i : Nat) k, keys[i]? = some k → c[i]? = some (.string (strOf k)) := fun i k hi => by
      obtain ⟨u, q1, q2⟩ := g2 i (.str k) (by rw [List.getElem?_map, hi]; rfl)
      simp only [Rep] at q2
      rw [q1, q2.1]
    have hH : Holds encStr w l.b 0 (keys.map bytesOf).toArray := fun j hj => by
      have hj' : j < keys.length := by simpa using hj
      have hk : keys[j]? = some keys[j] := List.getElem?_eq_getElem hj'
      have hk2 : (keys.map bytesOf).toArray[j]! = bytesOf keys[j] := by
        rw [getElem!_pos _ j hj]; simp
      rw [hk2, enc_bytes]
      refine ⟨?_, ?_⟩
      · simp only [World.cell?, g1, Option.isSome_none, Bool.false_eq_true, if_false, Nat.zero_add]
        exact hcell j _ hk
      · have := g7 j (by simp at g6; omega)
        simp only [World.frozen?, g1, Nat.zero_add]
        simpa using this
    have hbase : l.base + 0 = 0 := by omega
    rw [hbase]
    have hl2 : keys.length = (keys.map bytesOf).length := by simp
    rw [hl2]
    refine (hf.some l.b 0 cp (keys.map bytesOf) w hH h4 (by simp; omega)).mono fun e w' ⟨q1, n, os, q2⟩ => ?_
    have hms : ((keys.map bytesOf).mergeSort fun x y => decide (x ≤ y)).map nums = sortS keys := by
      refine sort_eq _ _ ?_
      rw [List.map_map]
      have : keys.map (nums ∘ bytesOf) = keys := by
        conv => rhs; rw [← List.map_id keys]
        exact List.map_congr_left fun k hk => nums_bytes (hsm k hk)
      rw [this]
    generalize ((keys.map bytesOf).mergeSort fun x y => decide (x ≤ y)) = ms at q2 hms
    have hml : ms.length = keys.length := by
      have := congrArg List.length hms
      rw [sortS_length] at this
      simpa using this
    have hold : ∀ b, b < w.heap.size → w'.heap[b]? = if b = l.b then some (.cells (putCells encStr 0 ms.toArray c) t fr) else w.heap[b]? := by
      intro b hb
      rw [q2, heap_grow_old _ _ (by simpa [putRow, mapBlock, Sort.ahead] using hb)]
      show (w.heap.modify l.b _)[b]? = _
      rw [Array.getElem?_modify]
      by_cases e : b = l.b
      · subst e; rw [if_pos rfl, if_pos rfl, g1]; rfl
      · rw [if_neg (fun q => e q.symm), if_neg e]
    have hsz : w.heap.size ≤ w'.heap.size := by
      rw [q2]
      simp [grow, putRow, mapBlock, Sort.ahead]
    refine ⟨q1, .inr ⟨l, ?_, ?_, h3, by omega, fun z => hne (List.eq_nil_of_length_eq_zero (by rw [← sortS_length, z]; rfl))⟩, fun b hb => ?_, hsz, by rw [q2]; rfl, by rw [q2]; rfl, by rw [q2]; rfl⟩
    · simp only [Rep]
      refine ⟨l, cp, e1, ?_, by rw [sortS_length]; exact e2, e3⟩
      rw [sortS_length, hbase]; simp
    · rw [hold l.b h4, if_pos rfl]
      refine ⟨hb, _, t, fr, rfl, by simpa [putCells] using g5, by simpa [sortS_length] using g6, fun i a ha => ?_, g7⟩
      rw [← hms, List.map_map, List.getElem?_map, Option.map_eq_some_iff] at ha
      obtain ⟨k, hk, rfl⟩ := ha
      have hi : i < ms.length := (List.getElem?_eq_some_iff.1 hk).1
      have hic : i < c.size := by rw [g5]; simp at g6; omega
      refine ⟨encStr k, ?_, ?_⟩
      · simp only [putCells, Array.getElem?_mapIdx, Array.getElem?_eq_getElem hic, Option.map_some, Nat.zero_le, true_and, Nat.zero_add, Nat.sub_zero, List.size_toArray]
        rw [if_pos hi]
        have hmi : ms.toArray[i]! = k := by
          rw [getElem!_pos _ i (by simpa using hi)]
          simp only [List.getElem_toArray]
          rw [List.getElem?_eq_getElem hi] at hk
          injection hk
        rw [hmi]
      · simp only [Function.comp_apply, Rep]
        refine ⟨?_, nums_small k⟩
        rw [← enc_bytes, bytes_nums]
    · rw [hold b (by omega), if_neg (by omega)]
end
end Go.Am
