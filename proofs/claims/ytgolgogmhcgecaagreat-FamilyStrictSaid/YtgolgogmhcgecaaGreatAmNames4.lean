/- The loop that collects a map's keys: the list, and a round's appending in the model. -/
import Derived.Test.YtgolgogmhcgecaaGreatAmNames3
namespace Go.Am
set_option linter.unusedVariables false
set_option linter.unusedSimpArgs false

section
variable {P : Program}

def rhoL (lc : Loc) : Rho := fun x => if x = 0 then some lc else none
/-- The list so far: nothing, or a block of its own behind n0. -/
def LS (n0 : Nat) (w : World) (keys : List (List Nat)) (v : Value) : Prop :=
  (keys = [] ∧ v = .slice none 0 0) ∨ ∃ lc, Rep (rhoL lc) (.slice 0 0 keys.length (.full 1)) v ∧ ObjRep (rhoL lc) lc w.heap[lc.b]? (.cells (keys.map AV.str) false) ∧ n0 ≤ lc.b ∧ lc.b < w.heap.size ∧ keys ≠ []

/-- All blocks but one are kept. -/
def Fr.but (w : World) (b : Nat) : Fr where
  k x := x < w.heap.size ∧ x ≠ b
  p x := x < w.heap.size ∧ x ≠ b

theorem region_run {N id : Nat} {ops : Array Oper} {F : List FO} (h7 : ops.toList.map (trOper P N ops) = F) {call : Call} (hcall : CallOk P call) {e : Tr AV} {s : St} {e' : Tr AV} {s' : St} (h : opsF F call e s = some (e', s'))
    {W : Fr} {w0 w : World} {ρ : Rho} {a : Act} (he : EnvRep ρ e a.tmps) (hN : N ≤ a.tmps.size) (hs : Sat W w0 ρ s.heap.get w) (hf : Fresh ρ s.next s'.next) {Q : Exit → Act → World → Prop}
    (hQ : ∀ ρ' a' w', Ext ρ ρ' s.next s'.next → EnvRep ρ' e' a'.tmps → a'.tmps.size = a.tmps.size → a'.defers = a.defers → Sat W w0 ρ' s'.heap.get w' → Q .normal a' w') : (Code.region id ops false).wp P Q a w := by
  refine wp_region ?_
  rw [List.range_eq_range']
  have h2 : opsF ((ops.toList.drop 0).map (trOper P N ops)) call e s = some (e', s') := by rw [List.drop_zero, h7]; exact h
  exact (ops_sound (P := P) (Q := Q) hcall ops.size 0 e s e' s' (by omega) h2).2 W w0 ρ w a he hN hs hf hQ
theorem noCall : CallOk P (fun _ _ _ => none) := fun f vs s v s' h => by cases h
end
end Go.Am
