/- term.Names for the abstract machine: the names that a term uses, sorted. -/
import Derived.Test.YtgolgogmhcgecaaGreatAmDraw4
namespace Go.Am
set_option linter.unusedVariables false

noncomputable def insK (x : AV) (l : List AV) : List AV :=
  List.rec (motive := fun _ => List AV) [x] (fun y ys ih => match x, y with
    | .str a, .str b => bif sLt a b then x :: y :: ys else y :: ih
    | _, _ => y :: ih) l
noncomputable def sortK (l : List AV) : List AV := List.rec (motive := fun _ => List AV) [] (fun x _ ih => insK x ih) l
noncomputable def keysOf (l : List (AV × AV)) : List AV := List.rec (motive := fun _ => List AV) [] (fun p _ ih => p.1 :: ih) l
noncomputable def allStr (l : List (AV × AV)) : Bool := List.rec (motive := fun _ => Bool) true (fun p _ ih => match p.1 with
  | .str _ => ih
  | _ => false) l
/-- What follows behind the call: the keys that were collected, sorted, in a block of their own. -/
noncomputable def finishF : FC := fun _ e s => match e.get 3, e.get 4 with
  | some (.map o), some .nilSlice => match s.heap.get o with
    | some (.map es) => bif Nat.ble (lenL es) 1000 then bif allStr es then match sortK (keysOf es) with
        | [] => some (.ret (Tr.put (some .nilSlice) .leaf 2) s)
        | k :: ks => match s.new (.cells (k :: ks) false) with
          | (o', s') => some (.ret (Tr.put (some (.slice o' 0 (lenL (k :: ks)) (.full 1))) .leaf 2) s') else none else none
    | _ => none
  | _, _ => none
end Go.Am
