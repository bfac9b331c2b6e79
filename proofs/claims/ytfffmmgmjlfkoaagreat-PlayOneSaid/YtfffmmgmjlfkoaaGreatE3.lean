/- A law that answers true, called from outside. -/
import Derived.Test.YtfffmmgmjlfkoaaGreatD15
import Derived.Test.YtfffmmgmjlfkoaaGreatE2
namespace Go.Proofs.YtfffmmgmjlfkoaaGreat
set_option linter.unusedSimpArgs false
set_option linter.unusedVariables false
open Go.As
theorem calls_true {g : FuncId} {args : List Value} (h : Con Tryz.prog g args St.none (fun rv _ => rv = .bool true)) (w : World) (args' : Array Value) (ha : LRel (fun _ => Option.none) args args'.toList) :
    Calls Tryz.prog g args' w fun e w' => e = .returned (.bool true) ∧ Go.RowKit.Below w.heap.size w w' := by
  obtain ⟨v, σ', hc, rfl⟩ := h
  refine (hc.2 _ w args' (Rel.none w) ha).mono ?_
  rintro e w' ⟨v', rfl, f', hx, _, hvr⟩
  exact ⟨by rw [hvr.disc rfl], below_of_ext hx⟩
theorem lrel_closed (f : Inj) {l : List Value} (h : l.all closedV = true) : LRel f l l := by
  refine ⟨rfl, fun i x x' hx hx' => ?_⟩
  rw [hx] at hx'
  cases hx'
  exact VRel.closed f (List.all_eq_true.1 h x (List.mem_of_getElem? hx))
end Go.Proofs.YtfffmmgmjlfkoaaGreat
