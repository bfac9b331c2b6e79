/- A call that needs nothing of a state leaves it. -/
import Derived.Test.YtfffmmgmjlfkoaaGreatA34
namespace Go.As
set_option linter.unusedSimpArgs false
set_option linter.unusedVariables false

theorem CallsA.anywhere {P : Program} {g : FuncId} {args : List Value} {v : Value} {σ' : St} (h : CallsA P g args St.none v σ') (ha : args.all closedV = true) (hv : closedV v = true) (hd : args.all discV = true) (hvd : discV v = true) (σ : St) : CallsA P g args σ v σ := by
  intro f w args' hR hl
  have hl0 : LRel (fun _ => Option.none) args args'.toList := by
    refine ⟨hl.1, fun i x x' hx hx' => ?_⟩
    have h1 := hl.2 i x x' hx hx'
    have hm := List.mem_of_getElem? hx
    rw [h1.disc (List.all_eq_true.1 hd x hm)]
    exact VRel.closed _ (List.all_eq_true.1 ha x hm)
  refine (h _ w args' (Rel.none w) hl0).mono ?_
  rintro e w' ⟨v', rfl, f', hx, _, hvr⟩
  have hkeep : ∀ c, c < w.heap.size → w'.heap[c]? = w.heap[c]? := fun c hc => hx.keep c hc (fun ⟨b, o, k, _, _, h3⟩ => by cases h3)
  refine ⟨v', rfl, f, ⟨fun _ _ h => h, hx.os, hx.tape, hx.output, hx.size, fun c hc _ => hkeep c hc, fun _ _ h => h, fun _ _ h => h, fun _ _ h => .inl h, Nat.le_refl _⟩, ⟨?_, hR.inj, hR.dom, fun b c k hf => Nat.lt_of_lt_of_le (hR.img b c k hf) hx.size⟩, ?_⟩
  · intro b o c k hb hf
    obtain ⟨o', h1, h2⟩ := hR.obj b o c k hb hf
    exact ⟨o', by rw [hkeep c (hR.img b c k hf)]; exact h1, h2⟩
  · rw [hvr.disc hvd]
    exact VRel.closed f hv
end Go.As
