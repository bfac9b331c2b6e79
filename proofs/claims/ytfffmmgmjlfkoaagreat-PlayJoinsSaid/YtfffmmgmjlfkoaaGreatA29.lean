/- What a call made, under new numbers. -/
import Derived.Test.YtfffmmgmjlfkoaaGreatA28
namespace Go.As
set_option linter.unusedSimpArgs false
set_option linter.unusedVariables false

/-- The elder numbers stay; number i from 'n' on stands for what had number r i. -/
def ren (n : Nat) (r : Nat → Option Nat) (i : Nat) : Option Nat := if i < n then some i else r i
def selF (n : Nat) (r : Nat → Option Nat) (f' : Inj) : Inj := fun i => (ren n r i).bind f'

theorem selF_some {n : Nat} {r : Nat → Option Nat} {f' : Inj} {i : Nat} {x : Nat × Nat} (h : selF n r f' i = some x) : ∃ j, ren n r i = some j ∧ f' j = some x := by
  unfold selF at h
  cases hr : ren n r i with
  | none => rw [hr] at h; cases h
  | some j => rw [hr] at h; exact ⟨j, rfl, h⟩

theorem Turns.sel {f f' : Inj} {σ σ' σt : St} {w w' : World} {r : Nat → Option Nat} (hdom : ∀ b x, f b = some x → b < σ.next) (hx : Ext f σ w f' σ' w') (hR : Rel f' σ' w') (hn : σ.next ≤ σt.next)
    (hr1 : ∀ i j, r i = some j → σ.next ≤ i → σ.next ≤ j ∧ i < σt.next) (hr2 : ∀ i i' j, σ.next ≤ i → σ.next ≤ i' → r i = some j → r i' = some j → i = i')
    (hobj : ∀ b j o c k, σt.get b = some o → ren σ.next r b = some j → f' j = some (c, k) → ∃ o', w'.heap[c]? = some o' ∧ ObjRel (selF σ.next r f') k o o')
    (hsub : ∀ b j o, σt.get b = some o → ren σ.next r b = some j → ∃ o2, σ'.get j = some o2 ∧ o2.writable = o.writable) :
    Ext f σ w (selF σ.next r f') σt w' ∧ Rel (selF σ.next r f') σt w' := by
  have hlow : ∀ i, i < σ.next → ren σ.next r i = some i := fun i hi => if_pos hi
  have hhigh : ∀ i, ¬ i < σ.next → ren σ.next r i = r i := fun i hi => if_neg hi
  have hinj : ∀ i i' j, ren σ.next r i = some j → ren σ.next r i' = some j → i = i' := by
    intro i i' j h1 h2
    by_cases a : i < σ.next
    · rw [hlow i a] at h1
      cases h1
      by_cases b : i' < σ.next
      · rw [hlow i' b] at h2; cases h2; rfl
      · rw [hhigh i' b] at h2
        have := (hr1 i' i h2 (by omega)).1
        omega
    · rw [hhigh i a] at h1
      by_cases b : i' < σ.next
      · rw [hlow i' b] at h2
        cases h2
        have := (hr1 i i' h1 (by omega)).1
        omega
      · rw [hhigh i' b] at h2
        exact hr2 i i' j (by omega) (by omega) h1 h2
  refine ⟨⟨?_, hx.os, hx.tape, hx.output, hx.size, hx.keep, ?_, ?_, ?_, hn⟩, ⟨?_, ?_, ?_, ?_⟩⟩
  · intro b x h
    unfold selF
    rw [hlow b (hdom b x h)]
    exact hx.le b x h
  · rintro c hc ⟨b, o, q, h1, h2, h3⟩
    obtain ⟨j, h4, h5⟩ := selF_some h3
    obtain ⟨o2, h6, h7⟩ := hsub b j o h1 h4
    exact hx.img c hc ⟨j, o2, q, h6, by rw [h7]; exact h2, h5⟩
  · rintro c hc ⟨b, o, q, h1, h3⟩
    obtain ⟨j, h4, h5⟩ := selF_some h3
    obtain ⟨o2, h6, _⟩ := hsub b j o h1 h4
    exact hx.imgl c hc ⟨j, o2, q, h6, h5⟩
  · intro b x h
    obtain ⟨j, h4, h5⟩ := selF_some h
    by_cases a : b < σ.next
    · rw [hlow b a] at h4
      cases h4
      exact hx.new b x h5
    · exact .inr (by omega)
  · intro b o c k h1 h2
    obtain ⟨j, h4, h5⟩ := selF_some h2
    exact hobj b j o c k h1 h4 h5
  · intro b b' o o' c k k' h1 h2 h3 h4
    obtain ⟨j, h5, h6⟩ := selF_some h3
    obtain ⟨j', h7, h8⟩ := selF_some h4
    obtain ⟨o2, h9, _⟩ := hsub b j o h1 h5
    obtain ⟨o3, h10, _⟩ := hsub b' j' o' h2 h7
    have := hR.inj j j' o2 o3 c k k' h9 h10 h6 h8
    subst this
    exact hinj b b' j h5 h7
  · intro b x h
    obtain ⟨j, h4, _⟩ := selF_some h
    by_cases a : b < σ.next
    · omega
    · rw [hhigh b a] at h4
      exact (hr1 b j h4 (by omega)).2
  · intro b c k h
    obtain ⟨j, _, h5⟩ := selF_some h
    exact hR.img j c k h5
end Go.As
