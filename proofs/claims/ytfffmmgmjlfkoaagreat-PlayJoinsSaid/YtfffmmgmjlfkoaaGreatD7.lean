/- PlayForms, run to its end behind begun. -/
import Derived.Test.YtfffmmgmjlfkoaaGreatA35
import Derived.Test.YtfffmmgmjlfkoaaGreatD6
namespace Go.Proofs.YtfffmmgmjlfkoaaGreat
set_option linter.unusedSimpArgs false
set_option linter.unusedVariables false
open Go.As
theorem begun_ok (σ : St) : Callable Tryz.prog 6 ∧ CallsA Tryz.prog 6 [] σ (.bool true) σ := by
  have h := begun_run
  split at h
  · rename_i σ' hk
    have := kK_ok kB3_ok mixed 300 _ _ _ _ _ hk
    exact ⟨this.1, this.2.anywhere rfl rfl rfl rfl σ⟩
  · cases h

def kBeg : Kn := fun g args σ =>
  match Nat.beq g 6 with
  | true => (match args with | [] => some (.bool true, σ) | _ => none)
  | false => none
theorem kBeg_ok : kBeg.ok Tryz.prog := by
  intro g args σ v σ' h
  unfold kBeg at h
  split at h
  · rename_i hg
    have hg := Nat.eq_of_beq_eq_true hg
    subst hg
    split at h
    · cases h
      exact begun_ok σ
    · cases h
  · cases h
theorem forms_run : (match kK Tryz.prog kBeg 300 3 [] St.none with | some (.bool true, _) => true | _ => false) = true := by decide +kernel
end Go.Proofs.YtfffmmgmjlfkoaaGreat
