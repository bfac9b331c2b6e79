/- The table of contracts, with graft.less at one entry. -/
import Derived.Test.YtfffmmgmjlfkoaaGreatC11
namespace Go.Proofs.YtfffmmgmjlfkoaaGreat
set_option linter.unusedSimpArgs false
set_option linter.unusedVariables false
open Go.As

def kConNil : Kn := fun g args σ =>
  match Nat.beq g 75 with
  | true => (match args with | [.slice none 0 0, .int .i64 _] => some (.bool false, σ) | _ => none)
  | false => none

theorem kConNil_ok : kConNil.ok Tryz.prog := by
  intro g args σ v σ' h
  unfold kConNil at h
  split at h
  · rename_i hg
    have hg := Nat.eq_of_beq_eq_true hg
    subst hg
    split at h
    · rename_i k
      cases h
      exact con_nil _ k
    · cases h
  · cases h

noncomputable def kB1 : Kn := kAlt kB kConNil
theorem kB1_ok : kB1.ok Tryz.prog := kAlt_ok kB_ok kConNil_ok
noncomputable def kB2 : Kn := kAlt kB1 (kLess1 (kK Tryz.prog kB1 60))
theorem kB2_ok : kB2.ok Tryz.prog := kAlt_ok kB1_ok (kLess1_ok (kK_ok kB1_ok mixed 60))
end Go.Proofs.YtfffmmgmjlfkoaaGreat
