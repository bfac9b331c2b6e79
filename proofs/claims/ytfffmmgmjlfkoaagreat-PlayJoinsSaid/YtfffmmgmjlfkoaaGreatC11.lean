/- graft.less at one entry, as a table over another one. -/
import Derived.Test.YtfffmmgmjlfkoaaGreatC10
namespace Go.Proofs.YtfffmmgmjlfkoaaGreat
set_option linter.unusedSimpArgs false
set_option linter.unusedVariables false
open Go.As

noncomputable def lsOps : Array Oper := (⟨some lsS.d3, .entry (.tmp lsS.it), lsS.ty3, lsS.p3, lsS.af3, none⟩ :: lsS.tail).toArray

noncomputable def kLess1 (K : Kn) : Kn := fun g args σ =>
  match Nat.beq g 103 with
  | true =>
    match args with
    | [tv, .map (some bm), want] =>
      match σ.get bm with
      | some (.map .i64 [(k0, v0)]) =>
        match opsR Tryz.prog K lsOps 33 lsS.tail (fill .nil 0 (lsT tv want bm σ.next k0 v0)) ((hid σ bm).put bm (.map .i64 [(k0, v0)])) with
        | some (t1, σ1) =>
          match (evK Tryz.prog K 5 33 lsS.rest).1 t1 σ1 with
          | some (.normal, t2, σ2) =>
            match σ2.get bm, rdT 33 t2 9 with
            | some (.map .i64 []), .pointer (some ⟨b, 0, none⟩) => (match Nat.beq b σ.next with | true => some (.tuple #[], σ2) | false => none)
            | _, _ => none
          | _ => none
        | none => none
      | _ => none
    | _ => none
  | false => none

theorem kLess1_ok {K : Kn} (hK : K.ok Tryz.prog) : (kLess1 K).ok Tryz.prog := by
  intro g args σ v σ' h
  unfold kLess1 at h
  split at h
  · rename_i hg
    have hg := Nat.eq_of_beq_eq_true hg
    subst hg
    split at h
    · rename_i tv bm want
      split at h
      · rename_i k0 v0 hm
        split at h
        · rename_i t1 σ1 h1
          split at h
          · rename_i t2 σ2 h2
            split at h
            · rename_i b h3 h4
              split at h
              · rename_i hb
                have hb := Nat.eq_of_beq_eq_true hb
                subst hb
                cases h
                have hlen : (lsT tv want bm σ.next k0 v0).length = 33 := by
                  unfold lsT
                  simp [(lsStart tv want bm).1]
                have hTR := TR.of_list (lsT tv want bm σ.next k0 v0)
                rw [hlen] at hTR
                rw [opsR_eq] at h1
                obtain ⟨T1, r1, r2⟩ := opsF_sim _ _ _ _ _ _ hTR h1
                rw [evK_eq] at h2
                obtain ⟨T2, r3, r4⟩ := (evF_sim (P := Tryz.prog) (K := K) (n := 5) (nt := 33) lsS.rest).1 T1 t1 σ1 _ _ _ r2 h2
                exact less1_ok hK hm r1 r3 h3 ((r4.get 9).trans h4) r4.len
              · cases h
            · cases h
          · cases h
        · cases h
      · cases h
    · cases h
  · cases h
end Go.Proofs.YtfffmmgmjlfkoaaGreat
