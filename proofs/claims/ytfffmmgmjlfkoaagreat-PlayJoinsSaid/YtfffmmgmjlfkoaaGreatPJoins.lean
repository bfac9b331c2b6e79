/- The law PlayJoins answers true at all arguments, whatever memory it is called in. No condition. -/
import Derived.Test.YtfffmmgmjlfkoaaGreatRows
import Derived.Test.YtfffmmgmjlfkoaaGreatE4
namespace Go.Proofs.YtfffmmgmjlfkoaaGreat.playJoins
open Go.ChangeShapes Go.WideShapes Go.ChangeAt Go.RowKit Go.As
set_option linter.unusedVariables false
set_option linter.unusedSimpArgs false

theorem own : ownKnob Tryz.prog.godebug = none := by kernel_rfl

set_option maxRecDepth 100000 in
theorem lifted (os : Os) (started : os.Started) (H : Type) (enc : TypeId × Value → H) :
    ReturnsInHanded {} Tryz.checked os 5 .any (Rows.playJoinsSpec.pre6 enc Tryz.prog Tryz.f5 Rows.playJoinsRow.domain false) (Rows.playJoinsSpec.post enc Tryz.prog Tryz.f5 false true false false) := by
  refine returnsInHanded_of_change (C := Tryz.checked) own started (by kernel_rfl) Tryz.func5
    (ChangeSpec.witness6 (enc := enc) (C := Tryz.checked) false ⟨#[], #[.slice none 0 0, .slice none 0 0], []⟩ 8 (by kernel_rfl) (by kernel_rfl) (by kernel_rfl) (by kernel_rfl)) ?_
  intro W base args ds gs before hval0 hW hcnd _
  have hval : ∀ (j : Nat) t v, Tryz.f5.params[j]? = some t → args[j]? = some v → Value.okWide Tryz.prog W .any base t v := hval0
  have hW' := hW
  obtain ⟨p, q, hA0, hV, rfl, hfz, hnd⟩ := hW
  have hA : DataW.TrodAll enc Tryz.prog W 0 (fun _ => true) true Tryz.f5.params.toList args.toList ds p := hA0
  rw [Tryz.params5] at hA hval
  obtain ⟨v0, vs0, d0, ds0, p0, q0, hargs, rfl, rfl, h0, r0⟩ := trodAll_cons hA
  obtain ⟨v1, vs1, d1, ds1, p1, q1, rfl, rfl, rfl, h1, r1⟩ := trodAll_cons r0
  obtain ⟨rfl, rfl, rfl⟩ := trodAll_nil r1
  obtain rfl : args = #[v0, v1] := by cases args; simp_all
  obtain ⟨rfl, rfl⟩ := trodVars_none hV
  obtain ⟨xs, hx, hxb, hxr⟩ := open25 (hval 0 25 v0 rfl rfl) h0
  obtain ⟨ys, hy, hyb, hyr⟩ := open25 (hval 1 25 v1 rfl rfl) h1
  clear hA0 hval0
  simp only [List.append_nil] at hW'
  refine (joins_calls hx hy hxb hyb).mono fun e W' ⟨he, hg⟩ => ?_
  subst he
  exact ⟨_, rfl, post_of_below (pa := p0 ++ p1) (pv := []) hW' (fun _ _ _ => (trodAll_cons_mk (shut_bool Tryz.underlying4 _) trodAll_mk0))
    (fun sp hsp => by
      have t0 := hxr W' sp hg (fun p hp => hsp p (List.mem_append_left _ hp))
      have t1 := hyr W' sp hg (fun p hp => hsp p (List.mem_append_right _ hp))
      have := trodAll_cons_mk t0 (trodAll_cons_mk t1 trodAll_mk0)
      have h2 : DataW.TrodAll enc Tryz.prog W' 0 sp true [25, 25] [v0, v1] [d0, d1] (p0 ++ p1) := by simpa using this
      exact h2) (fun _ _ => rfl) (by simp)
    hg (ok_one (by kernel_rfl) rfl (okWide_bool_mk Tryz.underlying4 _))⟩

theorem over : Rows.playJoinsRow.holds Tryz.pinned (OpenSpec.ofChange Rows.playJoinsSpec) :=
  OpenClaim.holds_of_wide 5 Tryz.f5 rfl rfl rfl rfl rfl rfl rfl ⟨rfl, rfl, rfl, rfl, rfl⟩ rfl rfl rfl rfl rfl (by kernel_rfl) Tryz.func5 (by kernel_rfl)
    (of_decide_eq_true (by kernel_rfl)) (by unfold Func.isWrapper; first | (rw [if_pos (by decide +kernel)]; kernel_rfl) | (rw [if_neg (by decide +kernel)]; exact ⟨rfl, rfl⟩))
    (fun os started H enc _ => lifted os started H enc)

theorem proved : Rows.PlayJoinsSaid :=
  over
#print axioms proved
end Go.Proofs.YtfffmmgmjlfkoaaGreat.playJoins
