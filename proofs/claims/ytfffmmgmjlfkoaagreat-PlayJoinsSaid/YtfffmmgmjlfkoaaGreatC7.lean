/- Tables that are all wanted stay: the contract. -/
import Derived.Test.YtfffmmgmjlfkoaaGreatC6
namespace Go.Proofs.YtfffmmgmjlfkoaaGreat
set_option linter.unusedSimpArgs false
set_option linter.unusedVariables false
open Go.As

theorem turns_keep {f f' : Inj} {σ σ' : St} {w w' : World} {v v' : Value} (hR : Rel f σ w) (hx : Ext f σ w f' σ' w') (hR' : Rel f' σ' w') (hold : ∀ b, b < σ.next → σ'.get b = σ.get b) (hv : VRel f v v') : Turns f σ w v σ v' w' := by
  refine ⟨f, ⟨fun _ _ h => h, hx.os, hx.tape, hx.output, hx.size, hx.keep, fun c hc h => h, fun c hc h => h, fun b x h => .inl h, Nat.le_refl _⟩, ⟨?_, ?_, hR.dom, ?_⟩, hv⟩
  · intro b o c k hb hf
    obtain ⟨o', h1, h2⟩ := hR'.obj b o c k (by rw [hold b (hR.dom b _ hf)]; exact hb) (hx.le _ _ hf)
    obtain ⟨o0, _, h0⟩ := hR.obj b o c k hb hf
    exact ⟨o', h1, h0.back hx.le h2⟩
  · intro b b' o o' c k k' h1 h2 h3 h4
    exact hR.inj b b' o o' c k k' h1 h2 h3 h4
  · intro b c k hf
    exact Nat.lt_of_lt_of_le (hR.img b c k hf) hx.size

theorem rowOf_congr {rd rd' : Nat → Option AObj} {v : Value} {xs : List Int} (h : rowOf rd v = some xs) (hc : ∀ b off n c, v = .slice (some ⟨b, off, none⟩) n c → rd' b = rd b) : rowOf rd' v = some xs := by
  unfold rowOf at h ⊢
  split at h
  · rename_i b off n c
    simp only [hc b off n c rfl]
    exact h
  · cases h

theorem lsRes (T : List Value) (σ : St) : resA Tryz.prog Tryz.f103.results.toList T σ = some (.tuple #[]) := by kernel_rfl
theorem lsStart (tv want : Value) (bm : Nat) : (As.start Tryz.f103 [tv, .map (some bm), want]).length = 33 ∧ (As.start Tryz.f103 [tv, .map (some bm), want]).getD 1 undef = .map (some bm) ∧ (As.start Tryz.f103 [tv, .map (some bm), want]).getD 2 undef = want := by
  refine ⟨by kernel_rfl, by kernel_rfl, by kernel_rfl⟩

theorem less_ok {σ : St} {bm : Nat} {es : List (Int × Value)} {tv want : Value} {xs : List Int} (hm : σ.get bm = some (.map .i64 es)) (hrow : es ≠ [] → rowOf σ.get want = some xs) (hw : es ≠ [] → ∀ b off n c, want = .slice (some ⟨b, off, none⟩) n c → b < σ.next)
    (hall : ∀ p ∈ es, xs.contains p.1 = true) : Callable Tryz.prog 103 ∧ CallsA Tryz.prog 103 [tv, .map (some bm), want] σ (.tuple #[]) σ := by
  refine ⟨⟨Tryz.f103, Tryz.func103, by kernel_rfl, rfl⟩, ?_⟩
  intro f w args' hR ha
  refine calls_of_wp Tryz.func103 lsCode_eq ?_
  have hT1 := start_rel (fn := Tryz.f103) ha
  obtain ⟨hs1, hs2, hs3⟩ := lsStart tv want bm
  generalize hTT : As.start Tryz.f103 [tv, .map (some bm), want] = T0 at hT1 hs1 hs2 hs3
  generalize htm : (args' ++ Array.replicate (Tryz.f103.ntmps - args'.size) undef) = tm at hT1
  rw [lsCode_shape]
  obtain ⟨cm, k, ev1, hf⟩ : ∃ cm k, ({ tmps := tm, defers := [] } : Act).eval (.tmp 1) = .map (some cm) ∧ f bm = some (cm, k) := by
    have := eval_of (a := { tmps := tm, defers := [] }) hT1 1
    rw [hs2] at this
    obtain ⟨r', q, e, hq⟩ := this.map_of
    exact ⟨r', q, e, hq⟩
  obtain ⟨es', ck, w2, hrange, hxs, hRs, hIt, hMap⟩ := range_start (P := Tryz.prog) (t := 171) hR hm hf Tryz.underlying171
  refine wp_seq ?_
  unfold lsR0
  refine wp_region ?_
  show wpOps Tryz.prog _ _ [0, 1] _ w
  simp only [wpOps]
  refine .inl ?_
  refine OpTo.value (R := fun x w' => x = .map (some cm) ∧ w' = w) (v' := .map (some cm)) (w' := w) (by simp [execOp, ev1]) ⟨rfl, rfl⟩ _ _ ?_
  rintro x w1' ⟨rfl, rfl⟩
  refine .inl ?_
  have hl1 : 8 < tm.size := by have := hT1.1; simp only [Array.length_toList] at this; omega
  have ev7 : (Act.put { tmps := tm, defers := [] } (some 8) (.map (some cm))).eval (.tmp 8) = .map (some cm) := by simp [Act.put, Act.eval, hl1]
  refine OpTo.value (R := fun x w' => x = .pointer (some ⟨w1'.heap.size, 0, none⟩) ∧ w' = w2) (v' := .pointer (some ⟨w1'.heap.size, 0, none⟩)) (w' := w2) (run_v (by show (Instr.range 171 ((Act.put { tmps := tm, defers := [] } (some 8) (.map (some cm))).eval (.tmp 8))).run _ _ = _; rw [ev7]; exact hrange)) ⟨rfl, rfl⟩ _ _ ?_
  rintro y w2' ⟨rfl, rfl⟩
  have hle3 := hxs.le
  have hT3 : LRel (f.set σ.next (w1'.heap.size, 0)) ((T0.set 8 (.map (some bm))).set 9 (.pointer (some ⟨σ.next, 0, none⟩))) ((Act.put { tmps := tm, defers := [] } (some 8) (.map (some cm))).put (some 9) (.pointer (some ⟨w1'.heap.size, 0, none⟩))).tmps.toList := by
    have h1 := putL_rel (a := { tmps := tm, defers := [] }) (LRel.mono hle3 hT1) (some 8) (VRel.map bm cm k (hle3 _ _ hf))
    exact putL_rel h1 (some 9) (v := .pointer (some ⟨σ.next, 0, none⟩)) (v' := .pointer (some ⟨w1'.heap.size, 0, none⟩)) (.ptr _ _ ⟨rfl, rfl, rfl, 0, hIt.fi⟩)
  have hrowh : es ≠ [] → rowOf (hid σ bm).get want = some xs := by
    intro hne
    have hrow := hrow hne
    refine rowOf_congr hrow fun b off n c e => ?_
    obtain ⟨b0, off0, n0, c0, cs, e0, kd, e1, hb0, _⟩ := rowOf_spec hrow
    rw [e] at e1
    cases e1
    have h1 := hw hne _ _ _ _ e
    rw [hid_get, if_neg (by omega), if_neg (fun e => by rw [e, hm] at hb0; cases hb0)]
  refine wp_block (wp_loop_rounds ((leftOf es' #[]).size + 1) ?_)
  refine range_rounds kCon_ok mixed (N := 5) (s := lsS) (ik := .i64) (es := es) (bi := σ.next) (LsInv σ.next want (hid σ bm)) ?_ ⟨by decide, by decide, by decide⟩ lsS_tail lsS_rest ?_
    (f0 := f) (σ0 := σ.del bm) (w0 := w1') (ds := []) (r := w1'.heap.size) (Nat.le_refl _) ?_ _ [] #[] _ _ _ w2' _ (Nat.lt_succ_self _) hxs hRs hT3 (by rw [put_defers, put_defers]) hIt ?_ hMap ?_
  · intro done T σ' hI
    exact ⟨hI.it, by rw [hI.len]; decide, by rw [hI.len]; decide⟩
  · intro done T σ' n v hI hmem hn
    exact ls_body hI (hrowh (fun e => by rw [e] at hmem; cases hmem)) (hall _ hmem)
  · intro done seen T σ' f' w' a' hx hR' hT' hd' hi hI hmo hD hfull
    have hst := hI.st
    subst hst
    obtain ⟨hxu, hRu⟩ := unhide hm hf hx hR' hi.offm hi.mp (.map _ _ _ _ hmo)
    obtain ⟨v', hrr, hv⟩ := resA_ok (fn := Tryz.f103) hRu hT' (lsRes _ _)
    have hv0 : v' = .tuple #[] := by
      cases hv with
      | tuple _ cs' h1 h2 =>
        have : cs'.size = 0 := by simpa using h1.symm
        rw [Array.eq_empty_of_size_eq_zero this]
    subst hv0
    show Exit.inBlock 0 _ (.exit 0) a' w'
    simp only [Exit.inBlock, if_true]
    refine ⟨hd', _, hrr, _, rfl, ?_⟩
    refine turns_keep hR hxu hRu (fun b hbn => ?_) (VRel.closed _ rfl)
    rw [St.get_put]
    by_cases hbm : b = bm
    · rw [if_pos hbm, hbm, hm]
    · rw [if_neg hbm, hid_get, if_neg (by omega), if_neg hbm]
  · refine ⟨by simp [hs1], ?_, ?_, rfl⟩
    · rw [List.getD_eq_getElem?_getD, List.getElem?_set_ne (by decide), List.getElem?_set_ne (by decide), ← List.getD_eq_getElem?_getD]
      exact hs3
    · rw [List.getD_eq_getElem?_getD, List.getElem?_set_self (by simp [hs1])]
      rfl
  · exact ⟨⟨[], rfl, (fun e he => absurd he List.not_mem_nil), rfl⟩, (fun p hp => absurd hp List.not_mem_nil), List.nodup_nil⟩
end Go.Proofs.YtfffmmgmjlfkoaaGreat
