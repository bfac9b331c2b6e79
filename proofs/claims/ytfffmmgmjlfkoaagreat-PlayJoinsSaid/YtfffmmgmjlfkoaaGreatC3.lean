/- A map of its own: the contract. -/
import Derived.Test.YtfffmmgmjlfkoaaGreatC2
namespace Go.Proofs.YtfffmmgmjlfkoaaGreat
set_option linter.unusedSimpArgs false
set_option linter.unusedVariables false
open Go.As

noncomputable def twCode : Code := match Tryz.f71.body with | some c => c | none => .skip
theorem twCode_eq : Tryz.f71.body = some twCode := by kernel_rfl

theorem mapOk_all {f : Inj} {ik : IntKind} {es done : List (Int × Value)} {es' : List MapEntry} {ck : Nat} (h : MapOk f ik done es' ck) (hn : (es.map (·.1)).Nodup) (hall : ∀ p ∈ es, p.1 ∈ done.map (·.1)) (hsub : ∀ p ∈ done, p ∈ es) : MapOk f ik es es' ck := by
  refine ⟨hn, fun n v hv => ?_, fun e he => ?_, h.keys, h.born, h.lt⟩
  · obtain ⟨q, hq, hqn⟩ := List.mem_map.1 (hall _ hv)
    have hqe := hsub q hq
    have : q = (n, v) := by
      have key : ∀ {l : List (Int × Value)}, (l.map (·.1)).Nodup → ∀ {x y : Int × Value}, x ∈ l → y ∈ l → x.1 = y.1 → x = y := by
        intro l
        induction l with
        | nil => intro _ x y hx; cases hx
        | cons z l ih =>
          intro hp x y hx hy hxy
          simp only [List.map_cons, List.nodup_cons] at hp
          rcases List.mem_cons.1 hx with e1 | g1
          · rcases List.mem_cons.1 hy with e2 | g2
            · rw [e1, e2]
            · subst e1; exact absurd (List.mem_map.2 ⟨y, g2, hxy.symm⟩) hp.1
          · rcases List.mem_cons.1 hy with e2 | g2
            · subst e2; exact absurd (List.mem_map.2 ⟨x, g1, hxy⟩) hp.1
            · exact ih hp.2 g1 g2 hxy
      exact key hn hqe hv hqn
    subst this
    exact h.to n v hq
  · obtain ⟨n, v, hk, hv⟩ := h.of e he
    exact ⟨n, v, hk, hsub _ hv⟩

noncomputable def twT0 (bm : Nat) : List Value := [.map (some bm), undef, undef, undef, undef, undef, undef, undef, undef, undef, undef, undef, undef, undef, undef, undef, undef, undef]
noncomputable def twT1 (bm bo : Nat) : List Value := [.map (some bm), undef, .map none, .map (some bo), undef, undef, .map (some bo), undef, undef, undef, undef, undef, undef, undef, undef, undef, undef, undef]
noncomputable def twT2 (bm bo bi : Nat) : List Value := [.map (some bm), undef, .map none, .map (some bo), undef, undef, .map (some bo), .map (some bm), .pointer (some ⟨bi, 0, none⟩), undef, undef, undef, undef, undef, undef, undef, undef, undef]

noncomputable def twA : Code := match twCode with | .seq r0 (.seq r1 _) => .seq r0 r1 | _ => .skip
noncomputable def twR6 : Code := match twCode with | .seq _ (.seq _ (.seq _ (.seq r _))) => r | _ => .skip

theorem twA_run (σ : St) (bm : Nat) : (ev Tryz.prog (evRegB Tryz.prog) noK 5 twA).1 (twT0 bm) σ = some (.normal, twT1 bm σ.next, σ.add (.map .i64 [])) := by kernel_rfl
theorem twA_ok : codeOk twA = true := by kernel_rfl
theorem twR6_ok : codeOk twR6 = true := by kernel_rfl

theorem twin_turns {f : Inj} {σ : St} {w : World} {bm cm k : Nat} {es : List (Int × Value)} (hR : Rel f σ w) (hm : σ.get bm = some (.map .i64 es)) (hf : f bm = some (cm, k)) (hes : ∀ p ∈ es, isLf p.2)
    {f' : Inj} {σ' : St} {w' : World} {done : List (Int × Value)} (hx : Ext f σ w f' σ' w') (hR' : Rel f' σ' w') (hold : ∀ b, b < σ.next → σ'.get b = σ.get b) (hnew : σ'.get σ.next = some (.map .i64 done))
    (hall : ∀ p ∈ es, p.1 ∈ done.map (·.1)) (hsub : ∀ p ∈ done, p ∈ es) {v' : Value} (hv : VRel f' (.map (some σ.next)) v') : Turns f σ w (.map (some σ.next)) (σ.add (.map .i64 es)) v' w' := by
  have hnd : (es.map (·.1)).Nodup := by
    obtain ⟨o', _, h2⟩ := hR.obj bm _ cm k hm hf
    cases h2 with
    | map _ _ _ _ m => exact m.nodup
  have hget : ∀ b o, (σ.add (.map .i64 es)).get b = some o → b < (σ.add (.map .i64 es)).next → (b = σ.next ∧ o = .map .i64 es) ∨ (b < σ.next ∧ σ.get b = some o) := by
    intro b o h1 h2
    rw [St.get_add] at h1
    split at h1
    · rename_i e; cases h1; exact .inl ⟨e, rfl⟩
    · rename_i e
      refine .inr ⟨?_, h1⟩
      have : b < σ.next + 1 := h2
      omega
  have hfle : Inj.le f (fun i => if i < (σ.add (.map .i64 es)).next then f' i else none) := by
    intro b x h
    have h1 := hR.dom b x h
    show (if b < σ.next + 1 then f' b else none) = some x
    rw [if_pos (by omega)]
    exact hx.le b x h
  obtain ⟨c1, c2⟩ := Turns.cut (σt := σ.add (.map .i64 es)) hR.dom hx hR' (Nat.le_succ _) (by
    intro b o c q h1 h2 h3
    rcases hget b o h1 h2 with ⟨rfl, rfl⟩ | ⟨g1, g2⟩
    · obtain ⟨o', h4, h5⟩ := hR'.obj _ _ c q hnew h3
      refine ⟨o', h4, ?_⟩
      cases h5 with
      | map _ _ es' ck m =>
        have m2 := mapOk_all m hnd hall hsub
        refine .map _ _ es' ck ⟨m2.nodup, fun n v hn => ?_, m2.of, m2.keys, m2.born, m2.lt⟩
        obtain ⟨e, g1, g2, g3⟩ := m2.to n v hn
        refine ⟨e, g1, g2, ?_⟩
        obtain ⟨a, b, hab⟩ := hes _ hn
        simp only at hab
        subst hab
        rw [g3.disc rfl]
        exact VRel.closed _ rfl
    · obtain ⟨o', h4, h5⟩ := hR'.obj b o c q (by rw [hold b g1]; exact g2) h3
      have hfb : f b = some (c, q) := by
        rcases hx.new b _ h3 with h | h
        · exact h
        · omega
      obtain ⟨o0, _, h0⟩ := hR.obj b o c q g2 hfb
      exact ⟨o', h4, (h0.back hx.le h5).mono hfle⟩) (by
    intro b o h1 h2
    rcases hget b o h1 h2 with ⟨rfl, rfl⟩ | ⟨g1, g2⟩
    · exact ⟨_, hnew, rfl⟩
    · exact ⟨o, by rw [hold b g1]; exact g2, rfl⟩)
  refine ⟨_, c1, c2, ?_⟩
  obtain ⟨r', q, rfl, hq⟩ := hv.map_of
  refine .map _ _ q ?_
  show (if σ.next < σ.next + 1 then f' σ.next else none) = _
  rw [if_pos (Nat.lt_succ_self _)]
  exact hq

theorem twStart (cm : Nat) : (#[Value.map (some cm)] ++ Array.replicate (Tryz.f71.ntmps - #[Value.map (some cm)].size) undef) = (twT0 cm).toArray := by kernel_rfl

/-- The code as it is walked: its first part, the range, the loop, its last part. -/
noncomputable def twR2 : Array Oper := match twCode with | .seq _ (.seq _ (.seq (.seq (.region _ o _) _) _)) => o | _ => #[]
theorem twCode_shape : ∃ r0 r1, twA = .seq r0 r1 ∧ twCode = .seq r0 (.seq r1 (.seq (.seq (.region 2 twR2 false) (.block 0 (.loop twS.code))) (.seq twR6 .ret))) := by
  refine ⟨match twCode with | .seq r0 _ => r0 | _ => .skip, match twCode with | .seq _ (.seq r1 _) => r1 | _ => .skip, by kernel_rfl, by kernel_rfl⟩
theorem twR2_eq : twR2 = #[⟨some 7, .move (.tmp 0), 170, "graft.go:145", #[], none⟩, ⟨some 8, .range 170 (.tmp 7), 0, "graft.go:145", #[⟨0, .data⟩], none⟩] := by kernel_rfl

theorem ev_seq_normal {P : Program} {F : RegF} {K : Kn} {n : Nat} {a b : Code} {T T' : List Value} {σ σ' : St} (h : (ev P F K n (.seq a b)).1 T σ = some (.normal, T', σ')) : ∃ T1 σ1, (ev P F K n a).1 T σ = some (.normal, T1, σ1) ∧ (ev P F K n b).1 T1 σ1 = some (.normal, T', σ') := by
  simp only [ev] at h
  cases ha : (ev P F K n a).1 T σ with
  | none => rw [ha] at h; cases h
  | some p =>
    obtain ⟨e, T1, σ1⟩ := p
    rw [ha] at h
    cases e with
    | normal => exact ⟨T1, σ1, rfl, h⟩
    | _ => cases h

theorem twRes (T : List Value) (σ : St) : resA Tryz.prog Tryz.f71.results.toList T σ = some (T.getD 2 undef) := by kernel_rfl

theorem twin_ok {σ : St} {bm : Nat} {es : List (Int × Value)} (hm : σ.get bm = some (.map .i64 es)) (hb : bm < σ.next) (hes : ∀ p ∈ es, isLf p.2) : Callable Tryz.prog 71 ∧ CallsA Tryz.prog 71 [.map (some bm)] σ (.map (some σ.next)) (σ.add (.map .i64 es)) := by
  refine ⟨⟨Tryz.f71, Tryz.func71, by kernel_rfl, rfl⟩, ?_⟩
  intro f w args' hR ha
  obtain ⟨args'⟩ := args'
  simp only at ha
  obtain ⟨x', rfl, hxv⟩ := list1 ha
  obtain ⟨cm, k, rfl, hf⟩ := hxv.map_of
  refine calls_of_wp Tryz.func71 twCode_eq ?_
  rw [twStart]
  have hT0 : LRel f (twT0 bm) (twT0 cm).toArray.toList := by
    unfold twT0
    refine LRel.cons (.map _ _ k hf) ?_
    exact LRel.closed (List.all_eq_true.2 fun x hx => by simp at hx; rw [hx]; rfl)
  generalize (twT0 cm).toArray = tm at hT0
  obtain ⟨r0, r1, hA, hC⟩ := twCode_shape
  rw [hC]
  have hrun := twA_run σ bm
  have hok := twA_ok
  rw [hA] at hrun hok
  obtain ⟨Ta, σa, hra, hrb⟩ := ev_seq_normal hrun
  simp only [codeOk, Bool.and_eq_true] at hok
  refine wp_seq ((ev_sound (evRegB_ok _) (noK_ok _) mixed 5 r0 hok.1).1 _ σ .normal Ta σa hra f w _ _ hR hT0 ?_)
  rintro aa wa ⟨fa, hxa, hRa, hTa, hda⟩
  refine wp_seq ((ev_sound (evRegB_ok _) (noK_ok _) mixed 5 r1 hok.2).1 _ σa .normal _ _ hrb fa wa _ _ hRa hTa ?_)
  rintro a1 w1 ⟨f1, hxb, hR1, hT1, hdb⟩
  have hx1 := hxa.trans hxb
  have hd1 : a1.defers = [] := hdb.trans hda
  clear hrun hok hra hrb hRa hTa hxa hxb hda hdb hA hC
  have hf1 := hx1.le _ _ hf
  have hm1 : (σ.add (.map .i64 [])).get bm = some (.map .i64 es) := by rw [St.get_add, if_neg (by omega)]; exact hm
  have ev0 : a1.eval (.tmp 0) = .map (some cm) := by
    obtain ⟨r', q, e, hq⟩ := (show VRel f1 (.map (some bm)) (a1.eval (.tmp 0)) from eval_of hT1 0).map_of
    rw [hf1] at hq
    cases hq
    exact e
  obtain ⟨es', ck, w2, hrange, hxs, hRs, hIt, hMap⟩ := range_start (P := Tryz.prog) (t := 170) hR1 hm1 hf1 Tryz.underlying170
  refine wp_seq (wp_seq ?_)
  rw [twR2_eq]
  refine wp_region ?_
  show wpOps Tryz.prog _ _ [0, 1] a1 w1
  simp only [wpOps]
  refine .inl ?_
  refine OpTo.value (R := fun x w' => x = .map (some cm) ∧ w' = w1) (v' := .map (some cm)) (w' := w1) (by simp [execOp, ev0]) ⟨rfl, rfl⟩ _ _ ?_
  rintro x w1' ⟨rfl, rfl⟩
  refine .inl ?_
  have hl1 : 7 < a1.tmps.size := by have := hT1.1; simp only [Array.length_toList] at this; rw [← this]; show 7 < 18; omega
  have ev7 : (a1.put (some 7) (.map (some cm))).eval (.tmp 7) = .map (some cm) := by simp [Act.put, Act.eval, hl1]
  refine OpTo.value (R := fun x w' => x = .pointer (some ⟨w1'.heap.size, 0, none⟩) ∧ w' = w2) (v' := .pointer (some ⟨w1'.heap.size, 0, none⟩)) (w' := w2) (run_v (by show (Instr.range 170 ((a1.put (some 7) (.map (some cm))).eval (.tmp 7))).run _ _ = _; rw [ev7]; exact hrange)) ⟨rfl, rfl⟩ _ _ ?_
  rintro y w2' ⟨rfl, rfl⟩
  have hle3 := hxs.le
  have hT3 : LRel (f1.set (σ.add (.map .i64 [])).next (w1'.heap.size, 0)) (twT2 bm σ.next (σ.next + 1)) ((a1.put (some 7) (.map (some cm))).put (some 8) (.pointer (some ⟨w1'.heap.size, 0, none⟩))).tmps.toList := by
    have h1 := putL_rel (LRel.mono hle3 hT1) (some 7) (VRel.map bm cm k (hle3 _ _ hf1))
    have h2 := putL_rel h1 (some 8) (v := .pointer (some ⟨σ.next + 1, 0, none⟩)) (v' := .pointer (some ⟨w1'.heap.size, 0, none⟩)) (.ptr _ _ ⟨rfl, rfl, rfl, 0, hIt.fi⟩)
    exact h2
  refine wp_block (wp_loop_rounds ((leftOf es' #[]).size + 1) ?_)
  have hnx : (hid (σ.add (.map .i64 [])) bm).next = σ.next + 2 := rfl
  refine range_rounds (noK_ok _) mixed (N := 5) (s := twS) (ik := .i64) (es := es) (bi := σ.next + 1) (TwInv σ.next (σ.next + 1) (hid (σ.add (.map .i64 [])) bm).get) ?_ ⟨by decide, by decide, by decide⟩ twS_tail twS_rest ?_
    (f0 := f1) (σ0 := (σ.add (.map .i64 [])).del bm) (w0 := w1') (ds := []) (r := w1'.heap.size) (Nat.le_refl _) ?_ _ [] #[] _ _ _ w2' _ (Nat.lt_succ_self _) hxs hRs hT3 (by rw [put_defers, put_defers]; exact hd1) hIt ?_ hMap ?_
  · intro done T σ' hI
    exact ⟨hI.it, by rw [hI.len]; decide, by rw [hI.len]; decide⟩
  · intro done T σ' n v hI hmem hn
    exact tw_body hI (hes _ hmem) hn
  · intro done seen T σ' f' w' a' hx hR' hT' hd' hi hI hmo hD hfull
    obtain ⟨hxu, hRu⟩ := unhide hm1 hf1 hx hR' hi.offm hi.mp (.map _ _ _ _ (mapOk_all hmo hmo.nodup (fun p hp => List.mem_map.2 ⟨p, hp, rfl⟩) (fun p hp => hp)))
    have hlen : ((T.set twS.d1 (.tuple #[.bool false])).set twS.d2 (.bool false)).length = 18 := by simp [hI.len]
    have h3 : ((T.set twS.d1 (.tuple #[.bool false])).set twS.d2 (.bool false)).getD 3 undef = .map (some σ.next) := by
      show ((T.set 9 _).set 10 _).getD 3 undef = _
      rw [List.getD_eq_getElem?_getD, List.getElem?_set_ne (by decide), List.getElem?_set_ne (by decide), ← List.getD_eq_getElem?_getD]
      exact hI.out
    generalize (T.set twS.d1 (.tuple #[.bool false])).set twS.d2 (.bool false) = T' at hT' hlen h3
    have hTR := TR.of_list T'
    rw [hlen] at hTR
    rw [hTR.get] at h3
    have hev : EvP Tryz.prog noK 5 18 twR6 (fill .nil 0 T') (σ'.put bm (.map .i64 es)) fun e t2 σ2 => e = .normal ∧ σ2 = σ'.put bm (.map .i64 es) ∧ rdT 18 t2 2 = .map (some σ.next) := by
      generalize fill .nil 0 T' = t at h3
      unfold twR6 twCode Tryz.f71
      refine EvP.region ?_
      refine OpsP.cons op_move (OpsP.cons op_assign (OpsP.nil ⟨rfl, rfl, ?_⟩))
      simp only [rdF, rd_same, rd_ne, ne_eq, Nat.reduceEqDiff, not_false_eq_true, Nat.reduceLT, h3]
    obtain ⟨e, t2, σ2, hrun, rfl, rfl, h2⟩ := hev
    obtain ⟨T2, hr2, hTR2⟩ := (evF_sim (P := Tryz.prog) (K := noK) (n := 5) (nt := 18) twR6).1 T' _ _ _ _ _ hTR hrun
    have hcont : (Code.seq twR6 .ret).wp Tryz.prog (bodyPost Tryz.prog Tryz.f71 fun e w'' => ∃ v', e = .returned v' ∧ Turns f σ w (.map (some σ.next)) (σ.add (.map .i64 es)) v' w'') a' w' := by
      refine wp_seq ((ev_sound (evRegB_ok _) (noK_ok _) mixed 5 twR6 twR6_ok).1 T' _ .normal T2 _ hr2 f' w' a' _ hRu hT' ?_)
      rintro a4 w4 ⟨f4, hx4, hR4, hT4, hd4⟩
      refine wp_ret ?_
      have hres : resA Tryz.prog Tryz.f71.results.toList T2 (σ'.put bm (.map .i64 es)) = some (.map (some σ.next)) := by
        have h5 : T2.getD 2 undef = .map (some σ.next) := (hTR2.get 2).trans h2
        exact (twRes _ _).trans (congrArg some h5)
      obtain ⟨v', hrr, hv⟩ := resA_ok (fn := Tryz.f71) hR4 hT4 hres
      refine ⟨hd4.trans hd', v', hrr, v', rfl, ?_⟩
      refine twin_turns (done := done) hR hm hf hes (hx1.trans (hxu.trans hx4)) hR4 ?_ ?_ hfull hD.sub hv
      · intro b hbn
        rw [St.get_put]
        by_cases hbm : b = bm
        · rw [if_pos hbm, hbm, hm]
        · rw [if_neg hbm, hI.keep b hbn, hid_get, if_neg (show b ≠ (σ.add (.map .i64 [])).next from Nat.ne_of_lt (Nat.lt_succ_of_lt hbn)), if_neg hbm, St.get_add, if_neg (Nat.ne_of_lt hbn)]
      · rw [St.get_put, if_neg (by omega)]
        exact hI.obj
    show Exit.inBlock 0 _ (.exit 0) a' w'
    simp only [Exit.inBlock, if_true]
    exact hcont
  · refine ⟨rfl, rfl, rfl, ?_, ⟨Nat.lt_succ_self _, by rw [hnx]; omega⟩, fun b _ => rfl⟩
    rw [hid_get, if_neg (show σ.next ≠ (σ.add (.map .i64 [])).next from Nat.ne_of_lt (Nat.lt_succ_self _)), if_neg (by omega), St.get_add, if_pos rfl]
  · exact ⟨⟨[], rfl, (fun e he => absurd he List.not_mem_nil), rfl⟩, (fun p hp => absurd hp List.not_mem_nil), List.nodup_nil⟩
end Go.Proofs.YtfffmmgmjlfkoaaGreat
