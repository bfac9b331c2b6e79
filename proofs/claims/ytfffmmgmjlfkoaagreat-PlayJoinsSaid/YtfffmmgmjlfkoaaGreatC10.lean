/- A table that is not wanted any more, the only one of its map: graft.less there. -/
import Derived.Test.YtfffmmgmjlfkoaaGreatC9
namespace Go.Proofs.YtfffmmgmjlfkoaaGreat
set_option linter.unusedSimpArgs false
set_option linter.unusedVariables false
open Go.As

theorem con_nil_run (σ : St) (k : Int) : kK Tryz.prog noK 5 75 [.slice none 0 0, .int .i64 k] σ = some (.bool false, σ) := by kernel_rfl
theorem con_nil (σ : St) (k : Int) : Callable Tryz.prog 75 ∧ CallsA Tryz.prog 75 [.slice none 0 0, .int .i64 k] σ (.bool false) σ :=
  kK_ok (noK_ok _) mixed 5 _ _ _ _ _ (con_nil_run σ k)

/-- The step at a map that is empty by now. -/
theorem run_next_empty {P : Program} {w : World} {ty : TypeId} {r cm since c0 ck : Nat} {seen : Array Nat} (hr : w.heap[r]? = some (.mapIter (some cm) since seen c0)) (hb : w.heap[cm]? = some (.map #[] ck)) :
    (Instr.next (.pointer (some ⟨r, 0, none⟩)) false ty).run P w = .ok (.tuple #[.bool false]) w := by
  simp [Instr.next, getObj, Sem.run, hr, hb, choose, Question.forced]

theorem wp_next_end {P : Program} {s : Shape} {f : Inj} {w : World} {T : List Value} {a : Act} {r : Nat} {Q : Exit → Act → World → Prop} (hT : LRel f T a.tmps.toList) (ev1 : a.eval (.tmp s.it) = .pointer (some ⟨r, 0, none⟩)) (h1 : s.d1 < T.length)
    (hrun : (Instr.next (.pointer (some ⟨r, 0, none⟩)) false s.ty1).run P w = .ok (.tuple #[.bool false]) w)
    (hend : ∀ a', a'.defers = a.defers → LRel f ((T.set s.d1 (.tuple #[.bool false])).set s.d2 (.bool false)) a'.tmps.toList → Q .normal a' w) :
    (Code.region s.i1 #[⟨some s.d1, .next (.tmp s.it) false, s.ty1, s.p1, s.af1, none⟩, ⟨some s.d2, .extract (.tmp s.d1) 0, s.ty2, s.p2, s.af2, none⟩] false).wp P Q a w := by
  refine wp_region ?_
  show wpOps P _ Q [0, 1] a w
  simp only [wpOps]
  refine .inl ?_
  refine OpTo.value (R := fun x w' => x = .tuple #[.bool false] ∧ w' = w) (v' := .tuple #[.bool false]) (w' := w) (next_op (by rw [ev1]; exact hrun)) ⟨rfl, rfl⟩ _ _ ?_
  rintro x w' ⟨rfl, rfl⟩
  refine .inl ?_
  have hT1 : LRel f (T.set s.d1 (.tuple #[.bool false])) (a.put (some s.d1) (.tuple #[.bool false])).tmps.toList := putL_rel hT (some s.d1) (VRel.closed f rfl)
  have ev2 : (a.put (some s.d1) (.tuple #[.bool false])).eval (.tmp s.d1) = .tuple #[.bool false] := by
    have hl : s.d1 < a.tmps.size := by have := hT.1; simp only [Array.length_toList] at this; omega
    simp [Act.put, Act.eval, hl]
  refine OpTo.value (R := fun x w2 => x = .bool false ∧ w2 = w') (v' := .bool false) (w' := w') (extract_op ev2 rfl) ⟨rfl, rfl⟩ _ _ ?_
  rintro y w2 ⟨rfl, rfl⟩
  refine hend _ (by rw [put_defers, put_defers]) ?_
  exact putL_rel hT1 (some s.d2) (.bool false)

noncomputable def lsT (tv want : Value) (bm bi : Nat) (k0 : Int) (v0 : Value) : List Value :=
  (((((As.start Tryz.f103 [tv, .map (some bm), want]).set 8 (.map (some bm))).set 9 (.pointer (some ⟨bi, 0, none⟩))).set 10 (.tuple #[.bool true, .int .i64 k0, v0])).set 11 (.bool true)).set 12 (.tuple #[.int .i64 k0, v0])

theorem less1_ok {K : Kn} (hK : K.ok Tryz.prog) {N : Nat} {σ : St} {bm : Nat} {k0 : Int} {v0 tv want : Value} (hm : σ.get bm = some (.map .i64 [(k0, v0)])) {T1 T2 : List Value} {σ1 σ2 : St}
    (h1 : evOps Tryz.prog K (⟨some lsS.d3, .entry (.tmp lsS.it), lsS.ty3, lsS.p3, lsS.af3, none⟩ :: lsS.tail).toArray lsS.tail (lsT tv want bm σ.next k0 v0) ((hid σ bm).put bm (.map .i64 [(k0, v0)])) = some (T1, σ1))
    (h2 : (ev Tryz.prog (evRegB Tryz.prog) K N lsS.rest).1 T1 σ1 = some (.normal, T2, σ2)) (h3 : σ2.get bm = some (.map .i64 [])) (h4 : T2.getD 9 undef = .pointer (some ⟨σ.next, 0, none⟩)) (h5 : T2.length = 33) :
    Callable Tryz.prog 103 ∧ CallsA Tryz.prog 103 [tv, .map (some bm), want] σ (.tuple #[]) σ2 := by
  refine ⟨⟨Tryz.f103, Tryz.func103, by kernel_rfl, rfl⟩, ?_⟩
  intro f w args' hR ha
  refine calls_of_wp Tryz.func103 lsCode_eq ?_
  have hT1 := start_rel (fn := Tryz.f103) ha
  obtain ⟨hs1, hs2, hs3⟩ := lsStart tv want bm
  unfold lsT at h1
  generalize hTT : As.start Tryz.f103 [tv, .map (some bm), want] = T0 at hT1 hs1 hs2 hs3 h1
  generalize htm : (args' ++ Array.replicate (Tryz.f103.ntmps - args'.size) undef) = tm at hT1
  rw [lsCode_shape]
  obtain ⟨cm, k, ev1, hf⟩ : ∃ cm k, ({ tmps := tm, defers := [] } : Act).eval (.tmp 1) = .map (some cm) ∧ f bm = some (cm, k) := by
    have := eval_of (a := { tmps := tm, defers := [] }) hT1 1
    rw [hs2] at this
    obtain ⟨r', q, e, hq⟩ := this.map_of
    exact ⟨r', q, e, hq⟩
  obtain ⟨es', ck, w2, hrange, hxs, hRs, hIt, hMap⟩ := range_start (P := Tryz.prog) (t := 171) hR hm hf Tryz.underlying171
  refine wp_seq ?_
  unfold lsR0
  refine wp_region ?_
  show wpOps Tryz.prog _ _ [0, 1] _ w
  simp only [wpOps]
  refine .inl ?_
  refine OpTo.value (R := fun x w' => x = .map (some cm) ∧ w' = w) (v' := .map (some cm)) (w' := w) (by simp [execOp, ev1]) ⟨rfl, rfl⟩ _ _ ?_
  rintro x w1' ⟨rfl, rfl⟩
  refine .inl ?_
  have hl1 : 8 < tm.size := by have := hT1.1; simp only [Array.length_toList] at this; omega
  have ev7 : (Act.put { tmps := tm, defers := [] } (some 8) (.map (some cm))).eval (.tmp 8) = .map (some cm) := by simp [Act.put, Act.eval, hl1]
  refine OpTo.value (R := fun x w' => x = .pointer (some ⟨w1'.heap.size, 0, none⟩) ∧ w' = w2) (v' := .pointer (some ⟨w1'.heap.size, 0, none⟩)) (w' := w2) (run_v (by show (Instr.range 171 ((Act.put { tmps := tm, defers := [] } (some 8) (.map (some cm))).eval (.tmp 8))).run _ _ = _; rw [ev7]; exact hrange)) ⟨rfl, rfl⟩ _ _ ?_
  rintro y w2' ⟨rfl, rfl⟩
  have hle3 := hxs.le
  have hT3 : LRel (f.set σ.next (w1'.heap.size, 0)) ((T0.set 8 (.map (some bm))).set 9 (.pointer (some ⟨σ.next, 0, none⟩))) ((Act.put { tmps := tm, defers := [] } (some 8) (.map (some cm))).put (some 9) (.pointer (some ⟨w1'.heap.size, 0, none⟩))).tmps.toList := by
    have h1 := putL_rel (a := { tmps := tm, defers := [] }) (LRel.mono hle3 hT1) (some 8) (VRel.map bm cm k (hle3 _ _ hf))
    exact putL_rel h1 (some 9) (v := .pointer (some ⟨σ.next, 0, none⟩)) (v' := .pointer (some ⟨w1'.heap.size, 0, none⟩)) (.ptr _ _ ⟨rfl, rfl, rfl, 0, hIt.fi⟩)
  obtain ⟨hxu, hRu⟩ := unhide hm hf hxs hRs hIt.offm hIt.mp (.map _ _ _ _ hMap)
  have hcmr : cm ≠ w1'.heap.size := fun e => by
    have h1 := hIt.mp
    rw [e, hIt.it] at h1
    cases h1
  have hoffu : ¬ ImgL (f.set σ.next (w1'.heap.size, 0)) ((hid σ bm).put bm (.map .i64 [(k0, v0)])).get w1'.heap.size := by
    rintro ⟨b, o, q, g1, g2⟩
    rw [St.get_put] at g1
    split at g1
    · rename_i e
      subst e
      rw [hle3 _ _ hf] at g2
      cases g2
      exact hcmr rfl
    · exact hIt.off ⟨b, o, q, g1, g2⟩
  refine wp_block (wp_loop_rounds 2 ?_)
  rw [rounds_succ]
  have hit9 : ((T0.set 8 (.map (some bm))).set 9 (.pointer (some ⟨σ.next, 0, none⟩))).getD lsS.it undef = .pointer (some ⟨σ.next, 0, none⟩) := by
    show ((T0.set 8 _).set 9 _).getD 9 undef = _
    rw [List.getD_eq_getElem?_getD, List.getElem?_set_self (by simp [hs1])]
    rfl
  have hlen9 : ((T0.set 8 (.map (some bm))).set 9 (.pointer (some ⟨σ.next, 0, none⟩))).length = 33 := by simp [hs1]
  generalize hTr : ((T0.set 8 (.map (some bm))).set 9 (.pointer (some ⟨σ.next, 0, none⟩))) = Tr at hT3 hit9 hlen9 h1
  unfold Shape.code
  refine wp_seq (wp_head (s := lsS) hT3 hIt hMap (Nat.le_refl _) hit9 (by rw [hlen9]; decide) ?_ ?_)
  · intro h0
    have hD : Done .i64 [(k0, v0)] es'.toList [] #[] := ⟨⟨[], rfl, (fun e he => absurd he List.not_mem_nil), rfl⟩, (fun p hp => absurd hp List.not_mem_nil), List.nodup_nil⟩
    exact absurd (hD.full hMap h0 (k0, v0) List.mem_cons_self) List.not_mem_nil
  · intro e n v he hkey hmem w1 haside hit1 a' hd' hT' hvv
    obtain ⟨rfl, rfl⟩ : n = k0 ∧ v = v0 := by
      have := List.mem_singleton.1 hmem
      cases this
      exact ⟨rfl, rfl⟩
    have hR1 := hRu.aside haside hoffu
    have hx1 := hxu.aside haside (Nat.le_refl _)
    have hmp1 : w1.heap[cm]? = some (.map es' ck) := by rw [haside.heap cm hcmr]; exact hIt.mp
    refine wp_seq ?_
    refine wp_cond_true ?_ ?_
    · have := eval_of hT' lsS.d2
      rw [List.getD_eq_getElem?_getD, List.getElem?_set_self (by simp [hlen9]; decide)] at this
      exact this.bool_of
    refine wp_skip ?_
    refine wp_block ?_
    refine wp_seq ?_
    refine wp_region ?_
    have hees : e ∈ es'.toList := by
      unfold leftOf at he
      simp at he
      simpa using he
    have hev : a'.eval (.tmp lsS.it) = .pointer (some ⟨w1'.heap.size, 0, none⟩) := by
      have := eval_of hT' lsS.it
      rw [List.getD_eq_getElem?_getD, List.getElem?_set_ne (by decide), List.getElem?_set_ne (by decide), ← List.getD_eq_getElem?_getD, hit9] at this
      obtain ⟨a2, e2, hp⟩ := this.ptr_of
      obtain ⟨q, hq⟩ := hp.blk
      rw [hIt.fi] at hq
      have hq' := (Prod.mk.inj (Option.some.inj hq)).1
      rw [e2, hp.eq.2, ← hq']
    have hent := run_entry_at (P := Tryz.prog) w1 w1'.heap.size cm ck #[] es' ck e hit1 hmp1 hees hMap.born
    have hrange2 : List.range (⟨some lsS.d3, .entry (.tmp lsS.it), lsS.ty3, lsS.p3, lsS.af3, none⟩ :: lsS.tail : List Oper).toArray.size = 0 :: List.range' 1 lsS.tail.length := by
      rw [List.size_toArray, List.length_cons, List.range_eq_range', List.range'_succ]
    rw [hrange2]
    have h0 : (⟨some lsS.d3, .entry (.tmp lsS.it), lsS.ty3, lsS.p3, lsS.af3, none⟩ :: lsS.tail : List Oper).toArray[0]? = some ⟨some lsS.d3, .entry (.tmp lsS.it), lsS.ty3, lsS.p3, lsS.af3, none⟩ := by simp
    simp only [wpOps, h0]
    refine .inl ?_
    refine OpTo.value (R := fun x w' => x = .tuple #[e.key, e.val] ∧ w' = w1) (entry_op (by rw [hev]; exact hent)) ⟨rfl, rfl⟩ _ _ ?_
    rintro x w' ⟨rfl, rfl⟩
    have hrel : VRel (f.set σ.next (w1'.heap.size, 0)) (.tuple #[.int .i64 n, v]) (.tuple #[e.key, e.val]) := by
      rw [hkey]
      exact VRel.tuple_of (LRel.cons (.int .i64 n) (LRel.cons hvv LRel.nil))
    have hT3' := putL_rel hT' (some lsS.d3) hrel
    refine evOps_ok hK lsS.tail 1 _ _ T1 σ1 _ w' _ (fun j => by simp [Nat.add_comm 1 j]) lsS_tail h1 hR1 hT3' ?_
    rintro a1 w2 ⟨f1, hx2, hR2, hT2, hd2⟩
    refine (ev_sound (evRegB_ok _) hK mixed N lsS.rest lsS_rest).1 T1 σ1 .normal T2 σ2 h2 f1 w2 a1 _ hR2 hT2 ?_
    rintro a2 w3 ⟨f2, hx3, hR3, hT3', hd3'⟩
    have hxx := hx2.trans hx3
    have hit3 : w3.heap[w1'.heap.size]? = some (.mapIter (some cm) ck (#[].push e.born) ck) := by
      rw [hxx.keep _ (lt_of_some hit1) (not_img hoffu)]
      exact hit1
    obtain ⟨o3, ho3, hr3⟩ := hR3.obj bm _ cm k h3 (hxx.le _ _ (hle3 _ _ hf))
    cases hr3 with
    | map _ _ es3 ck3 m3 =>
      have hes3 : es3 = #[] := by
        have : es3.toList = [] := by
          cases hl : es3.toList with
          | nil => rfl
          | cons x l =>
            obtain ⟨_, _, _, hmm⟩ := m3.of x (by rw [hl]; exact List.mem_cons_self)
            exact absurd hmm List.not_mem_nil
        simpa using this
      subst hes3
      show Code.rounds _ _ _ 1 a2 w3
      rw [rounds_succ]
      have hev3 : a2.eval (.tmp lsS.it) = .pointer (some ⟨w1'.heap.size, 0, none⟩) := by
        have := eval_of hT3' lsS.it
        have h4' : T2.getD lsS.it undef = .pointer (some ⟨σ.next, 0, none⟩) := h4
        rw [h4'] at this
        obtain ⟨aa, e2, hp⟩ := this.ptr_of
        obtain ⟨q, hq⟩ := hp.blk
        rw [hxx.le _ _ hIt.fi] at hq
        have hq' := (Prod.mk.inj (Option.some.inj hq)).1
        rw [e2, hp.eq.2, ← hq']
      refine wp_seq (wp_next_end (s := lsS) hT3' hev3 (by rw [h5]; decide) (run_next_empty hit3 ho3) ?_)
      intro a5 hd5 hT5
      refine wp_seq ?_
      refine wp_cond_false ?_ ?_
      · have := eval_of hT5 lsS.d2
        rw [List.getD_eq_getElem?_getD, List.getElem?_set_self (by simp [h5]; decide)] at this
        exact this.bool_of
      refine wp_exit ?_
      obtain ⟨v', hrr, hv⟩ := resA_ok (fn := Tryz.f103) hR3 hT5 (lsRes _ _)
      simp only [Exit.then]
      show Exit.inBlock 0 _ (.exit 0) a5 w3
      simp only [Exit.inBlock, if_true]
      refine ⟨by rw [hd5, hd3', hd2, put_defers, hd', put_defers, put_defers], _, hrr, _, rfl, ?_⟩
      exact ⟨f2, hx1.trans hxx, hR3, hv⟩
end Go.Proofs.YtfffmmgmjlfkoaaGreat
