/- The slots of sixteen pages -/
import Derived.Test.YtfffmmgmjlfkoaaGreatD2
namespace Go.Proofs.YtfffmmgmjlfkoaaGreat
set_option linter.unusedSimpArgs false
set_option linter.unusedVariables false
open Go.As

noncomputable def code105 : Code := match Tryz.f105.body with | some c => c | none => .skip
theorem code105_eq : Tryz.f105.body = some code105 := by kernel_rfl
theorem ok105 : fnOk Tryz.f105 = true := by kernel_rfl
set_option maxRecDepth 8000 in
theorem tend_con {σ : St} {mb rb nf bl : Nat} {sec : Int} {e : TypeId} {kd : Kd} (hm : σ.get mb = some (.cells [.slice (some ⟨rb, 0, none⟩) nf nf, .int .i64 sec] e kd)) (hr : σ.get rb = some (.blob bl)) (hbl : nf * 128 ≤ bl) (hrn : rb < σ.next) (hmn : mb < σ.next) {tb hbm eb : Nat} {vs vm : Value} {root : Int} {e1 : TypeId} {kd1 : Kd} (ht : σ.get tb = some (.cells [.pointer (some ⟨mb, 0, none⟩), vs, .int .i64 root, .map (some hbm), vm, .map (some eb)] e1 kd1)) (htn : tb < σ.next) {es eds : List (Int × Value)} (hh : σ.get hbm = some (.map .i64 es)) (hhn : hbm < σ.next) (he : σ.get eb = some (.map .i64 eds)) (hen : eb < σ.next) {g fr : Int} (hg0 : 0 ≤ g) (hg : g < 256) (hes : ∀ n v, lk es n = some v → isLf v) (hfr : (lk eds g).getD (.int .i64 0) = .int .i64 fr) (hf0 : 0 ≤ fr) (hf : fr < nf) : Con Tryz.prog 105 [.pointer (some ⟨tb, 0, none⟩), .int .i64 g] σ (fun v σ' => v = .tuple #[] ∧ But σ σ' fun _ => False) := by
  refine Con.of_goP (nt := 41) (rs := []) Tryz.func105 code105_eq ok105 rfl rfl (by simp) ?_
  have f0 : rdT 41 (fill .nil 0 [.pointer (some ⟨tb, 0, none⟩), .int .i64 g]) 0 = .pointer (some ⟨tb, 0, none⟩) := rfl
  have f1 : rdT 41 (fill .nil 0 [.pointer (some ⟨tb, 0, none⟩), .int .i64 g]) 1 = .int .i64 g := rfl
  generalize fill .nil 0 [.pointer (some ⟨tb, 0, none⟩), .int .i64 g] = t at f0 f1
  unfold code105 Tryz.f105
  repeat (refine GoP.seq ?_)
  have hlf : ∀ n, isLf ((lk es n).getD (lf 0 0)) := by
    intro n
    cases h : lk es n with
    | none => exact ⟨0, 0, rfl⟩
    | some v => exact hes n v h
  refine GoP.name ?_
  rintro σ1 rfl
  refine GoP.region ?_ ?_
  · rfl
  refine OpsG.cons (o_move (by (try simp only [rdF, rd_none, rd_same, rd_ne, ne_eq, Nat.reduceEqDiff, not_false_eq_true, Nat.reduceLT, f0, f1]) <;> rfl)) ?_
  refine OpsG.nil ?_
  repeat (refine GoP.seq ?_)
  refine GoP.block ?_
  repeat (refine GoP.seq ?_)
  refine GoP.loop (fun m t σ => ∃ (i : Nat), rdT 41 t 0 = .pointer (some ⟨tb, 0, none⟩) ∧ rdT 41 t 1 = .int .i64 g ∧ rdT 41 t 8 = .int .i64 (i : Int) ∧ (i ≤ 16) ∧ (But σ1 σ fun _ => False) ∧ m = 16 - i) ?_ (m := 16) ?_
  ·
    rintro m t σ ⟨i, g0, g1, g8, hi, hb, rfl⟩
    repeat (refine GoP.seq ?_)
    refine GoP.region ?_ ?_
    · rfl
    refine OpsG.cons (o_bin (by (try simp only [rdF, rd_none, rd_same, rd_ne, ne_eq, Nat.reduceEqDiff, not_false_eq_true, Nat.reduceLT, g0, g1, g8]) <;> rfl) (by (try simp only [rdF, rd_none, rd_same, rd_ne, ne_eq, Nat.reduceEqDiff, not_false_eq_true, Nat.reduceLT, g0, g1, g8]) <;> rfl) binA_lss) ?_
    refine OpsG.nil ?_
    repeat (refine GoP.seq ?_)
    refine GoP.cond (by rfl) (by (try simp only [rdF, rd_none, rd_same, rd_ne, ne_eq, Nat.reduceEqDiff, not_false_eq_true, Nat.reduceLT, g0, g1, g8]) <;> rfl) (fun hc => ?_) (fun hc => ?_)
    ·
      have hi16 : i < 16 := by have := of_decide_eq_true hc; omega
      have hbn := hb.next
      have ht1 := (hb.get tb htn id).trans ht
      have hh1 := (hb.get hbm hhn id).trans hh
      obtain ⟨a, b, hab⟩ := hlf (g * 16 + i)
      repeat (refine GoP.seq ?_)
      refine GoP.skip ?_
      repeat (refine GoP.seq ?_)
      refine GoP.block ?_
      repeat (refine GoP.seq ?_)
      refine GoP.region ?_ ?_
      · rfl
      refine OpsG.cons (o_move (by (try simp only [rdF, rd_none, rd_same, rd_ne, ne_eq, Nat.reduceEqDiff, not_false_eq_true, Nat.reduceLT, g0, g1, g8]) <;> rfl)) ?_
      refine OpsG.cons (o_assign (by (try simp only [rdF, rd_none, rd_same, rd_ne, ne_eq, Nat.reduceEqDiff, not_false_eq_true, Nat.reduceLT, g0, g1, g8]) <;> rfl)) ?_
      refine OpsG.nil ?_
      repeat (refine GoP.seq ?_)
      refine GoP.region ?_ ?_
      · rfl
      refine OpsG.cons (o_move (by (try simp only [rdF, rd_none, rd_same, rd_ne, ne_eq, Nat.reduceEqDiff, not_false_eq_true, Nat.reduceLT, g0, g1, g8]) <;> rfl)) ?_
      refine OpsG.cons (o_nil (by (try simp only [rdF, rd_none, rd_same, rd_ne, ne_eq, Nat.reduceEqDiff, not_false_eq_true, Nat.reduceLT, g0, g1, g8]) <;> rfl)) ?_
      refine OpsG.cons (o_field (by (try simp only [rdF, rd_none, rd_same, rd_ne, ne_eq, Nat.reduceEqDiff, not_false_eq_true, Nat.reduceLT, g0, g1, g8]) <;> rfl) (fa_173_3 _ _)) ?_
      refine OpsG.cons (o_load (by (try simp only [rdF, rd_none, rd_same, rd_ne, ne_eq, Nat.reduceEqDiff, not_false_eq_true, Nat.reduceLT, g0, g1, g8]) <;> rfl) (by (try simp (disch := omega) only [St.get_room, St.get_at_eq, St.get_at_ne, St.get_put_eq, St.get_put_ne, St.get_add_eq, St.get_add_ne, St.get_del_ne, St.next_at, St.next_put', St.next_room, St.next_add', St.next_del', ht1, hh1]) <;> rfl) (by rw [p_170]; rfl)) ?_
      refine OpsG.cons (o_move (by (try simp only [rdF, rd_none, rd_same, rd_ne, ne_eq, Nat.reduceEqDiff, not_false_eq_true, Nat.reduceLT, g0, g1, g8]) <;> rfl)) ?_
      refine OpsG.cons (o_bin (by (try simp only [rdF, rd_none, rd_same, rd_ne, ne_eq, Nat.reduceEqDiff, not_false_eq_true, Nat.reduceLT, g0, g1, g8]) <;> rfl) (by (try simp only [rdF, rd_none, rd_same, rd_ne, ne_eq, Nat.reduceEqDiff, not_false_eq_true, Nat.reduceLT, g0, g1, g8]) <;> rfl) (by first | (refine b_mul64 ?_ ?_ <;> omega) | exact binA_mul)) ?_
      refine OpsG.cons (o_move (by (try simp only [rdF, rd_none, rd_same, rd_ne, ne_eq, Nat.reduceEqDiff, not_false_eq_true, Nat.reduceLT, g0, g1, g8]) <;> rfl)) ?_
      refine OpsG.cons (o_bin (by (try simp only [rdF, rd_none, rd_same, rd_ne, ne_eq, Nat.reduceEqDiff, not_false_eq_true, Nat.reduceLT, g0, g1, g8]) <;> rfl) (by (try simp only [rdF, rd_none, rd_same, rd_ne, ne_eq, Nat.reduceEqDiff, not_false_eq_true, Nat.reduceLT, g0, g1, g8]) <;> rfl) (by first | (refine b_add64 ?_ ?_ <;> omega) | exact binA_add)) ?_
      refine OpsG.cons (o_lookup (by (try simp only [rdF, rd_none, rd_same, rd_ne, ne_eq, Nat.reduceEqDiff, not_false_eq_true, Nat.reduceLT, g0, g1, g8]) <;> rfl) (by (try simp only [rdF, rd_none, rd_same, rd_ne, ne_eq, Nat.reduceEqDiff, not_false_eq_true, Nat.reduceLT, g0, g1, g8]) <;> rfl) ((look_ok Tryz.underlying170 Tryz.underlying3 z_110 (by (try simp (disch := omega) only [St.get_room, St.get_at_eq, St.get_at_ne, St.get_put_eq, St.get_put_ne, St.get_add_eq, St.get_add_ne, St.get_del_ne, St.next_at, St.next_put', St.next_room, St.next_add', St.next_del', ht1, hh1]) <;> rfl)).trans (congrArg (fun z => some (Value.tuple #[z, .bool (lk es (g * 16 + (i : Int))).isSome])) hab))) ?_
      refine OpsG.cons (o_move (by (try simp only [rdF, rd_none, rd_same, rd_ne, ne_eq, Nat.reduceEqDiff, not_false_eq_true, Nat.reduceLT, g0, g1, g8]) <;> rfl)) ?_
      refine OpsG.cons (o_extract (by (try simp only [rdF, rd_none, rd_same, rd_ne, ne_eq, Nat.reduceEqDiff, not_false_eq_true, Nat.reduceLT, g0, g1, g8]) <;> rfl) rfl) ?_
      refine OpsG.cons (o_extract (by (try simp only [rdF, rd_none, rd_same, rd_ne, ne_eq, Nat.reduceEqDiff, not_false_eq_true, Nat.reduceLT, g0, g1, g8]) <;> rfl) rfl) ?_
      refine OpsG.cons (o_alloc z_110 (cl_2 ..)) ?_
      refine OpsG.cons (o_store (by (try simp only [rdF, rd_none, rd_same, rd_ne, ne_eq, Nat.reduceEqDiff, not_false_eq_true, Nat.reduceLT, g0, g1, g8]) <;> rfl) (by (try simp only [rdF, rd_none, rd_same, rd_ne, ne_eq, Nat.reduceEqDiff, not_false_eq_true, Nat.reduceLT, g0, g1, g8]) <;> rfl) (by (try simp (disch := omega) only [St.get_room, St.get_at_eq, St.get_at_ne, St.get_put_eq, St.get_put_ne, St.get_add_eq, St.get_add_ne, St.get_del_ne, St.next_at, St.next_put', St.next_room, St.next_add', St.next_del', ht1, hh1]) <;> rfl) (by simp) s_110 (cl_2 ..) rfl rfl (by simp) (by simp only [splice, List.length_cons, List.length_nil, List.drop_succ_cons, List.drop_zero, List.take_succ_cons, List.take_zero, Nat.reduceAdd, Nat.reduceLeDiff, Nat.zero_add, List.append_nil, List.nil_append, List.cons_append]; rfl)) ?_
      refine OpsG.cons (o_assign (by (try simp only [rdF, rd_none, rd_same, rd_ne, ne_eq, Nat.reduceEqDiff, not_false_eq_true, Nat.reduceLT, g0, g1, g8]) <;> rfl)) ?_
      refine OpsG.nil ?_
      repeat (refine GoP.seq ?_)
      refine GoP.region ?_ ?_
      · rfl
      refine OpsG.cons (o_build (by (try simp only [List.map_cons, List.map_nil, rdF, rd_none, rd_same, rd_ne, ne_eq, Nat.reduceEqDiff, not_false_eq_true, Nat.reduceLT, g0, g1, g8]) <;> rfl) (bd_226_ ..)) ?_
      refine OpsG.cons (o_alloc z_226 (cl_3 ..)) ?_
      refine OpsG.cons (o_store (by (try simp only [rdF, rd_none, rd_same, rd_ne, ne_eq, Nat.reduceEqDiff, not_false_eq_true, Nat.reduceLT, g0, g1, g8]) <;> rfl) (by (try simp only [rdF, rd_none, rd_same, rd_ne, ne_eq, Nat.reduceEqDiff, not_false_eq_true, Nat.reduceLT, g0, g1, g8]) <;> rfl) (by (try simp (disch := omega) only [St.get_room, St.get_at_eq, St.get_at_ne, St.get_put_eq, St.get_put_ne, St.get_add_eq, St.get_add_ne, St.get_del_ne, St.next_at, St.next_put', St.next_room, St.next_add', St.next_del', ht1, hh1]) <;> rfl) (by simp) s_226 (cl_3 ..) rfl rfl (by simp) (by simp only [splice, List.length_cons, List.length_nil, List.drop_succ_cons, List.drop_zero, List.take_succ_cons, List.take_zero, Nat.reduceAdd, Nat.reduceLeDiff, Nat.zero_add, List.append_nil, List.nil_append, List.cons_append]; rfl)) ?_
      refine OpsG.nil ?_
      repeat (refine GoP.seq ?_)
      refine GoP.region ?_ ?_
      · rfl
      refine OpsG.cons (o_move (by (try simp only [rdF, rd_none, rd_same, rd_ne, ne_eq, Nat.reduceEqDiff, not_false_eq_true, Nat.reduceLT, g0, g1, g8]) <;> rfl)) ?_
      refine OpsG.nil ?_
      repeat (refine GoP.seq ?_)
      refine GoP.cond (by rfl) (by (try simp only [rdF, rd_none, rd_same, rd_ne, ne_eq, Nat.reduceEqDiff, not_false_eq_true, Nat.reduceLT, g0, g1, g8]) <;> rfl) (fun hs => ?_) (fun hs => ?_)
      ·
        repeat (refine GoP.seq ?_)
        refine GoP.region ?_ ?_
        · rfl
        refine OpsG.cons (o_field (by (try simp only [rdF, rd_none, rd_same, rd_ne, ne_eq, Nat.reduceEqDiff, not_false_eq_true, Nat.reduceLT, g0, g1, g8]) <;> rfl) (fa_110_0 _ _)) ?_
        refine OpsG.cons (o_load (by (try simp only [rdF, rd_none, rd_same, rd_ne, ne_eq, Nat.reduceEqDiff, not_false_eq_true, Nat.reduceLT, g0, g1, g8]) <;> rfl) (by (try simp (disch := omega) only [St.get_room, St.get_at_eq, St.get_at_ne, St.get_put_eq, St.get_put_ne, St.get_add_eq, St.get_add_ne, St.get_del_ne, St.next_at, St.next_put', St.next_room, St.next_add', St.next_del', ht1, hh1]) <;> rfl) (by rw [p_3]; rfl)) ?_
        refine OpsG.cons (o_field (by (try simp only [rdF, rd_none, rd_same, rd_ne, ne_eq, Nat.reduceEqDiff, not_false_eq_true, Nat.reduceLT, g0, g1, g8]) <;> rfl) (fa_110_1 _ _)) ?_
        refine OpsG.cons (o_load (by (try simp only [rdF, rd_none, rd_same, rd_ne, ne_eq, Nat.reduceEqDiff, not_false_eq_true, Nat.reduceLT, g0, g1, g8]) <;> rfl) (by (try simp (disch := omega) only [St.get_room, St.get_at_eq, St.get_at_ne, St.get_put_eq, St.get_put_ne, St.get_add_eq, St.get_add_ne, St.get_del_ne, St.next_at, St.next_put', St.next_room, St.next_add', St.next_del', ht1, hh1]) <;> rfl) (by rw [p_3]; rfl)) ?_
        refine OpsG.cons (o_build (by (try simp only [List.map_cons, List.map_nil, rdF, rd_none, rd_same, rd_ne, ne_eq, Nat.reduceEqDiff, not_false_eq_true, Nat.reduceLT, g0, g1, g8]) <;> rfl) (bd_226_0_1_2 ..)) ?_
        refine OpsG.cons (o_store (by (try simp only [rdF, rd_none, rd_same, rd_ne, ne_eq, Nat.reduceEqDiff, not_false_eq_true, Nat.reduceLT, g0, g1, g8]) <;> rfl) (by (try simp only [rdF, rd_none, rd_same, rd_ne, ne_eq, Nat.reduceEqDiff, not_false_eq_true, Nat.reduceLT, g0, g1, g8]) <;> rfl) (by (try simp (disch := omega) only [St.get_room, St.get_at_eq, St.get_at_ne, St.get_put_eq, St.get_put_ne, St.get_add_eq, St.get_add_ne, St.get_del_ne, St.next_at, St.next_put', St.next_room, St.next_add', St.next_del', ht1, hh1]) <;> rfl) (by simp) s_226 (cl_3 ..) rfl rfl (by simp) (by simp only [splice, List.length_cons, List.length_nil, List.drop_succ_cons, List.drop_zero, List.take_succ_cons, List.take_zero, Nat.reduceAdd, Nat.reduceLeDiff, Nat.zero_add, List.append_nil, List.nil_append, List.cons_append]; rfl)) ?_
        refine OpsG.nil ?_
        repeat (refine GoP.seq ?_)
        refine GoP.name ?_
        rintro σ2 hσ2
        have hb2 : But σ1 σ2 fun _ => False := by
            rw [hσ2]
            repeat (first | exact hb | refine But.room ?_ _ | refine But.putNew ?_ ?_ | refine But.at ?_ ?_ ?_)
            all_goals ((try simp only [St.next_at, St.next_put', St.next_room]); omega)
        have hn2 : σ2.next = σ.next + 2 := by rw [hσ2]; simp only [St.next_at, St.next_put', St.next_room]
        have hx2 : σ2.get (σ.next + 1) = some (.cells [.int .i64 2, .int .i64 a, .int .i64 b] 226 .ex) := by rw [hσ2]; simp (disch := omega) only [St.get_room, St.get_at_eq, St.get_at_ne, St.get_put_eq, St.get_put_ne, St.get_add_eq, St.get_add_ne, St.get_del_ne, St.next_at, St.next_put', St.next_room, St.next_add', St.next_del'] <;> rfl
        have hm2 : σ2.get mb = _ := (hb2.get mb hmn id).trans hm
        have hr2 : σ2.get rb = _ := (hb2.get rb hrn id).trans hr
        have ht2 : σ2.get tb = _ := (hb2.get tb htn id).trans ht
        have he2 : σ2.get eb = _ := (hb2.get eb hen id).trans he
        have c1 := tput_quiet (σ := σ2.room 10) hm2 hr2 hbl (by rw [St.next_room]; omega) (by rw [St.next_room]; omega) ht2 (by rw [St.next_room]; omega) (n := (i : Int)) hf0 hf (by omega) (by omega) (k := 2) (f := a) (p := b) (by omega)
        refine GoP.drawn (kOne_ok c1) mixed ?_ ?_ ?_
        · rfl
        · kernel_rfl
        refine TrP.cons (o_move (by (try simp only [rdF, rd_none, rd_same, rd_ne, ne_eq, Nat.reduceEqDiff, not_false_eq_true, Nat.reduceLT, g0, g1, g8]) <;> rfl)) ?_
        refine TrP.cons (o_move (by (try simp only [rdF, rd_none, rd_same, rd_ne, ne_eq, Nat.reduceEqDiff, not_false_eq_true, Nat.reduceLT, g0, g1, g8]) <;> rfl)) ?_
        refine TrP.cons (o_nil (by (try simp only [rdF, rd_none, rd_same, rd_ne, ne_eq, Nat.reduceEqDiff, not_false_eq_true, Nat.reduceLT, g0, g1, g8]) <;> rfl)) ?_
        refine TrP.cons (o_field (by (try simp only [rdF, rd_none, rd_same, rd_ne, ne_eq, Nat.reduceEqDiff, not_false_eq_true, Nat.reduceLT, g0, g1, g8]) <;> rfl) (fa_173_5 _ _)) ?_
        refine TrP.cons (o_load (by (try simp only [rdF, rd_none, rd_same, rd_ne, ne_eq, Nat.reduceEqDiff, not_false_eq_true, Nat.reduceLT, g0, g1, g8]) <;> rfl) (by (try simp (disch := omega) only [St.get_room, St.get_at_eq, St.get_at_ne, St.get_put_eq, St.get_put_ne, St.get_add_eq, St.get_add_ne, St.get_del_ne, St.next_at, St.next_put', St.next_room, St.next_add', St.next_del', ht1, hh1, ht2, he2, hx2]) <;> rfl) (by rw [p_171]; rfl)) ?_
        refine TrP.cons (o_move (by (try simp only [rdF, rd_none, rd_same, rd_ne, ne_eq, Nat.reduceEqDiff, not_false_eq_true, Nat.reduceLT, g0, g1, g8]) <;> rfl)) ?_
        refine TrP.cons (o_lookup (by (try simp only [rdF, rd_none, rd_same, rd_ne, ne_eq, Nat.reduceEqDiff, not_false_eq_true, Nat.reduceLT, g0, g1, g8]) <;> rfl) (by (try simp only [rdF, rd_none, rd_same, rd_ne, ne_eq, Nat.reduceEqDiff, not_false_eq_true, Nat.reduceLT, g0, g1, g8]) <;> rfl) ((look_no Tryz.underlying171 Tryz.underlying3 z_3 (by (try simp (disch := omega) only [St.get_room, St.get_at_eq, St.get_at_ne, St.get_put_eq, St.get_put_ne, St.get_add_eq, St.get_add_ne, St.get_del_ne, St.next_at, St.next_put', St.next_room, St.next_add', St.next_del', ht1, hh1, ht2, he2, hx2]) <;> rfl)).trans (congrArg some hfr))) ?_
        refine TrP.cons (o_move (by (try simp only [rdF, rd_none, rd_same, rd_ne, ne_eq, Nat.reduceEqDiff, not_false_eq_true, Nat.reduceLT, g0, g1, g8]) <;> rfl)) ?_
        refine TrP.cons (o_load (by (try simp only [rdF, rd_none, rd_same, rd_ne, ne_eq, Nat.reduceEqDiff, not_false_eq_true, Nat.reduceLT, g0, g1, g8]) <;> rfl) (by (try simp (disch := omega) only [St.get_room, St.get_at_eq, St.get_at_ne, St.get_put_eq, St.get_put_ne, St.get_add_eq, St.get_add_ne, St.get_del_ne, St.next_at, St.next_put', St.next_room, St.next_add', St.next_del', ht1, hh1, ht2, he2, hx2]) <;> rfl) (by rw [p_226]; simp only [List.length_cons, List.length_nil, List.drop_succ_cons, List.drop_zero, List.take_succ_cons, List.take_zero, Nat.reduceAdd, Nat.reduceLeDiff, Nat.zero_add, if_true]; rfl)) ?_
        refine TrP.cons (o_call0 rfl (by (try simp only [List.map_cons, List.map_nil, rdF, rd_none, rd_same, rd_ne, ne_eq, Nat.reduceEqDiff, not_false_eq_true, Nat.reduceLT, g0, g1, g8]) <;> rfl) kOne_at) ?_
        refine TrP.nil ⟨ChecksG.of (l1 := []) (l2 := []) (by kernel_rfl) (by kernel_rfl) ?_ ?_, ?_⟩
        · all_goals (simp only [List.forall_mem_cons, List.not_mem_nil, false_implies, implies_true, and_true]; try trivial)
        · simp only [List.forall_mem_cons, List.not_mem_nil, false_implies, implies_true, and_true]; try trivial
        repeat (refine GoP.seq ?_)
        refine GoP.region ?_ ?_
        · rfl
        refine OpsG.cons (o_bin (by (try simp only [rdF, rd_none, rd_same, rd_ne, ne_eq, Nat.reduceEqDiff, not_false_eq_true, Nat.reduceLT, g0, g1, g8]) <;> rfl) (by (try simp only [rdF, rd_none, rd_same, rd_ne, ne_eq, Nat.reduceEqDiff, not_false_eq_true, Nat.reduceLT, g0, g1, g8]) <;> rfl) (by first | (refine b_add64 ?_ ?_ <;> omega) | exact binA_add)) ?_
        refine OpsG.cons (o_move (by (try simp only [rdF, rd_none, rd_same, rd_ne, ne_eq, Nat.reduceEqDiff, not_false_eq_true, Nat.reduceLT, g0, g1, g8]) <;> rfl)) ?_
        refine OpsG.nil ?_
        refine ⟨_, ?_, i + 1, (by (try simp only [rdF, rd_none, rd_same, rd_ne, ne_eq, Nat.reduceEqDiff, not_false_eq_true, Nat.reduceLT, g0, g1, g8]) <;> rfl), (by (try simp only [rdF, rd_none, rd_same, rd_ne, ne_eq, Nat.reduceEqDiff, not_false_eq_true, Nat.reduceLT, g0, g1, g8]) <;> rfl), (by (try simp only [rdF, rd_none, rd_same, rd_ne, ne_eq, Nat.reduceEqDiff, not_false_eq_true, Nat.reduceLT, g0, g1, g8]) <;> rfl), by omega, hb2.room _, rfl⟩
        omega
      ·
        repeat (refine GoP.seq ?_)
        refine GoP.skip ?_
        repeat (refine GoP.seq ?_)
        refine GoP.name ?_
        rintro σ2 hσ2
        have hb2 : But σ1 σ2 fun _ => False := by
            rw [hσ2]
            repeat (first | exact hb | refine But.room ?_ _ | refine But.putNew ?_ ?_ | refine But.at ?_ ?_ ?_)
            all_goals ((try simp only [St.next_at, St.next_put', St.next_room]); omega)
        have hn2 : σ2.next = σ.next + 2 := by rw [hσ2]; simp only [St.next_at, St.next_put', St.next_room]
        have hx2 : σ2.get (σ.next + 1) = some (.cells [.int .i64 0, .int .i64 0, .int .i64 0] 226 .ex) := by rw [hσ2]; simp (disch := omega) only [St.get_room, St.get_at_eq, St.get_at_ne, St.get_put_eq, St.get_put_ne, St.get_add_eq, St.get_add_ne, St.get_del_ne, St.next_at, St.next_put', St.next_room, St.next_add', St.next_del'] <;> rfl
        have hm2 : σ2.get mb = _ := (hb2.get mb hmn id).trans hm
        have hr2 : σ2.get rb = _ := (hb2.get rb hrn id).trans hr
        have ht2 : σ2.get tb = _ := (hb2.get tb htn id).trans ht
        have he2 : σ2.get eb = _ := (hb2.get eb hen id).trans he
        have c1 := tput_quiet (σ := σ2.room 10) hm2 hr2 hbl (by rw [St.next_room]; omega) (by rw [St.next_room]; omega) ht2 (by rw [St.next_room]; omega) (n := (i : Int)) hf0 hf (by omega) (by omega) (k := 0) (f := 0) (p := 0) (by omega)
        refine GoP.drawn (kOne_ok c1) mixed ?_ ?_ ?_
        · rfl
        · kernel_rfl
        refine TrP.cons (o_move (by (try simp only [rdF, rd_none, rd_same, rd_ne, ne_eq, Nat.reduceEqDiff, not_false_eq_true, Nat.reduceLT, g0, g1, g8]) <;> rfl)) ?_
        refine TrP.cons (o_move (by (try simp only [rdF, rd_none, rd_same, rd_ne, ne_eq, Nat.reduceEqDiff, not_false_eq_true, Nat.reduceLT, g0, g1, g8]) <;> rfl)) ?_
        refine TrP.cons (o_nil (by (try simp only [rdF, rd_none, rd_same, rd_ne, ne_eq, Nat.reduceEqDiff, not_false_eq_true, Nat.reduceLT, g0, g1, g8]) <;> rfl)) ?_
        refine TrP.cons (o_field (by (try simp only [rdF, rd_none, rd_same, rd_ne, ne_eq, Nat.reduceEqDiff, not_false_eq_true, Nat.reduceLT, g0, g1, g8]) <;> rfl) (fa_173_5 _ _)) ?_
        refine TrP.cons (o_load (by (try simp only [rdF, rd_none, rd_same, rd_ne, ne_eq, Nat.reduceEqDiff, not_false_eq_true, Nat.reduceLT, g0, g1, g8]) <;> rfl) (by (try simp (disch := omega) only [St.get_room, St.get_at_eq, St.get_at_ne, St.get_put_eq, St.get_put_ne, St.get_add_eq, St.get_add_ne, St.get_del_ne, St.next_at, St.next_put', St.next_room, St.next_add', St.next_del', ht1, hh1, ht2, he2, hx2]) <;> rfl) (by rw [p_171]; rfl)) ?_
        refine TrP.cons (o_move (by (try simp only [rdF, rd_none, rd_same, rd_ne, ne_eq, Nat.reduceEqDiff, not_false_eq_true, Nat.reduceLT, g0, g1, g8]) <;> rfl)) ?_
        refine TrP.cons (o_lookup (by (try simp only [rdF, rd_none, rd_same, rd_ne, ne_eq, Nat.reduceEqDiff, not_false_eq_true, Nat.reduceLT, g0, g1, g8]) <;> rfl) (by (try simp only [rdF, rd_none, rd_same, rd_ne, ne_eq, Nat.reduceEqDiff, not_false_eq_true, Nat.reduceLT, g0, g1, g8]) <;> rfl) ((look_no Tryz.underlying171 Tryz.underlying3 z_3 (by (try simp (disch := omega) only [St.get_room, St.get_at_eq, St.get_at_ne, St.get_put_eq, St.get_put_ne, St.get_add_eq, St.get_add_ne, St.get_del_ne, St.next_at, St.next_put', St.next_room, St.next_add', St.next_del', ht1, hh1, ht2, he2, hx2]) <;> rfl)).trans (congrArg some hfr))) ?_
        refine TrP.cons (o_move (by (try simp only [rdF, rd_none, rd_same, rd_ne, ne_eq, Nat.reduceEqDiff, not_false_eq_true, Nat.reduceLT, g0, g1, g8]) <;> rfl)) ?_
        refine TrP.cons (o_load (by (try simp only [rdF, rd_none, rd_same, rd_ne, ne_eq, Nat.reduceEqDiff, not_false_eq_true, Nat.reduceLT, g0, g1, g8]) <;> rfl) (by (try simp (disch := omega) only [St.get_room, St.get_at_eq, St.get_at_ne, St.get_put_eq, St.get_put_ne, St.get_add_eq, St.get_add_ne, St.get_del_ne, St.next_at, St.next_put', St.next_room, St.next_add', St.next_del', ht1, hh1, ht2, he2, hx2]) <;> rfl) (by rw [p_226]; simp only [List.length_cons, List.length_nil, List.drop_succ_cons, List.drop_zero, List.take_succ_cons, List.take_zero, Nat.reduceAdd, Nat.reduceLeDiff, Nat.zero_add, if_true]; rfl)) ?_
        refine TrP.cons (o_call0 rfl (by (try simp only [List.map_cons, List.map_nil, rdF, rd_none, rd_same, rd_ne, ne_eq, Nat.reduceEqDiff, not_false_eq_true, Nat.reduceLT, g0, g1, g8]) <;> rfl) kOne_at) ?_
        refine TrP.nil ⟨ChecksG.of (l1 := []) (l2 := []) (by kernel_rfl) (by kernel_rfl) ?_ ?_, ?_⟩
        · all_goals (simp only [List.forall_mem_cons, List.not_mem_nil, false_implies, implies_true, and_true]; try trivial)
        · simp only [List.forall_mem_cons, List.not_mem_nil, false_implies, implies_true, and_true]; try trivial
        repeat (refine GoP.seq ?_)
        refine GoP.region ?_ ?_
        · rfl
        refine OpsG.cons (o_bin (by (try simp only [rdF, rd_none, rd_same, rd_ne, ne_eq, Nat.reduceEqDiff, not_false_eq_true, Nat.reduceLT, g0, g1, g8]) <;> rfl) (by (try simp only [rdF, rd_none, rd_same, rd_ne, ne_eq, Nat.reduceEqDiff, not_false_eq_true, Nat.reduceLT, g0, g1, g8]) <;> rfl) (by first | (refine b_add64 ?_ ?_ <;> omega) | exact binA_add)) ?_
        refine OpsG.cons (o_move (by (try simp only [rdF, rd_none, rd_same, rd_ne, ne_eq, Nat.reduceEqDiff, not_false_eq_true, Nat.reduceLT, g0, g1, g8]) <;> rfl)) ?_
        refine OpsG.nil ?_
        refine ⟨_, ?_, i + 1, (by (try simp only [rdF, rd_none, rd_same, rd_ne, ne_eq, Nat.reduceEqDiff, not_false_eq_true, Nat.reduceLT, g0, g1, g8]) <;> rfl), (by (try simp only [rdF, rd_none, rd_same, rd_ne, ne_eq, Nat.reduceEqDiff, not_false_eq_true, Nat.reduceLT, g0, g1, g8]) <;> rfl), (by (try simp only [rdF, rd_none, rd_same, rd_ne, ne_eq, Nat.reduceEqDiff, not_false_eq_true, Nat.reduceLT, g0, g1, g8]) <;> rfl), by omega, hb2.room _, rfl⟩
        omega
    ·
      repeat (refine GoP.seq ?_)
      refine GoP.exit ?_
      refine Eq.mpr (if_pos rfl) ?_
      refine ⟨.inr rfl, [], ?_, ?_⟩
      · exact (by (try simp only [resAllF, resOneF, rdF, rd_none, rd_same, rd_ne, ne_eq, Nat.reduceEqDiff, not_false_eq_true, Nat.reduceLT, g0, g1, g8]) <;> rfl)
      · exact ⟨rfl, hb⟩
  ·
    exact ⟨0, (by (try simp only [rdF, rd_none, rd_same, rd_ne, ne_eq, Nat.reduceEqDiff, not_false_eq_true, Nat.reduceLT, f0, f1]) <;> rfl), (by (try simp only [rdF, rd_none, rd_same, rd_ne, ne_eq, Nat.reduceEqDiff, not_false_eq_true, Nat.reduceLT, f0, f1]) <;> rfl), (by (try simp only [rdF, rd_none, rd_same, rd_ne, ne_eq, Nat.reduceEqDiff, not_false_eq_true, Nat.reduceLT, f0, f1]) <;> rfl), by omega, But.refl _ _, rfl⟩
end Go.Proofs.YtfffmmgmjlfkoaaGreat
