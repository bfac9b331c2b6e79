/- PlayOne -/
import Derived.Test.YtfffmmgmjlfkoaaGreatD14
import Derived.Test.YtfffmmgmjlfkoaaGreatD7
namespace Go.Proofs.YtfffmmgmjlfkoaaGreat
set_option linter.unusedSimpArgs false
set_option linter.unusedVariables false
open Go.As

noncomputable def code4 : Code := match Tryz.f4.body with | some c => c | none => .skip
theorem code4_eq : Tryz.f4.body = some code4 := by kernel_rfl
theorem ok4 : fnOk Tryz.f4 = true := by kernel_rfl
set_option maxRecDepth 20000 in
theorem playOne_con {σ : St} {kind cpu page word n v r0 r1 r2 r3 r4 r5 r6 r7 : Int} (hkind : 0 ≤ kind ∧ kind < 256) (hcpu : 0 ≤ cpu ∧ cpu < 256) (hpage : 0 ≤ page ∧ page < 65536) (hword : 0 ≤ word ∧ word < 256) (hn : 0 ≤ n ∧ n < 256) (hv : u64r v) (hr0 : u64r r0) (hr1 : u64r r1) (hr2 : u64r r2) (hr3 : u64r r3) (hr4 : u64r r4) (hr5 : u64r r5) (hr6 : u64r r6) (hr7 : u64r r7) : Con Tryz.prog 4 [.int .u8 kind, .int .u8 cpu, .agg #[.int .u64 r0, .int .u64 r1, .int .u64 r2, .int .u64 r3, .int .u64 r4, .int .u64 r5, .int .u64 r6, .int .u64 r7], .int .u16 page, .int .u8 word, .int .u8 n, .int .u64 v] σ (fun rv σ' => rv = .bool true) := by
  refine Con.of_goP (nt := 78) (rs := [.tmp 14]) Tryz.func4 code4_eq ok4 rfl rfl (by simp) ?_
  have f0 : rdT 78 (fill .nil 0 [.int .u8 kind, .int .u8 cpu, .agg #[.int .u64 r0, .int .u64 r1, .int .u64 r2, .int .u64 r3, .int .u64 r4, .int .u64 r5, .int .u64 r6, .int .u64 r7], .int .u16 page, .int .u8 word, .int .u8 n, .int .u64 v]) 0 = .int .u8 kind := rfl
  have f1 : rdT 78 (fill .nil 0 [.int .u8 kind, .int .u8 cpu, .agg #[.int .u64 r0, .int .u64 r1, .int .u64 r2, .int .u64 r3, .int .u64 r4, .int .u64 r5, .int .u64 r6, .int .u64 r7], .int .u16 page, .int .u8 word, .int .u8 n, .int .u64 v]) 1 = .int .u8 cpu := rfl
  have f2 : rdT 78 (fill .nil 0 [.int .u8 kind, .int .u8 cpu, .agg #[.int .u64 r0, .int .u64 r1, .int .u64 r2, .int .u64 r3, .int .u64 r4, .int .u64 r5, .int .u64 r6, .int .u64 r7], .int .u16 page, .int .u8 word, .int .u8 n, .int .u64 v]) 2 = .agg #[.int .u64 r0, .int .u64 r1, .int .u64 r2, .int .u64 r3, .int .u64 r4, .int .u64 r5, .int .u64 r6, .int .u64 r7] := rfl
  have f3 : rdT 78 (fill .nil 0 [.int .u8 kind, .int .u8 cpu, .agg #[.int .u64 r0, .int .u64 r1, .int .u64 r2, .int .u64 r3, .int .u64 r4, .int .u64 r5, .int .u64 r6, .int .u64 r7], .int .u16 page, .int .u8 word, .int .u8 n, .int .u64 v]) 3 = .int .u16 page := rfl
  have f4 : rdT 78 (fill .nil 0 [.int .u8 kind, .int .u8 cpu, .agg #[.int .u64 r0, .int .u64 r1, .int .u64 r2, .int .u64 r3, .int .u64 r4, .int .u64 r5, .int .u64 r6, .int .u64 r7], .int .u16 page, .int .u8 word, .int .u8 n, .int .u64 v]) 4 = .int .u8 word := rfl
  have f5 : rdT 78 (fill .nil 0 [.int .u8 kind, .int .u8 cpu, .agg #[.int .u64 r0, .int .u64 r1, .int .u64 r2, .int .u64 r3, .int .u64 r4, .int .u64 r5, .int .u64 r6, .int .u64 r7], .int .u16 page, .int .u8 word, .int .u8 n, .int .u64 v]) 5 = .int .u8 n := rfl
  have f6 : rdT 78 (fill .nil 0 [.int .u8 kind, .int .u8 cpu, .agg #[.int .u64 r0, .int .u64 r1, .int .u64 r2, .int .u64 r3, .int .u64 r4, .int .u64 r5, .int .u64 r6, .int .u64 r7], .int .u16 page, .int .u8 word, .int .u8 n, .int .u64 v]) 6 = .int .u64 v := rfl
  generalize fill .nil 0 [.int .u8 kind, .int .u8 cpu, .agg #[.int .u64 r0, .int .u64 r1, .int .u64 r2, .int .u64 r3, .int .u64 r4, .int .u64 r5, .int .u64 r6, .int .u64 r7], .int .u16 page, .int .u8 word, .int .u8 n, .int .u64 v] = t at f0 f1 f2 f3 f4 f5 f6
  unfold code4 Tryz.f4
  repeat (refine GoP.seq ?_)
  unfold u64r at *
  refine GoP.name ?_
  rintro σ1 rfl
  refine GoP.region ?_ ?_
  · rfl
  refine OpsG.cons (o_box (by (try simp only [rdF, rd_none, rd_same, rd_ne, ne_eq, Nat.reduceEqDiff, not_false_eq_true, Nat.reduceLT, f0, f1, f2, f3, f4, f5, f6]) <;> rfl) (cl_8 ..)) ?_
  refine OpsG.cons (o_assign (by (try simp only [rdF, rd_none, rd_same, rd_ne, ne_eq, Nat.reduceEqDiff, not_false_eq_true, Nat.reduceLT, f0, f1, f2, f3, f4, f5, f6]) <;> rfl)) ?_
  refine OpsG.nil ?_
  repeat (refine GoP.seq ?_)
  refine GoP.region ?_ ?_
  · rfl
  refine OpsG.call (by (try simp only [List.map_cons, List.map_nil, rdF, rd_none, rd_same, rd_ne, ne_eq, Nat.reduceEqDiff, not_false_eq_true, Nat.reduceLT, f0, f1, f2, f3, f4, f5, f6]) <;> rfl) (Con.of_calls (begun_ok _)) ?_
  rintro v' σ' ⟨rfl, rfl⟩
  refine OpsG.cons (o_un (by (try simp only [rdF, rd_none, rd_same, rd_ne, ne_eq, Nat.reduceEqDiff, not_false_eq_true, Nat.reduceLT, f0, f1, f2, f3, f4, f5, f6]) <;> rfl) un_not) ?_
  refine OpsG.nil ?_
  repeat (refine GoP.seq ?_)
  refine GoP.cond_false (by rfl) (by (try simp only [rdF, rd_none, rd_same, rd_ne, ne_eq, Nat.reduceEqDiff, not_false_eq_true, Nat.reduceLT, f0, f1, f2, f3, f4, f5, f6]) <;> rfl) ?_
  repeat (refine GoP.seq ?_)
  refine GoP.skip ?_
  repeat (refine GoP.seq ?_)
  refine GoP.region ?_ ?_
  · rfl
  refine OpsG.cons (o_move (by (try simp only [rdF, rd_none, rd_same, rd_ne, ne_eq, Nat.reduceEqDiff, not_false_eq_true, Nat.reduceLT, f0, f1, f2, f3, f4, f5, f6]) <;> rfl)) ?_
  refine OpsG.cons (o_bin (by (try simp only [rdF, rd_none, rd_same, rd_ne, ne_eq, Nat.reduceEqDiff, not_false_eq_true, Nat.reduceLT, f0, f1, f2, f3, f4, f5, f6]) <;> rfl) (by (try simp only [rdF, rd_none, rd_same, rd_ne, ne_eq, Nat.reduceEqDiff, not_false_eq_true, Nat.reduceLT, f0, f1, f2, f3, f4, f5, f6]) <;> rfl) (b_rem (by omega) (by omega))) ?_
  refine OpsG.cons (o_convert rfl (by (try simp only [rdF, rd_none, rd_same, rd_ne, ne_eq, Nat.reduceEqDiff, not_false_eq_true, Nat.reduceLT, f0, f1, f2, f3, f4, f5, f6]) <;> rfl) ((cv_5_3 _).trans (congrArg (fun z => some (Value.int .i64 z)) (wrap64 (by omega) (by omega))))) ?_
  refine OpsG.cons (o_bin (by (try simp only [rdF, rd_none, rd_same, rd_ne, ne_eq, Nat.reduceEqDiff, not_false_eq_true, Nat.reduceLT, f0, f1, f2, f3, f4, f5, f6]) <;> rfl) (by (try simp only [rdF, rd_none, rd_same, rd_ne, ne_eq, Nat.reduceEqDiff, not_false_eq_true, Nat.reduceLT, f0, f1, f2, f3, f4, f5, f6]) <;> rfl) (by first | (refine b_add64 ?_ ?_ <;> omega) | exact binA_add)) ?_
  refine OpsG.cons (o_move (by (try simp only [rdF, rd_none, rd_same, rd_ne, ne_eq, Nat.reduceEqDiff, not_false_eq_true, Nat.reduceLT, f0, f1, f2, f3, f4, f5, f6]) <;> rfl)) ?_
  refine OpsG.cons (o_convert rfl (by (try simp only [rdF, rd_none, rd_same, rd_ne, ne_eq, Nat.reduceEqDiff, not_false_eq_true, Nat.reduceLT, f0, f1, f2, f3, f4, f5, f6]) <;> rfl) ((cv_5_3 _).trans (congrArg (fun z => some (Value.int .i64 z)) (wrap64 (by omega) (by omega))))) ?_
  refine OpsG.cons (o_build (by (try simp only [List.map_cons, List.map_nil, rdF, rd_none, rd_same, rd_ne, ne_eq, Nat.reduceEqDiff, not_false_eq_true, Nat.reduceLT, f0, f1, f2, f3, f4, f5, f6]) <;> rfl) (bd_30_0_1 ..)) ?_
  refine OpsG.cons (o_alloc z_30 (cl_14 ..)) ?_
  refine OpsG.cons (o_store (by (try simp only [rdF, rd_none, rd_same, rd_ne, ne_eq, Nat.reduceEqDiff, not_false_eq_true, Nat.reduceLT, f0, f1, f2, f3, f4, f5, f6]) <;> rfl) (by (try simp only [rdF, rd_none, rd_same, rd_ne, ne_eq, Nat.reduceEqDiff, not_false_eq_true, Nat.reduceLT, f0, f1, f2, f3, f4, f5, f6]) <;> rfl) (by (try simp (disch := omega) only [St.get_room, St.get_at_eq, St.get_at_ne, St.get_put_eq, St.get_put_ne, St.get_add_eq, St.get_add_ne, St.get_del_ne, St.next_at, St.next_put', St.next_room, St.next_add', St.next_del']) <;> rfl) (by simp) s_30 (cl_14 ..) rfl rfl (by simp) (by simp only [splice, List.length_cons, List.length_nil, List.drop_succ_cons, List.drop_zero, List.take_succ_cons, List.take_zero, Nat.reduceAdd, Nat.reduceLeDiff, Nat.zero_add, List.append_nil, List.nil_append, List.cons_append]; rfl)) ?_
  refine OpsG.nil ?_
  repeat (refine GoP.seq ?_)
  refine GoP.region ?_ ?_
  · rfl
  refine OpsG.cons (o_assign (by (try simp only [rdF, rd_none, rd_same, rd_ne, ne_eq, Nat.reduceEqDiff, not_false_eq_true, Nat.reduceLT, f0, f1, f2, f3, f4, f5, f6]) <;> rfl)) ?_
  refine OpsG.nil ?_
  repeat (refine GoP.seq ?_)
  refine GoP.region ?_ ?_
  · rfl
  refine OpsG.cons (o_field (by (try simp only [rdF, rd_none, rd_same, rd_ne, ne_eq, Nat.reduceEqDiff, not_false_eq_true, Nat.reduceLT, f0, f1, f2, f3, f4, f5, f6]) <;> rfl) (fa_30_0 _ _)) ?_
  refine OpsG.cons (o_load (by (try simp only [rdF, rd_none, rd_same, rd_ne, ne_eq, Nat.reduceEqDiff, not_false_eq_true, Nat.reduceLT, f0, f1, f2, f3, f4, f5, f6]) <;> rfl) (by (try simp (disch := omega) only [St.get_room, St.get_at_eq, St.get_at_ne, St.get_put_eq, St.get_put_ne, St.get_add_eq, St.get_add_ne, St.get_del_ne, St.next_at, St.next_put', St.next_room, St.next_add', St.next_del']) <;> rfl) (by rw [p_3]; rfl)) ?_
  refine OpsG.nil ?_
  repeat (refine GoP.seq ?_)
  refine GoP.block ?_
  repeat (refine GoP.seq ?_)
  refine GoP.region ?_ ?_
  · rfl
  refine OpsG.cons (o_bin (by (try simp only [rdF, rd_none, rd_same, rd_ne, ne_eq, Nat.reduceEqDiff, not_false_eq_true, Nat.reduceLT, f0, f1, f2, f3, f4, f5, f6]) <;> rfl) (by (try simp only [rdF, rd_none, rd_same, rd_ne, ne_eq, Nat.reduceEqDiff, not_false_eq_true, Nat.reduceLT, f0, f1, f2, f3, f4, f5, f6]) <;> rfl) binA_eql) ?_
  refine OpsG.cons (o_assign (by (try simp only [rdF, rd_none, rd_same, rd_ne, ne_eq, Nat.reduceEqDiff, not_false_eq_true, Nat.reduceLT, f0, f1, f2, f3, f4, f5, f6]) <;> rfl)) ?_
  refine OpsG.nil ?_
  repeat (refine GoP.seq ?_)
  refine GoP.cond (by rfl) (by (try simp only [rdF, rd_none, rd_same, rd_ne, ne_eq, Nat.reduceEqDiff, not_false_eq_true, Nat.reduceLT, f0, f1, f2, f3, f4, f5, f6]) <;> rfl) (fun hc1 => ?_) (fun hc1 => ?_)
  ·
    have hK : 1 + kind % 5 = 1 := by simpa using hc1
    repeat (refine GoP.seq ?_)
    refine GoP.region ?_ ?_
    · rfl
    refine OpsG.cons (o_load (by (try simp only [rdF, rd_none, rd_same, rd_ne, ne_eq, Nat.reduceEqDiff, not_false_eq_true, Nat.reduceLT, f0, f1, f2, f3, f4, f5, f6]) <;> rfl) (by (try simp (disch := omega) only [St.get_room, St.get_at_eq, St.get_at_ne, St.get_put_eq, St.get_put_ne, St.get_add_eq, St.get_add_ne, St.get_del_ne, St.next_at, St.next_put', St.next_room, St.next_add', St.next_del']) <;> rfl) (by rw [p_28]; simp only [List.length_cons, List.length_nil, List.drop_succ_cons, List.drop_zero, List.take_succ_cons, List.take_zero, Nat.reduceAdd, Nat.reduceLeDiff, Nat.zero_add, if_true]; rfl)) ?_
    refine OpsG.cons (o_field (by (try simp only [rdF, rd_none, rd_same, rd_ne, ne_eq, Nat.reduceEqDiff, not_false_eq_true, Nat.reduceLT, f0, f1, f2, f3, f4, f5, f6]) <;> rfl) (fa_30_2 _ _)) ?_
    refine OpsG.cons (o_store (by (try simp only [rdF, rd_none, rd_same, rd_ne, ne_eq, Nat.reduceEqDiff, not_false_eq_true, Nat.reduceLT, f0, f1, f2, f3, f4, f5, f6]) <;> rfl) (by (try simp only [rdF, rd_none, rd_same, rd_ne, ne_eq, Nat.reduceEqDiff, not_false_eq_true, Nat.reduceLT, f0, f1, f2, f3, f4, f5, f6]) <;> rfl) (by (try simp (disch := omega) only [St.get_room, St.get_at_eq, St.get_at_ne, St.get_put_eq, St.get_put_ne, St.get_add_eq, St.get_add_ne, St.get_del_ne, St.next_at, St.next_put', St.next_room, St.next_add', St.next_del']) <;> rfl) (by simp) s_28 (cl_8 ..) rfl rfl (by simp) (by simp only [splice, List.length_cons, List.length_nil, List.drop_succ_cons, List.drop_zero, List.take_succ_cons, List.take_zero, Nat.reduceAdd, Nat.reduceLeDiff, Nat.zero_add, List.append_nil, List.nil_append, List.cons_append]; rfl)) ?_
    refine OpsG.cons (o_assign (by (try simp only [rdF, rd_none, rd_same, rd_ne, ne_eq, Nat.reduceEqDiff, not_false_eq_true, Nat.reduceLT, f0, f1, f2, f3, f4, f5, f6]) <;> rfl)) ?_
    refine OpsG.nil ?_
    repeat (refine GoP.seq ?_)
    refine GoP.name ?_
    rintro σ3 hσ3
    have hx3 : σ3.get (σ1.next + 1) = some (.cells [.int .i64 1, .int .i64 cpu, .int .u64 r0, .int .u64 r1, .int .u64 r2, .int .u64 r3, .int .u64 r4, .int .u64 r5, .int .u64 r6, .int .u64 r7, .int .i64 0, .int .i64 0, .int .u64 0, .int .i64 0] 30 .ex) := by
      rw [hσ3]
      simp (disch := omega) only [St.get_room, St.get_at_eq, St.get_at_ne, St.get_put_eq, St.get_put_ne, St.get_add_eq, St.get_add_ne, St.get_del_ne, St.next_at, St.next_put', St.next_room, St.next_add', St.next_del', hK]
    have hn3 : σ3.next = σ1.next + 2 := by
      rw [hσ3]
      rfl
    have hsok : (.call cpu [r0, r1, r2, r3, r4, r5, r6, r7] : Stp).ok := by simp only [Stp.ok, u64r, List.length_cons, List.length_nil, List.mem_cons, List.not_mem_nil, or_false, forall_eq_or_imp, forall_eq, true_and]; omega
    have hlen14 := cells_length hsok
    refine GoP.region ?_ ?_
    · rfl
    refine OpsG.cons (o_load (by (try simp only [rdF, rd_none, rd_same, rd_ne, ne_eq, Nat.reduceEqDiff, not_false_eq_true, Nat.reduceLT, f0, f1, f2, f3, f4, f5, f6]) <;> rfl) (by (try simp (disch := omega) only [St.get_room, St.get_at_eq, St.get_at_ne, St.get_put_eq, St.get_put_ne, St.get_add_eq, St.get_add_ne, St.get_del_ne, St.next_at, St.next_put', St.next_room, St.next_add', St.next_del', hx3]) <;> rfl) (by rw [p_30]; simp only [List.length_cons, List.length_nil, List.drop_succ_cons, List.drop_zero, List.take_succ_cons, List.take_zero, Nat.reduceAdd, Nat.reduceLeDiff, Nat.zero_add, if_true]; rfl)) ?_
    refine OpsG.cons (o_makesOf (fun _ => _) rfl (by intro x hx; have e : x = .tmp 57 := (by simpa [Op.operands] using hx); rw [e]; exact (by (try simp only [rdF, rd_none, rd_same, rd_ne, ne_eq, Nat.reduceEqDiff, not_false_eq_true, Nat.reduceLT, f0, f1, f2, f3, f4, f5, f6]) <;> rfl)) (bs23 ..)) ?_
    refine OpsG.name ?_
    rintro σ4 hσ4
    have hx4 : σ4.get (σ1.next + 1) = some (.cells (.call cpu [r0, r1, r2, r3, r4, r5, r6, r7] : Stp).cells 30 .ex) := by rw [hσ4, St.get_at_ne (by omega)]; exact hx3
    have hn4 : σ4.next = σ1.next + 3 := by rw [hσ4, St.next_at, hn3]
    have hst : StA (· < σ4.next) σ4 (.slice (some ⟨σ3.next, 0, none⟩) 1 1) [.call cpu [r0, r1, r2, r3, r4, r5, r6, r7]] := ⟨_, 1, rfl, fun _ => ⟨σ3.next, 0, _, 30, .ex, rfl, by omega, by rw [hσ4, St.get_at_eq rfl], fun i hi => by obtain rfl : i = 0 := (by simpa using hi); rfl⟩⟩
    refine OpsG.call (by (try simp only [List.map_cons, List.map_nil, rdF, rd_none, rd_same, rd_ne, ne_eq, Nat.reduceEqDiff, not_false_eq_true, Nat.reduceLT, f0, f1, f2, f3, f4, f5, f6]) <;> rfl) (enc_con hst (fun s hs => by rw [List.mem_singleton.1 hs]; exact hsok) (by simp)) ?_
    rintro rvb σ5 ⟨b5, hb5, hbut5, hb5n⟩
    have hde : decS (encS [.call cpu [r0, r1, r2, r3, r4, r5, r6, r7]]) = [.call cpu [r0, r1, r2, r3, r4, r5, r6, r7]] := by have := dec_enc [.call cpu [r0, r1, r2, r3, r4, r5, r6, r7]] (fun s hs => by rw [List.mem_singleton.1 hs]; exact hsok) []; rw [decS_nil, List.append_nil, List.append_nil] at this; exact this
    have hbl : (encS [.call cpu [r0, r1, r2, r3, r4, r5, r6, r7]]).length = 67 := by rfl
    have hby := byt_enc (l := [.call cpu [r0, r1, r2, r3, r4, r5, r6, r7]]) (fun s hs => by rw [List.mem_singleton.1 hs]; exact hsok)
    refine OpsG.cons (o_assign (by (try simp only [rdF, rd_none, rd_same, rd_ne, ne_eq, Nat.reduceEqDiff, not_false_eq_true, Nat.reduceLT, f0, f1, f2, f3, f4, f5, f6]) <;> rfl)) ?_
    refine OpsG.nil ?_
    repeat (refine GoP.seq ?_)
    refine GoP.region ?_ ?_
    · rfl
    refine OpsG.cons (o_move (by (try simp only [rdF, rd_none, rd_same, rd_ne, ne_eq, Nat.reduceEqDiff, not_false_eq_true, Nat.reduceLT, f0, f1, f2, f3, f4, f5, f6]) <;> rfl)) ?_
    refine OpsG.call (by (try simp only [List.map_cons, List.map_nil, rdF, rd_none, rd_same, rd_ne, ne_eq, Nat.reduceEqDiff, not_false_eq_true, Nat.reduceLT, f0, f1, f2, f3, f4, f5, f6]) <;> rfl) (decode_con (hb5.bts (fun h => (hb5n h).2)) hby (by omega)) ?_
    rintro rvd σ6 ⟨b6, hrow, hbut6, hb6n⟩
    rw [hde] at hrow
    have hn5 := hbut5.next
    have hx6 : σ6.get (σ1.next + 1) = some (.cells (.call cpu [r0, r1, r2, r3, r4, r5, r6, r7] : Stp).cells 30 .ex) := by rw [hbut6.get _ (by omega) id, hbut5.get _ (by omega) id]; exact hx4
    obtain ⟨hrA, hrB⟩ := hrow
    rcases hrB with ⟨hrB, -⟩ | ⟨-, rfl, hb6g⟩
    · simp at hrB
    simp only [List.map_cons, List.map_nil, List.flatten_cons, List.flatten_nil, List.append_nil, List.length_cons, List.length_nil, Nat.zero_add] at hb6g
    rcases hb5 with ⟨h5, -⟩ | ⟨-, c5, kd5, rfl, -, -⟩
    · rw [h5] at hbl; simp at hbl
    have hbe : (((encS [.call cpu [r0, r1, r2, r3, r4, r5, r6, r7]]).length : Int) == 67) = true := by rw [hbl]; rfl
    refine OpsG.cons (o_assign (by (try simp only [rdF, rd_none, rd_same, rd_ne, ne_eq, Nat.reduceEqDiff, not_false_eq_true, Nat.reduceLT, f0, f1, f2, f3, f4, f5, f6, hbe]) <;> rfl)) ?_
    refine OpsG.nil ?_
    repeat (refine GoP.seq ?_)
    refine GoP.drawn (noK_ok _) mixed ?_ ?_ ?_
    · rfl
    · kernel_rfl
    refine TrP.cons (o_move (by (try simp only [rdF, rd_none, rd_same, rd_ne, ne_eq, Nat.reduceEqDiff, not_false_eq_true, Nat.reduceLT, f0, f1, f2, f3, f4, f5, f6, hbe]) <;> rfl)) ?_
    refine TrP.cons (o_builtin rfl (by (try simp only [List.map_cons, List.map_nil, rdF, rd_none, rd_same, rd_ne, ne_eq, Nat.reduceEqDiff, not_false_eq_true, Nat.reduceLT, f0, f1, f2, f3, f4, f5, f6, hbe]) <;> rfl) (len_25 ..)) ?_
    refine TrP.cons (o_move (by (try simp only [rdF, rd_none, rd_same, rd_ne, ne_eq, Nat.reduceEqDiff, not_false_eq_true, Nat.reduceLT, f0, f1, f2, f3, f4, f5, f6, hbe]) <;> rfl)) ?_
    refine TrP.cons (o_bin (by (try simp only [rdF, rd_none, rd_same, rd_ne, ne_eq, Nat.reduceEqDiff, not_false_eq_true, Nat.reduceLT, f0, f1, f2, f3, f4, f5, f6, hbe]) <;> rfl) (by (try simp only [rdF, rd_none, rd_same, rd_ne, ne_eq, Nat.reduceEqDiff, not_false_eq_true, Nat.reduceLT, f0, f1, f2, f3, f4, f5, f6, hbe]) <;> rfl) binA_eql) ?_
    refine TrP.cons (o_move (by (try simp only [rdF, rd_none, rd_same, rd_ne, ne_eq, Nat.reduceEqDiff, not_false_eq_true, Nat.reduceLT, f0, f1, f2, f3, f4, f5, f6, hbe]) <;> rfl)) ?_
    refine TrP.want (by rfl) (by rfl) (by (try simp only [rdF, rd_none, rd_same, rd_ne, ne_eq, Nat.reduceEqDiff, not_false_eq_true, Nat.reduceLT, f0, f1, f2, f3, f4, f5, f6, hbe]) <;> rfl) (o_move (by (try simp only [rdF, rd_none, rd_same, rd_ne, ne_eq, Nat.reduceEqDiff, not_false_eq_true, Nat.reduceLT, f0, f1, f2, f3, f4, f5, f6, hbe]) <;> rfl)) ?_
    refine TrP.want (by rfl) (by rfl) (by (try simp only [rdF, rd_none, rd_same, rd_ne, ne_eq, Nat.reduceEqDiff, not_false_eq_true, Nat.reduceLT, f0, f1, f2, f3, f4, f5, f6, hbe]) <;> rfl) (o_builtin rfl (by (try simp only [List.map_cons, List.map_nil, rdF, rd_none, rd_same, rd_ne, ne_eq, Nat.reduceEqDiff, not_false_eq_true, Nat.reduceLT, f0, f1, f2, f3, f4, f5, f6, hbe]) <;> rfl) (len_23 ..)) ?_
    refine TrP.want (by rfl) (by rfl) (by (try simp only [rdF, rd_none, rd_same, rd_ne, ne_eq, Nat.reduceEqDiff, not_false_eq_true, Nat.reduceLT, f0, f1, f2, f3, f4, f5, f6, hbe]) <;> rfl) (o_bin (by (try simp only [rdF, rd_none, rd_same, rd_ne, ne_eq, Nat.reduceEqDiff, not_false_eq_true, Nat.reduceLT, f0, f1, f2, f3, f4, f5, f6, hbe]) <;> rfl) (by (try simp only [rdF, rd_none, rd_same, rd_ne, ne_eq, Nat.reduceEqDiff, not_false_eq_true, Nat.reduceLT, f0, f1, f2, f3, f4, f5, f6, hbe]) <;> rfl) binA_eql) ?_
    refine TrP.cons (o_pickT (by (try simp only [rdF, rd_none, rd_same, rd_ne, ne_eq, Nat.reduceEqDiff, not_false_eq_true, Nat.reduceLT, f0, f1, f2, f3, f4, f5, f6, hbe]) <;> rfl) (by (try simp only [rdF, rd_none, rd_same, rd_ne, ne_eq, Nat.reduceEqDiff, not_false_eq_true, Nat.reduceLT, f0, f1, f2, f3, f4, f5, f6, hbe]) <;> rfl)) ?_
    refine TrP.cons (o_move (by (try simp only [rdF, rd_none, rd_same, rd_ne, ne_eq, Nat.reduceEqDiff, not_false_eq_true, Nat.reduceLT, f0, f1, f2, f3, f4, f5, f6, hbe]) <;> rfl)) ?_
    refine TrP.want (by rfl) (by rfl) (by (try simp only [rdF, rd_none, rd_same, rd_ne, ne_eq, Nat.reduceEqDiff, not_false_eq_true, Nat.reduceLT, f0, f1, f2, f3, f4, f5, f6, hbe]) <;> rfl) (o_move (by (try simp only [rdF, rd_none, rd_same, rd_ne, ne_eq, Nat.reduceEqDiff, not_false_eq_true, Nat.reduceLT, f0, f1, f2, f3, f4, f5, f6, hbe]) <;> rfl)) ?_
    refine TrP.want (by rfl) (by rfl) (by (try simp only [rdF, rd_none, rd_same, rd_ne, ne_eq, Nat.reduceEqDiff, not_false_eq_true, Nat.reduceLT, f0, f1, f2, f3, f4, f5, f6, hbe]) <;> rfl) (o_indexAddr (by (try simp only [rdF, rd_none, rd_same, rd_ne, ne_eq, Nat.reduceEqDiff, not_false_eq_true, Nat.reduceLT, f0, f1, f2, f3, f4, f5, f6, hbe]) <;> rfl) (by (try simp only [rdF, rd_none, rd_same, rd_ne, ne_eq, Nat.reduceEqDiff, not_false_eq_true, Nat.reduceLT, f0, f1, f2, f3, f4, f5, f6, hbe]) <;> rfl) (v := .pointer (some ⟨b6, 0, none⟩)) (by rw [ixi_23 (by omega) (by simp)]; rfl)) ?_
    refine TrP.want (by rfl) (by rfl) (by (try simp only [rdF, rd_none, rd_same, rd_ne, ne_eq, Nat.reduceEqDiff, not_false_eq_true, Nat.reduceLT, f0, f1, f2, f3, f4, f5, f6, hbe]) <;> rfl) (o_load (by (try simp only [rdF, rd_none, rd_same, rd_ne, ne_eq, Nat.reduceEqDiff, not_false_eq_true, Nat.reduceLT, f0, f1, f2, f3, f4, f5, f6, hbe]) <;> rfl) (by (try simp (disch := omega) only [St.get_room, St.get_at_eq, St.get_at_ne, St.get_put_eq, St.get_put_ne, St.get_add_eq, St.get_add_ne, St.get_del_ne, St.next_at, St.next_put', St.next_room, St.next_add', St.next_del', hx3, hx6, hb6g]) <;> rfl) (by rw [p_30, if_pos (by rw [hlen14]; omega), List.drop_zero, List.take_of_length_le (by rw [hlen14]; omega)])) ?_
    refine TrP.want (by rfl) (by rfl) (by (try simp only [rdF, rd_none, rd_same, rd_ne, ne_eq, Nat.reduceEqDiff, not_false_eq_true, Nat.reduceLT, f0, f1, f2, f3, f4, f5, f6, hbe]) <;> rfl) (o_load (by (try simp only [rdF, rd_none, rd_same, rd_ne, ne_eq, Nat.reduceEqDiff, not_false_eq_true, Nat.reduceLT, f0, f1, f2, f3, f4, f5, f6, hbe]) <;> rfl) (by (try simp (disch := omega) only [St.get_room, St.get_at_eq, St.get_at_ne, St.get_put_eq, St.get_put_ne, St.get_add_eq, St.get_add_ne, St.get_del_ne, St.next_at, St.next_put', St.next_room, St.next_add', St.next_del', hx3, hx6, hb6g]) <;> rfl) (by rw [p_30, if_pos (by rw [hlen14]; omega), List.drop_zero, List.take_of_length_le (by rw [hlen14]; omega)])) ?_
    refine TrP.want (by rfl) (by rfl) (by (try simp only [rdF, rd_none, rd_same, rd_ne, ne_eq, Nat.reduceEqDiff, not_false_eq_true, Nat.reduceLT, f0, f1, f2, f3, f4, f5, f6, hbe]) <;> rfl) (o_bin (by (try simp only [rdF, rd_none, rd_same, rd_ne, ne_eq, Nat.reduceEqDiff, not_false_eq_true, Nat.reduceLT, f0, f1, f2, f3, f4, f5, f6, hbe]) <;> rfl) (by (try simp only [rdF, rd_none, rd_same, rd_ne, ne_eq, Nat.reduceEqDiff, not_false_eq_true, Nat.reduceLT, f0, f1, f2, f3, f4, f5, f6, hbe]) <;> rfl) (eq30 hsok _ _).1) ?_
    refine TrP.cons (o_pickT (by (try simp only [rdF, rd_none, rd_same, rd_ne, ne_eq, Nat.reduceEqDiff, not_false_eq_true, Nat.reduceLT, f0, f1, f2, f3, f4, f5, f6, hbe]) <;> rfl) (by (try simp only [rdF, rd_none, rd_same, rd_ne, ne_eq, Nat.reduceEqDiff, not_false_eq_true, Nat.reduceLT, f0, f1, f2, f3, f4, f5, f6, hbe]) <;> rfl)) ?_
    refine TrP.cons (o_assign (by (try simp only [rdF, rd_none, rd_same, rd_ne, ne_eq, Nat.reduceEqDiff, not_false_eq_true, Nat.reduceLT, f0, f1, f2, f3, f4, f5, f6, hbe]) <;> rfl)) ?_
    refine TrP.nil ⟨ChecksG.of (l1 := []) (l2 := []) (by kernel_rfl) (by kernel_rfl) ?_ ?_, ?_⟩
    · all_goals (simp only [List.forall_mem_cons, List.not_mem_nil, false_implies, implies_true, and_true]; try trivial)
    · simp only [List.forall_mem_cons, List.not_mem_nil, false_implies, implies_true, and_true]; try trivial
    repeat (refine GoP.seq ?_)
    refine GoP.ret ?_
    refine ⟨.inl rfl, [.bool true], ?_, ?_⟩
    · exact (by (try simp only [resAllF, resOneF, rdF, rd_none, rd_same, rd_ne, ne_eq, Nat.reduceEqDiff, not_false_eq_true, Nat.reduceLT, f0, f1, f2, f3, f4, f5, f6, hbe]) <;> rfl)
    · rfl
  ·
    repeat (refine GoP.seq ?_)
    refine GoP.region ?_ ?_
    · rfl
    refine OpsG.cons (o_bin (by (try simp only [rdF, rd_none, rd_same, rd_ne, ne_eq, Nat.reduceEqDiff, not_false_eq_true, Nat.reduceLT, f0, f1, f2, f3, f4, f5, f6]) <;> rfl) (by (try simp only [rdF, rd_none, rd_same, rd_ne, ne_eq, Nat.reduceEqDiff, not_false_eq_true, Nat.reduceLT, f0, f1, f2, f3, f4, f5, f6]) <;> rfl) binA_eql) ?_
    refine OpsG.cons (o_assign (by (try simp only [rdF, rd_none, rd_same, rd_ne, ne_eq, Nat.reduceEqDiff, not_false_eq_true, Nat.reduceLT, f0, f1, f2, f3, f4, f5, f6]) <;> rfl)) ?_
    refine OpsG.nil ?_
    repeat (refine GoP.seq ?_)
    refine GoP.cond (by rfl) (by (try simp only [rdF, rd_none, rd_same, rd_ne, ne_eq, Nat.reduceEqDiff, not_false_eq_true, Nat.reduceLT, f0, f1, f2, f3, f4, f5, f6]) <;> rfl) (fun hc2 => ?_) (fun hc2 => ?_)
    ·
      have hK : 1 + kind % 5 = 2 := by simpa using hc2
      repeat (refine GoP.seq ?_)
      refine GoP.region ?_ ?_
      · rfl
      refine OpsG.cons (o_move (by (try simp only [rdF, rd_none, rd_same, rd_ne, ne_eq, Nat.reduceEqDiff, not_false_eq_true, Nat.reduceLT, f0, f1, f2, f3, f4, f5, f6]) <;> rfl)) ?_
      refine OpsG.cons (o_convert rfl (by (try simp only [rdF, rd_none, rd_same, rd_ne, ne_eq, Nat.reduceEqDiff, not_false_eq_true, Nat.reduceLT, f0, f1, f2, f3, f4, f5, f6]) <;> rfl) ((cv_33_3 _).trans (congrArg (fun z => some (Value.int .i64 z)) (wrap64 (by omega) (by omega))))) ?_
      refine OpsG.cons (o_move (by (try simp only [rdF, rd_none, rd_same, rd_ne, ne_eq, Nat.reduceEqDiff, not_false_eq_true, Nat.reduceLT, f0, f1, f2, f3, f4, f5, f6]) <;> rfl)) ?_
      refine OpsG.cons (o_convert rfl (by (try simp only [rdF, rd_none, rd_same, rd_ne, ne_eq, Nat.reduceEqDiff, not_false_eq_true, Nat.reduceLT, f0, f1, f2, f3, f4, f5, f6]) <;> rfl) ((cv_5_3 _).trans (congrArg (fun z => some (Value.int .i64 z)) (wrap64 (by omega) (by omega))))) ?_
      refine OpsG.cons (o_field (by (try simp only [rdF, rd_none, rd_same, rd_ne, ne_eq, Nat.reduceEqDiff, not_false_eq_true, Nat.reduceLT, f0, f1, f2, f3, f4, f5, f6]) <;> rfl) (fa_30_3 _ _)) ?_
      refine OpsG.cons (o_store (by (try simp only [rdF, rd_none, rd_same, rd_ne, ne_eq, Nat.reduceEqDiff, not_false_eq_true, Nat.reduceLT, f0, f1, f2, f3, f4, f5, f6]) <;> rfl) (by (try simp only [rdF, rd_none, rd_same, rd_ne, ne_eq, Nat.reduceEqDiff, not_false_eq_true, Nat.reduceLT, f0, f1, f2, f3, f4, f5, f6]) <;> rfl) (by (try simp (disch := omega) only [St.get_room, St.get_at_eq, St.get_at_ne, St.get_put_eq, St.get_put_ne, St.get_add_eq, St.get_add_ne, St.get_del_ne, St.next_at, St.next_put', St.next_room, St.next_add', St.next_del']) <;> rfl) (by simp) s_3 (cl1 rfl) rfl rfl (by simp) (by simp only [splice, List.length_cons, List.length_nil, List.drop_succ_cons, List.drop_zero, List.take_succ_cons, List.take_zero, Nat.reduceAdd, Nat.reduceLeDiff, Nat.zero_add, List.append_nil, List.nil_append, List.cons_append]; rfl)) ?_
      refine OpsG.cons (o_field (by (try simp only [rdF, rd_none, rd_same, rd_ne, ne_eq, Nat.reduceEqDiff, not_false_eq_true, Nat.reduceLT, f0, f1, f2, f3, f4, f5, f6]) <;> rfl) (fa_30_4 _ _)) ?_
      refine OpsG.cons (o_store (by (try simp only [rdF, rd_none, rd_same, rd_ne, ne_eq, Nat.reduceEqDiff, not_false_eq_true, Nat.reduceLT, f0, f1, f2, f3, f4, f5, f6]) <;> rfl) (by (try simp only [rdF, rd_none, rd_same, rd_ne, ne_eq, Nat.reduceEqDiff, not_false_eq_true, Nat.reduceLT, f0, f1, f2, f3, f4, f5, f6]) <;> rfl) (by (try simp (disch := omega) only [St.get_room, St.get_at_eq, St.get_at_ne, St.get_put_eq, St.get_put_ne, St.get_add_eq, St.get_add_ne, St.get_del_ne, St.next_at, St.next_put', St.next_room, St.next_add', St.next_del']) <;> rfl) (by simp) s_3 (cl1 rfl) rfl rfl (by simp) (by simp only [splice, List.length_cons, List.length_nil, List.drop_succ_cons, List.drop_zero, List.take_succ_cons, List.take_zero, Nat.reduceAdd, Nat.reduceLeDiff, Nat.zero_add, List.append_nil, List.nil_append, List.cons_append]; rfl)) ?_
      refine OpsG.cons (o_assign (by (try simp only [rdF, rd_none, rd_same, rd_ne, ne_eq, Nat.reduceEqDiff, not_false_eq_true, Nat.reduceLT, f0, f1, f2, f3, f4, f5, f6]) <;> rfl)) ?_
      refine OpsG.nil ?_
      repeat (refine GoP.seq ?_)
      refine GoP.name ?_
      rintro σ3 hσ3
      have hx3 : σ3.get (σ1.next + 1) = some (.cells [.int .i64 2, .int .i64 cpu, .int .u64 0, .int .u64 0, .int .u64 0, .int .u64 0, .int .u64 0, .int .u64 0, .int .u64 0, .int .u64 0, .int .i64 page, .int .i64 word, .int .u64 0, .int .i64 0] 30 .ex) := by
        rw [hσ3]
        simp (disch := omega) only [St.get_room, St.get_at_eq, St.get_at_ne, St.get_put_eq, St.get_put_ne, St.get_add_eq, St.get_add_ne, St.get_del_ne, St.next_at, St.next_put', St.next_room, St.next_add', St.next_del', hK]
      have hn3 : σ3.next = σ1.next + 2 := by
        rw [hσ3]
        rfl
      have hsok : (.load cpu page word : Stp).ok := by simp only [Stp.ok, u64r, List.length_cons, List.length_nil, List.mem_cons, List.not_mem_nil, or_false, forall_eq_or_imp, forall_eq, true_and]; omega
      have hlen14 := cells_length hsok
      refine GoP.region ?_ ?_
      · rfl
      refine OpsG.cons (o_load (by (try simp only [rdF, rd_none, rd_same, rd_ne, ne_eq, Nat.reduceEqDiff, not_false_eq_true, Nat.reduceLT, f0, f1, f2, f3, f4, f5, f6]) <;> rfl) (by (try simp (disch := omega) only [St.get_room, St.get_at_eq, St.get_at_ne, St.get_put_eq, St.get_put_ne, St.get_add_eq, St.get_add_ne, St.get_del_ne, St.next_at, St.next_put', St.next_room, St.next_add', St.next_del', hx3]) <;> rfl) (by rw [p_30]; simp only [List.length_cons, List.length_nil, List.drop_succ_cons, List.drop_zero, List.take_succ_cons, List.take_zero, Nat.reduceAdd, Nat.reduceLeDiff, Nat.zero_add, if_true]; rfl)) ?_
      refine OpsG.cons (o_makesOf (fun _ => _) rfl (by intro x hx; have e : x = .tmp 57 := (by simpa [Op.operands] using hx); rw [e]; exact (by (try simp only [rdF, rd_none, rd_same, rd_ne, ne_eq, Nat.reduceEqDiff, not_false_eq_true, Nat.reduceLT, f0, f1, f2, f3, f4, f5, f6]) <;> rfl)) (bs23 ..)) ?_
      refine OpsG.name ?_
      rintro σ4 hσ4
      have hx4 : σ4.get (σ1.next + 1) = some (.cells (.load cpu page word : Stp).cells 30 .ex) := by rw [hσ4, St.get_at_ne (by omega)]; exact hx3
      have hn4 : σ4.next = σ1.next + 3 := by rw [hσ4, St.next_at, hn3]
      have hst : StA (· < σ4.next) σ4 (.slice (some ⟨σ3.next, 0, none⟩) 1 1) [.load cpu page word] := ⟨_, 1, rfl, fun _ => ⟨σ3.next, 0, _, 30, .ex, rfl, by omega, by rw [hσ4, St.get_at_eq rfl], fun i hi => by obtain rfl : i = 0 := (by simpa using hi); rfl⟩⟩
      refine OpsG.call (by (try simp only [List.map_cons, List.map_nil, rdF, rd_none, rd_same, rd_ne, ne_eq, Nat.reduceEqDiff, not_false_eq_true, Nat.reduceLT, f0, f1, f2, f3, f4, f5, f6]) <;> rfl) (enc_con hst (fun s hs => by rw [List.mem_singleton.1 hs]; exact hsok) (by simp)) ?_
      rintro rvb σ5 ⟨b5, hb5, hbut5, hb5n⟩
      have hde : decS (encS [.load cpu page word]) = [.load cpu page word] := by have := dec_enc [.load cpu page word] (fun s hs => by rw [List.mem_singleton.1 hs]; exact hsok) []; rw [decS_nil, List.append_nil, List.append_nil] at this; exact this
      have hbl : (encS [.load cpu page word]).length = 5 := by rfl
      have hby := byt_enc (l := [.load cpu page word]) (fun s hs => by rw [List.mem_singleton.1 hs]; exact hsok)
      refine OpsG.cons (o_assign (by (try simp only [rdF, rd_none, rd_same, rd_ne, ne_eq, Nat.reduceEqDiff, not_false_eq_true, Nat.reduceLT, f0, f1, f2, f3, f4, f5, f6]) <;> rfl)) ?_
      refine OpsG.nil ?_
      repeat (refine GoP.seq ?_)
      refine GoP.region ?_ ?_
      · rfl
      refine OpsG.cons (o_move (by (try simp only [rdF, rd_none, rd_same, rd_ne, ne_eq, Nat.reduceEqDiff, not_false_eq_true, Nat.reduceLT, f0, f1, f2, f3, f4, f5, f6]) <;> rfl)) ?_
      refine OpsG.call (by (try simp only [List.map_cons, List.map_nil, rdF, rd_none, rd_same, rd_ne, ne_eq, Nat.reduceEqDiff, not_false_eq_true, Nat.reduceLT, f0, f1, f2, f3, f4, f5, f6]) <;> rfl) (decode_con (hb5.bts (fun h => (hb5n h).2)) hby (by omega)) ?_
      rintro rvd σ6 ⟨b6, hrow, hbut6, hb6n⟩
      rw [hde] at hrow
      have hn5 := hbut5.next
      have hx6 : σ6.get (σ1.next + 1) = some (.cells (.load cpu page word : Stp).cells 30 .ex) := by rw [hbut6.get _ (by omega) id, hbut5.get _ (by omega) id]; exact hx4
      obtain ⟨hrA, hrB⟩ := hrow
      rcases hrB with ⟨hrB, -⟩ | ⟨-, rfl, hb6g⟩
      · simp at hrB
      simp only [List.map_cons, List.map_nil, List.flatten_cons, List.flatten_nil, List.append_nil, List.length_cons, List.length_nil, Nat.zero_add] at hb6g
      rcases hb5 with ⟨h5, -⟩ | ⟨-, c5, kd5, rfl, -, -⟩
      · rw [h5] at hbl; simp at hbl
      have hbe : (((encS [.load cpu page word]).length : Int) == 5) = true := by rw [hbl]; rfl
      refine OpsG.cons (o_assign (by (try simp only [rdF, rd_none, rd_same, rd_ne, ne_eq, Nat.reduceEqDiff, not_false_eq_true, Nat.reduceLT, f0, f1, f2, f3, f4, f5, f6, hbe]) <;> rfl)) ?_
      refine OpsG.nil ?_
      repeat (refine GoP.seq ?_)
      refine GoP.drawn (noK_ok _) mixed ?_ ?_ ?_
      · rfl
      · kernel_rfl
      refine TrP.cons (o_move (by (try simp only [rdF, rd_none, rd_same, rd_ne, ne_eq, Nat.reduceEqDiff, not_false_eq_true, Nat.reduceLT, f0, f1, f2, f3, f4, f5, f6, hbe]) <;> rfl)) ?_
      refine TrP.cons (o_builtin rfl (by (try simp only [List.map_cons, List.map_nil, rdF, rd_none, rd_same, rd_ne, ne_eq, Nat.reduceEqDiff, not_false_eq_true, Nat.reduceLT, f0, f1, f2, f3, f4, f5, f6, hbe]) <;> rfl) (len_25 ..)) ?_
      refine TrP.cons (o_move (by (try simp only [rdF, rd_none, rd_same, rd_ne, ne_eq, Nat.reduceEqDiff, not_false_eq_true, Nat.reduceLT, f0, f1, f2, f3, f4, f5, f6, hbe]) <;> rfl)) ?_
      refine TrP.cons (o_bin (by (try simp only [rdF, rd_none, rd_same, rd_ne, ne_eq, Nat.reduceEqDiff, not_false_eq_true, Nat.reduceLT, f0, f1, f2, f3, f4, f5, f6, hbe]) <;> rfl) (by (try simp only [rdF, rd_none, rd_same, rd_ne, ne_eq, Nat.reduceEqDiff, not_false_eq_true, Nat.reduceLT, f0, f1, f2, f3, f4, f5, f6, hbe]) <;> rfl) binA_eql) ?_
      refine TrP.cons (o_move (by (try simp only [rdF, rd_none, rd_same, rd_ne, ne_eq, Nat.reduceEqDiff, not_false_eq_true, Nat.reduceLT, f0, f1, f2, f3, f4, f5, f6, hbe]) <;> rfl)) ?_
      refine TrP.want (by rfl) (by rfl) (by (try simp only [rdF, rd_none, rd_same, rd_ne, ne_eq, Nat.reduceEqDiff, not_false_eq_true, Nat.reduceLT, f0, f1, f2, f3, f4, f5, f6, hbe]) <;> rfl) (o_move (by (try simp only [rdF, rd_none, rd_same, rd_ne, ne_eq, Nat.reduceEqDiff, not_false_eq_true, Nat.reduceLT, f0, f1, f2, f3, f4, f5, f6, hbe]) <;> rfl)) ?_
      refine TrP.want (by rfl) (by rfl) (by (try simp only [rdF, rd_none, rd_same, rd_ne, ne_eq, Nat.reduceEqDiff, not_false_eq_true, Nat.reduceLT, f0, f1, f2, f3, f4, f5, f6, hbe]) <;> rfl) (o_builtin rfl (by (try simp only [List.map_cons, List.map_nil, rdF, rd_none, rd_same, rd_ne, ne_eq, Nat.reduceEqDiff, not_false_eq_true, Nat.reduceLT, f0, f1, f2, f3, f4, f5, f6, hbe]) <;> rfl) (len_23 ..)) ?_
      refine TrP.want (by rfl) (by rfl) (by (try simp only [rdF, rd_none, rd_same, rd_ne, ne_eq, Nat.reduceEqDiff, not_false_eq_true, Nat.reduceLT, f0, f1, f2, f3, f4, f5, f6, hbe]) <;> rfl) (o_bin (by (try simp only [rdF, rd_none, rd_same, rd_ne, ne_eq, Nat.reduceEqDiff, not_false_eq_true, Nat.reduceLT, f0, f1, f2, f3, f4, f5, f6, hbe]) <;> rfl) (by (try simp only [rdF, rd_none, rd_same, rd_ne, ne_eq, Nat.reduceEqDiff, not_false_eq_true, Nat.reduceLT, f0, f1, f2, f3, f4, f5, f6, hbe]) <;> rfl) binA_eql) ?_
      refine TrP.cons (o_pickT (by (try simp only [rdF, rd_none, rd_same, rd_ne, ne_eq, Nat.reduceEqDiff, not_false_eq_true, Nat.reduceLT, f0, f1, f2, f3, f4, f5, f6, hbe]) <;> rfl) (by (try simp only [rdF, rd_none, rd_same, rd_ne, ne_eq, Nat.reduceEqDiff, not_false_eq_true, Nat.reduceLT, f0, f1, f2, f3, f4, f5, f6, hbe]) <;> rfl)) ?_
      refine TrP.cons (o_move (by (try simp only [rdF, rd_none, rd_same, rd_ne, ne_eq, Nat.reduceEqDiff, not_false_eq_true, Nat.reduceLT, f0, f1, f2, f3, f4, f5, f6, hbe]) <;> rfl)) ?_
      refine TrP.want (by rfl) (by rfl) (by (try simp only [rdF, rd_none, rd_same, rd_ne, ne_eq, Nat.reduceEqDiff, not_false_eq_true, Nat.reduceLT, f0, f1, f2, f3, f4, f5, f6, hbe]) <;> rfl) (o_move (by (try simp only [rdF, rd_none, rd_same, rd_ne, ne_eq, Nat.reduceEqDiff, not_false_eq_true, Nat.reduceLT, f0, f1, f2, f3, f4, f5, f6, hbe]) <;> rfl)) ?_
      refine TrP.want (by rfl) (by rfl) (by (try simp only [rdF, rd_none, rd_same, rd_ne, ne_eq, Nat.reduceEqDiff, not_false_eq_true, Nat.reduceLT, f0, f1, f2, f3, f4, f5, f6, hbe]) <;> rfl) (o_indexAddr (by (try simp only [rdF, rd_none, rd_same, rd_ne, ne_eq, Nat.reduceEqDiff, not_false_eq_true, Nat.reduceLT, f0, f1, f2, f3, f4, f5, f6, hbe]) <;> rfl) (by (try simp only [rdF, rd_none, rd_same, rd_ne, ne_eq, Nat.reduceEqDiff, not_false_eq_true, Nat.reduceLT, f0, f1, f2, f3, f4, f5, f6, hbe]) <;> rfl) (v := .pointer (some ⟨b6, 0, none⟩)) (by rw [ixi_23 (by omega) (by simp)]; rfl)) ?_
      refine TrP.want (by rfl) (by rfl) (by (try simp only [rdF, rd_none, rd_same, rd_ne, ne_eq, Nat.reduceEqDiff, not_false_eq_true, Nat.reduceLT, f0, f1, f2, f3, f4, f5, f6, hbe]) <;> rfl) (o_load (by (try simp only [rdF, rd_none, rd_same, rd_ne, ne_eq, Nat.reduceEqDiff, not_false_eq_true, Nat.reduceLT, f0, f1, f2, f3, f4, f5, f6, hbe]) <;> rfl) (by (try simp (disch := omega) only [St.get_room, St.get_at_eq, St.get_at_ne, St.get_put_eq, St.get_put_ne, St.get_add_eq, St.get_add_ne, St.get_del_ne, St.next_at, St.next_put', St.next_room, St.next_add', St.next_del', hx3, hx6, hb6g]) <;> rfl) (by rw [p_30, if_pos (by rw [hlen14]; omega), List.drop_zero, List.take_of_length_le (by rw [hlen14]; omega)])) ?_
      refine TrP.want (by rfl) (by rfl) (by (try simp only [rdF, rd_none, rd_same, rd_ne, ne_eq, Nat.reduceEqDiff, not_false_eq_true, Nat.reduceLT, f0, f1, f2, f3, f4, f5, f6, hbe]) <;> rfl) (o_load (by (try simp only [rdF, rd_none, rd_same, rd_ne, ne_eq, Nat.reduceEqDiff, not_false_eq_true, Nat.reduceLT, f0, f1, f2, f3, f4, f5, f6, hbe]) <;> rfl) (by (try simp (disch := omega) only [St.get_room, St.get_at_eq, St.get_at_ne, St.get_put_eq, St.get_put_ne, St.get_add_eq, St.get_add_ne, St.get_del_ne, St.next_at, St.next_put', St.next_room, St.next_add', St.next_del', hx3, hx6, hb6g]) <;> rfl) (by rw [p_30, if_pos (by rw [hlen14]; omega), List.drop_zero, List.take_of_length_le (by rw [hlen14]; omega)])) ?_
      refine TrP.want (by rfl) (by rfl) (by (try simp only [rdF, rd_none, rd_same, rd_ne, ne_eq, Nat.reduceEqDiff, not_false_eq_true, Nat.reduceLT, f0, f1, f2, f3, f4, f5, f6, hbe]) <;> rfl) (o_bin (by (try simp only [rdF, rd_none, rd_same, rd_ne, ne_eq, Nat.reduceEqDiff, not_false_eq_true, Nat.reduceLT, f0, f1, f2, f3, f4, f5, f6, hbe]) <;> rfl) (by (try simp only [rdF, rd_none, rd_same, rd_ne, ne_eq, Nat.reduceEqDiff, not_false_eq_true, Nat.reduceLT, f0, f1, f2, f3, f4, f5, f6, hbe]) <;> rfl) (eq30 hsok _ _).1) ?_
      refine TrP.cons (o_pickT (by (try simp only [rdF, rd_none, rd_same, rd_ne, ne_eq, Nat.reduceEqDiff, not_false_eq_true, Nat.reduceLT, f0, f1, f2, f3, f4, f5, f6, hbe]) <;> rfl) (by (try simp only [rdF, rd_none, rd_same, rd_ne, ne_eq, Nat.reduceEqDiff, not_false_eq_true, Nat.reduceLT, f0, f1, f2, f3, f4, f5, f6, hbe]) <;> rfl)) ?_
      refine TrP.cons (o_assign (by (try simp only [rdF, rd_none, rd_same, rd_ne, ne_eq, Nat.reduceEqDiff, not_false_eq_true, Nat.reduceLT, f0, f1, f2, f3, f4, f5, f6, hbe]) <;> rfl)) ?_
      refine TrP.nil ⟨ChecksG.of (l1 := []) (l2 := []) (by kernel_rfl) (by kernel_rfl) ?_ ?_, ?_⟩
      · all_goals (simp only [List.forall_mem_cons, List.not_mem_nil, false_implies, implies_true, and_true]; try trivial)
      · simp only [List.forall_mem_cons, List.not_mem_nil, false_implies, implies_true, and_true]; try trivial
      repeat (refine GoP.seq ?_)
      refine GoP.ret ?_
      refine ⟨.inl rfl, [.bool true], ?_, ?_⟩
      · exact (by (try simp only [resAllF, resOneF, rdF, rd_none, rd_same, rd_ne, ne_eq, Nat.reduceEqDiff, not_false_eq_true, Nat.reduceLT, f0, f1, f2, f3, f4, f5, f6, hbe]) <;> rfl)
      · rfl
    ·
      repeat (refine GoP.seq ?_)
      refine GoP.region ?_ ?_
      · rfl
      refine OpsG.cons (o_bin (by (try simp only [rdF, rd_none, rd_same, rd_ne, ne_eq, Nat.reduceEqDiff, not_false_eq_true, Nat.reduceLT, f0, f1, f2, f3, f4, f5, f6]) <;> rfl) (by (try simp only [rdF, rd_none, rd_same, rd_ne, ne_eq, Nat.reduceEqDiff, not_false_eq_true, Nat.reduceLT, f0, f1, f2, f3, f4, f5, f6]) <;> rfl) binA_eql) ?_
      refine OpsG.cons (o_assign (by (try simp only [rdF, rd_none, rd_same, rd_ne, ne_eq, Nat.reduceEqDiff, not_false_eq_true, Nat.reduceLT, f0, f1, f2, f3, f4, f5, f6]) <;> rfl)) ?_
      refine OpsG.nil ?_
      repeat (refine GoP.seq ?_)
      refine GoP.cond (by rfl) (by (try simp only [rdF, rd_none, rd_same, rd_ne, ne_eq, Nat.reduceEqDiff, not_false_eq_true, Nat.reduceLT, f0, f1, f2, f3, f4, f5, f6]) <;> rfl) (fun hc3 => ?_) (fun hc3 => ?_)
      ·
        have hK : 1 + kind % 5 = 3 := by simpa using hc3
        repeat (refine GoP.seq ?_)
        refine GoP.region ?_ ?_
        · rfl
        refine OpsG.cons (o_move (by (try simp only [rdF, rd_none, rd_same, rd_ne, ne_eq, Nat.reduceEqDiff, not_false_eq_true, Nat.reduceLT, f0, f1, f2, f3, f4, f5, f6]) <;> rfl)) ?_
        refine OpsG.cons (o_convert rfl (by (try simp only [rdF, rd_none, rd_same, rd_ne, ne_eq, Nat.reduceEqDiff, not_false_eq_true, Nat.reduceLT, f0, f1, f2, f3, f4, f5, f6]) <;> rfl) ((cv_33_3 _).trans (congrArg (fun z => some (Value.int .i64 z)) (wrap64 (by omega) (by omega))))) ?_
        refine OpsG.cons (o_move (by (try simp only [rdF, rd_none, rd_same, rd_ne, ne_eq, Nat.reduceEqDiff, not_false_eq_true, Nat.reduceLT, f0, f1, f2, f3, f4, f5, f6]) <;> rfl)) ?_
        refine OpsG.cons (o_convert rfl (by (try simp only [rdF, rd_none, rd_same, rd_ne, ne_eq, Nat.reduceEqDiff, not_false_eq_true, Nat.reduceLT, f0, f1, f2, f3, f4, f5, f6]) <;> rfl) ((cv_5_3 _).trans (congrArg (fun z => some (Value.int .i64 z)) (wrap64 (by omega) (by omega))))) ?_
        refine OpsG.cons (o_move (by (try simp only [rdF, rd_none, rd_same, rd_ne, ne_eq, Nat.reduceEqDiff, not_false_eq_true, Nat.reduceLT, f0, f1, f2, f3, f4, f5, f6]) <;> rfl)) ?_
        refine OpsG.cons (o_field (by (try simp only [rdF, rd_none, rd_same, rd_ne, ne_eq, Nat.reduceEqDiff, not_false_eq_true, Nat.reduceLT, f0, f1, f2, f3, f4, f5, f6]) <;> rfl) (fa_30_3 _ _)) ?_
        refine OpsG.cons (o_store (by (try simp only [rdF, rd_none, rd_same, rd_ne, ne_eq, Nat.reduceEqDiff, not_false_eq_true, Nat.reduceLT, f0, f1, f2, f3, f4, f5, f6]) <;> rfl) (by (try simp only [rdF, rd_none, rd_same, rd_ne, ne_eq, Nat.reduceEqDiff, not_false_eq_true, Nat.reduceLT, f0, f1, f2, f3, f4, f5, f6]) <;> rfl) (by (try simp (disch := omega) only [St.get_room, St.get_at_eq, St.get_at_ne, St.get_put_eq, St.get_put_ne, St.get_add_eq, St.get_add_ne, St.get_del_ne, St.next_at, St.next_put', St.next_room, St.next_add', St.next_del']) <;> rfl) (by simp) s_3 (cl1 rfl) rfl rfl (by simp) (by simp only [splice, List.length_cons, List.length_nil, List.drop_succ_cons, List.drop_zero, List.take_succ_cons, List.take_zero, Nat.reduceAdd, Nat.reduceLeDiff, Nat.zero_add, List.append_nil, List.nil_append, List.cons_append]; rfl)) ?_
        refine OpsG.cons (o_field (by (try simp only [rdF, rd_none, rd_same, rd_ne, ne_eq, Nat.reduceEqDiff, not_false_eq_true, Nat.reduceLT, f0, f1, f2, f3, f4, f5, f6]) <;> rfl) (fa_30_4 _ _)) ?_
        refine OpsG.cons (o_store (by (try simp only [rdF, rd_none, rd_same, rd_ne, ne_eq, Nat.reduceEqDiff, not_false_eq_true, Nat.reduceLT, f0, f1, f2, f3, f4, f5, f6]) <;> rfl) (by (try simp only [rdF, rd_none, rd_same, rd_ne, ne_eq, Nat.reduceEqDiff, not_false_eq_true, Nat.reduceLT, f0, f1, f2, f3, f4, f5, f6]) <;> rfl) (by (try simp (disch := omega) only [St.get_room, St.get_at_eq, St.get_at_ne, St.get_put_eq, St.get_put_ne, St.get_add_eq, St.get_add_ne, St.get_del_ne, St.next_at, St.next_put', St.next_room, St.next_add', St.next_del']) <;> rfl) (by simp) s_3 (cl1 rfl) rfl rfl (by simp) (by simp only [splice, List.length_cons, List.length_nil, List.drop_succ_cons, List.drop_zero, List.take_succ_cons, List.take_zero, Nat.reduceAdd, Nat.reduceLeDiff, Nat.zero_add, List.append_nil, List.nil_append, List.cons_append]; rfl)) ?_
        refine OpsG.cons (o_field (by (try simp only [rdF, rd_none, rd_same, rd_ne, ne_eq, Nat.reduceEqDiff, not_false_eq_true, Nat.reduceLT, f0, f1, f2, f3, f4, f5, f6]) <;> rfl) (fa_30_5 _ _)) ?_
        refine OpsG.cons (o_store (by (try simp only [rdF, rd_none, rd_same, rd_ne, ne_eq, Nat.reduceEqDiff, not_false_eq_true, Nat.reduceLT, f0, f1, f2, f3, f4, f5, f6]) <;> rfl) (by (try simp only [rdF, rd_none, rd_same, rd_ne, ne_eq, Nat.reduceEqDiff, not_false_eq_true, Nat.reduceLT, f0, f1, f2, f3, f4, f5, f6]) <;> rfl) (by (try simp (disch := omega) only [St.get_room, St.get_at_eq, St.get_at_ne, St.get_put_eq, St.get_put_ne, St.get_add_eq, St.get_add_ne, St.get_del_ne, St.next_at, St.next_put', St.next_room, St.next_add', St.next_del']) <;> rfl) (by simp) s_26 (cl1 rfl) rfl rfl (by simp) (by simp only [splice, List.length_cons, List.length_nil, List.drop_succ_cons, List.drop_zero, List.take_succ_cons, List.take_zero, Nat.reduceAdd, Nat.reduceLeDiff, Nat.zero_add, List.append_nil, List.nil_append, List.cons_append]; rfl)) ?_
        refine OpsG.cons (o_assign (by (try simp only [rdF, rd_none, rd_same, rd_ne, ne_eq, Nat.reduceEqDiff, not_false_eq_true, Nat.reduceLT, f0, f1, f2, f3, f4, f5, f6]) <;> rfl)) ?_
        refine OpsG.nil ?_
        repeat (refine GoP.seq ?_)
        refine GoP.name ?_
        rintro σ3 hσ3
        have hx3 : σ3.get (σ1.next + 1) = some (.cells [.int .i64 3, .int .i64 cpu, .int .u64 0, .int .u64 0, .int .u64 0, .int .u64 0, .int .u64 0, .int .u64 0, .int .u64 0, .int .u64 0, .int .i64 page, .int .i64 word, .int .u64 v, .int .i64 0] 30 .ex) := by
          rw [hσ3]
          simp (disch := omega) only [St.get_room, St.get_at_eq, St.get_at_ne, St.get_put_eq, St.get_put_ne, St.get_add_eq, St.get_add_ne, St.get_del_ne, St.next_at, St.next_put', St.next_room, St.next_add', St.next_del', hK]
        have hn3 : σ3.next = σ1.next + 2 := by
          rw [hσ3]
          rfl
        have hsok : (.store cpu page word v : Stp).ok := by simp only [Stp.ok, u64r, List.length_cons, List.length_nil, List.mem_cons, List.not_mem_nil, or_false, forall_eq_or_imp, forall_eq, true_and]; omega
        have hlen14 := cells_length hsok
        refine GoP.region ?_ ?_
        · rfl
        refine OpsG.cons (o_load (by (try simp only [rdF, rd_none, rd_same, rd_ne, ne_eq, Nat.reduceEqDiff, not_false_eq_true, Nat.reduceLT, f0, f1, f2, f3, f4, f5, f6]) <;> rfl) (by (try simp (disch := omega) only [St.get_room, St.get_at_eq, St.get_at_ne, St.get_put_eq, St.get_put_ne, St.get_add_eq, St.get_add_ne, St.get_del_ne, St.next_at, St.next_put', St.next_room, St.next_add', St.next_del', hx3]) <;> rfl) (by rw [p_30]; simp only [List.length_cons, List.length_nil, List.drop_succ_cons, List.drop_zero, List.take_succ_cons, List.take_zero, Nat.reduceAdd, Nat.reduceLeDiff, Nat.zero_add, if_true]; rfl)) ?_
        refine OpsG.cons (o_makesOf (fun _ => _) rfl (by intro x hx; have e : x = .tmp 57 := (by simpa [Op.operands] using hx); rw [e]; exact (by (try simp only [rdF, rd_none, rd_same, rd_ne, ne_eq, Nat.reduceEqDiff, not_false_eq_true, Nat.reduceLT, f0, f1, f2, f3, f4, f5, f6]) <;> rfl)) (bs23 ..)) ?_
        refine OpsG.name ?_
        rintro σ4 hσ4
        have hx4 : σ4.get (σ1.next + 1) = some (.cells (.store cpu page word v : Stp).cells 30 .ex) := by rw [hσ4, St.get_at_ne (by omega)]; exact hx3
        have hn4 : σ4.next = σ1.next + 3 := by rw [hσ4, St.next_at, hn3]
        have hst : StA (· < σ4.next) σ4 (.slice (some ⟨σ3.next, 0, none⟩) 1 1) [.store cpu page word v] := ⟨_, 1, rfl, fun _ => ⟨σ3.next, 0, _, 30, .ex, rfl, by omega, by rw [hσ4, St.get_at_eq rfl], fun i hi => by obtain rfl : i = 0 := (by simpa using hi); rfl⟩⟩
        refine OpsG.call (by (try simp only [List.map_cons, List.map_nil, rdF, rd_none, rd_same, rd_ne, ne_eq, Nat.reduceEqDiff, not_false_eq_true, Nat.reduceLT, f0, f1, f2, f3, f4, f5, f6]) <;> rfl) (enc_con hst (fun s hs => by rw [List.mem_singleton.1 hs]; exact hsok) (by simp)) ?_
        rintro rvb σ5 ⟨b5, hb5, hbut5, hb5n⟩
        have hde : decS (encS [.store cpu page word v]) = [.store cpu page word v] := by have := dec_enc [.store cpu page word v] (fun s hs => by rw [List.mem_singleton.1 hs]; exact hsok) []; rw [decS_nil, List.append_nil, List.append_nil] at this; exact this
        have hbl : (encS [.store cpu page word v]).length = 13 := by rfl
        have hby := byt_enc (l := [.store cpu page word v]) (fun s hs => by rw [List.mem_singleton.1 hs]; exact hsok)
        refine OpsG.cons (o_assign (by (try simp only [rdF, rd_none, rd_same, rd_ne, ne_eq, Nat.reduceEqDiff, not_false_eq_true, Nat.reduceLT, f0, f1, f2, f3, f4, f5, f6]) <;> rfl)) ?_
        refine OpsG.nil ?_
        repeat (refine GoP.seq ?_)
        refine GoP.region ?_ ?_
        · rfl
        refine OpsG.cons (o_move (by (try simp only [rdF, rd_none, rd_same, rd_ne, ne_eq, Nat.reduceEqDiff, not_false_eq_true, Nat.reduceLT, f0, f1, f2, f3, f4, f5, f6]) <;> rfl)) ?_
        refine OpsG.call (by (try simp only [List.map_cons, List.map_nil, rdF, rd_none, rd_same, rd_ne, ne_eq, Nat.reduceEqDiff, not_false_eq_true, Nat.reduceLT, f0, f1, f2, f3, f4, f5, f6]) <;> rfl) (decode_con (hb5.bts (fun h => (hb5n h).2)) hby (by omega)) ?_
        rintro rvd σ6 ⟨b6, hrow, hbut6, hb6n⟩
        rw [hde] at hrow
        have hn5 := hbut5.next
        have hx6 : σ6.get (σ1.next + 1) = some (.cells (.store cpu page word v : Stp).cells 30 .ex) := by rw [hbut6.get _ (by omega) id, hbut5.get _ (by omega) id]; exact hx4
        obtain ⟨hrA, hrB⟩ := hrow
        rcases hrB with ⟨hrB, -⟩ | ⟨-, rfl, hb6g⟩
        · simp at hrB
        simp only [List.map_cons, List.map_nil, List.flatten_cons, List.flatten_nil, List.append_nil, List.length_cons, List.length_nil, Nat.zero_add] at hb6g
        rcases hb5 with ⟨h5, -⟩ | ⟨-, c5, kd5, rfl, -, -⟩
        · rw [h5] at hbl; simp at hbl
        have hbe : (((encS [.store cpu page word v]).length : Int) == 13) = true := by rw [hbl]; rfl
        refine OpsG.cons (o_assign (by (try simp only [rdF, rd_none, rd_same, rd_ne, ne_eq, Nat.reduceEqDiff, not_false_eq_true, Nat.reduceLT, f0, f1, f2, f3, f4, f5, f6, hbe]) <;> rfl)) ?_
        refine OpsG.nil ?_
        repeat (refine GoP.seq ?_)
        refine GoP.drawn (noK_ok _) mixed ?_ ?_ ?_
        · rfl
        · kernel_rfl
        refine TrP.cons (o_move (by (try simp only [rdF, rd_none, rd_same, rd_ne, ne_eq, Nat.reduceEqDiff, not_false_eq_true, Nat.reduceLT, f0, f1, f2, f3, f4, f5, f6, hbe]) <;> rfl)) ?_
        refine TrP.cons (o_builtin rfl (by (try simp only [List.map_cons, List.map_nil, rdF, rd_none, rd_same, rd_ne, ne_eq, Nat.reduceEqDiff, not_false_eq_true, Nat.reduceLT, f0, f1, f2, f3, f4, f5, f6, hbe]) <;> rfl) (len_25 ..)) ?_
        refine TrP.cons (o_move (by (try simp only [rdF, rd_none, rd_same, rd_ne, ne_eq, Nat.reduceEqDiff, not_false_eq_true, Nat.reduceLT, f0, f1, f2, f3, f4, f5, f6, hbe]) <;> rfl)) ?_
        refine TrP.cons (o_bin (by (try simp only [rdF, rd_none, rd_same, rd_ne, ne_eq, Nat.reduceEqDiff, not_false_eq_true, Nat.reduceLT, f0, f1, f2, f3, f4, f5, f6, hbe]) <;> rfl) (by (try simp only [rdF, rd_none, rd_same, rd_ne, ne_eq, Nat.reduceEqDiff, not_false_eq_true, Nat.reduceLT, f0, f1, f2, f3, f4, f5, f6, hbe]) <;> rfl) binA_eql) ?_
        refine TrP.cons (o_move (by (try simp only [rdF, rd_none, rd_same, rd_ne, ne_eq, Nat.reduceEqDiff, not_false_eq_true, Nat.reduceLT, f0, f1, f2, f3, f4, f5, f6, hbe]) <;> rfl)) ?_
        refine TrP.want (by rfl) (by rfl) (by (try simp only [rdF, rd_none, rd_same, rd_ne, ne_eq, Nat.reduceEqDiff, not_false_eq_true, Nat.reduceLT, f0, f1, f2, f3, f4, f5, f6, hbe]) <;> rfl) (o_move (by (try simp only [rdF, rd_none, rd_same, rd_ne, ne_eq, Nat.reduceEqDiff, not_false_eq_true, Nat.reduceLT, f0, f1, f2, f3, f4, f5, f6, hbe]) <;> rfl)) ?_
        refine TrP.want (by rfl) (by rfl) (by (try simp only [rdF, rd_none, rd_same, rd_ne, ne_eq, Nat.reduceEqDiff, not_false_eq_true, Nat.reduceLT, f0, f1, f2, f3, f4, f5, f6, hbe]) <;> rfl) (o_builtin rfl (by (try simp only [List.map_cons, List.map_nil, rdF, rd_none, rd_same, rd_ne, ne_eq, Nat.reduceEqDiff, not_false_eq_true, Nat.reduceLT, f0, f1, f2, f3, f4, f5, f6, hbe]) <;> rfl) (len_23 ..)) ?_
        refine TrP.want (by rfl) (by rfl) (by (try simp only [rdF, rd_none, rd_same, rd_ne, ne_eq, Nat.reduceEqDiff, not_false_eq_true, Nat.reduceLT, f0, f1, f2, f3, f4, f5, f6, hbe]) <;> rfl) (o_bin (by (try simp only [rdF, rd_none, rd_same, rd_ne, ne_eq, Nat.reduceEqDiff, not_false_eq_true, Nat.reduceLT, f0, f1, f2, f3, f4, f5, f6, hbe]) <;> rfl) (by (try simp only [rdF, rd_none, rd_same, rd_ne, ne_eq, Nat.reduceEqDiff, not_false_eq_true, Nat.reduceLT, f0, f1, f2, f3, f4, f5, f6, hbe]) <;> rfl) binA_eql) ?_
        refine TrP.cons (o_pickT (by (try simp only [rdF, rd_none, rd_same, rd_ne, ne_eq, Nat.reduceEqDiff, not_false_eq_true, Nat.reduceLT, f0, f1, f2, f3, f4, f5, f6, hbe]) <;> rfl) (by (try simp only [rdF, rd_none, rd_same, rd_ne, ne_eq, Nat.reduceEqDiff, not_false_eq_true, Nat.reduceLT, f0, f1, f2, f3, f4, f5, f6, hbe]) <;> rfl)) ?_
        refine TrP.cons (o_move (by (try simp only [rdF, rd_none, rd_same, rd_ne, ne_eq, Nat.reduceEqDiff, not_false_eq_true, Nat.reduceLT, f0, f1, f2, f3, f4, f5, f6, hbe]) <;> rfl)) ?_
        refine TrP.want (by rfl) (by rfl) (by (try simp only [rdF, rd_none, rd_same, rd_ne, ne_eq, Nat.reduceEqDiff, not_false_eq_true, Nat.reduceLT, f0, f1, f2, f3, f4, f5, f6, hbe]) <;> rfl) (o_move (by (try simp only [rdF, rd_none, rd_same, rd_ne, ne_eq, Nat.reduceEqDiff, not_false_eq_true, Nat.reduceLT, f0, f1, f2, f3, f4, f5, f6, hbe]) <;> rfl)) ?_
        refine TrP.want (by rfl) (by rfl) (by (try simp only [rdF, rd_none, rd_same, rd_ne, ne_eq, Nat.reduceEqDiff, not_false_eq_true, Nat.reduceLT, f0, f1, f2, f3, f4, f5, f6, hbe]) <;> rfl) (o_indexAddr (by (try simp only [rdF, rd_none, rd_same, rd_ne, ne_eq, Nat.reduceEqDiff, not_false_eq_true, Nat.reduceLT, f0, f1, f2, f3, f4, f5, f6, hbe]) <;> rfl) (by (try simp only [rdF, rd_none, rd_same, rd_ne, ne_eq, Nat.reduceEqDiff, not_false_eq_true, Nat.reduceLT, f0, f1, f2, f3, f4, f5, f6, hbe]) <;> rfl) (v := .pointer (some ⟨b6, 0, none⟩)) (by rw [ixi_23 (by omega) (by simp)]; rfl)) ?_
        refine TrP.want (by rfl) (by rfl) (by (try simp only [rdF, rd_none, rd_same, rd_ne, ne_eq, Nat.reduceEqDiff, not_false_eq_true, Nat.reduceLT, f0, f1, f2, f3, f4, f5, f6, hbe]) <;> rfl) (o_load (by (try simp only [rdF, rd_none, rd_same, rd_ne, ne_eq, Nat.reduceEqDiff, not_false_eq_true, Nat.reduceLT, f0, f1, f2, f3, f4, f5, f6, hbe]) <;> rfl) (by (try simp (disch := omega) only [St.get_room, St.get_at_eq, St.get_at_ne, St.get_put_eq, St.get_put_ne, St.get_add_eq, St.get_add_ne, St.get_del_ne, St.next_at, St.next_put', St.next_room, St.next_add', St.next_del', hx3, hx6, hb6g]) <;> rfl) (by rw [p_30, if_pos (by rw [hlen14]; omega), List.drop_zero, List.take_of_length_le (by rw [hlen14]; omega)])) ?_
        refine TrP.want (by rfl) (by rfl) (by (try simp only [rdF, rd_none, rd_same, rd_ne, ne_eq, Nat.reduceEqDiff, not_false_eq_true, Nat.reduceLT, f0, f1, f2, f3, f4, f5, f6, hbe]) <;> rfl) (o_load (by (try simp only [rdF, rd_none, rd_same, rd_ne, ne_eq, Nat.reduceEqDiff, not_false_eq_true, Nat.reduceLT, f0, f1, f2, f3, f4, f5, f6, hbe]) <;> rfl) (by (try simp (disch := omega) only [St.get_room, St.get_at_eq, St.get_at_ne, St.get_put_eq, St.get_put_ne, St.get_add_eq, St.get_add_ne, St.get_del_ne, St.next_at, St.next_put', St.next_room, St.next_add', St.next_del', hx3, hx6, hb6g]) <;> rfl) (by rw [p_30, if_pos (by rw [hlen14]; omega), List.drop_zero, List.take_of_length_le (by rw [hlen14]; omega)])) ?_
        refine TrP.want (by rfl) (by rfl) (by (try simp only [rdF, rd_none, rd_same, rd_ne, ne_eq, Nat.reduceEqDiff, not_false_eq_true, Nat.reduceLT, f0, f1, f2, f3, f4, f5, f6, hbe]) <;> rfl) (o_bin (by (try simp only [rdF, rd_none, rd_same, rd_ne, ne_eq, Nat.reduceEqDiff, not_false_eq_true, Nat.reduceLT, f0, f1, f2, f3, f4, f5, f6, hbe]) <;> rfl) (by (try simp only [rdF, rd_none, rd_same, rd_ne, ne_eq, Nat.reduceEqDiff, not_false_eq_true, Nat.reduceLT, f0, f1, f2, f3, f4, f5, f6, hbe]) <;> rfl) (eq30 hsok _ _).1) ?_
        refine TrP.cons (o_pickT (by (try simp only [rdF, rd_none, rd_same, rd_ne, ne_eq, Nat.reduceEqDiff, not_false_eq_true, Nat.reduceLT, f0, f1, f2, f3, f4, f5, f6, hbe]) <;> rfl) (by (try simp only [rdF, rd_none, rd_same, rd_ne, ne_eq, Nat.reduceEqDiff, not_false_eq_true, Nat.reduceLT, f0, f1, f2, f3, f4, f5, f6, hbe]) <;> rfl)) ?_
        refine TrP.cons (o_assign (by (try simp only [rdF, rd_none, rd_same, rd_ne, ne_eq, Nat.reduceEqDiff, not_false_eq_true, Nat.reduceLT, f0, f1, f2, f3, f4, f5, f6, hbe]) <;> rfl)) ?_
        refine TrP.nil ⟨ChecksG.of (l1 := []) (l2 := []) (by kernel_rfl) (by kernel_rfl) ?_ ?_, ?_⟩
        · all_goals (simp only [List.forall_mem_cons, List.not_mem_nil, false_implies, implies_true, and_true]; try trivial)
        · simp only [List.forall_mem_cons, List.not_mem_nil, false_implies, implies_true, and_true]; try trivial
        repeat (refine GoP.seq ?_)
        refine GoP.ret ?_
        refine ⟨.inl rfl, [.bool true], ?_, ?_⟩
        · exact (by (try simp only [resAllF, resOneF, rdF, rd_none, rd_same, rd_ne, ne_eq, Nat.reduceEqDiff, not_false_eq_true, Nat.reduceLT, f0, f1, f2, f3, f4, f5, f6, hbe]) <;> rfl)
        · rfl
      ·
        repeat (refine GoP.seq ?_)
        refine GoP.region ?_ ?_
        · rfl
        refine OpsG.cons (o_bin (by (try simp only [rdF, rd_none, rd_same, rd_ne, ne_eq, Nat.reduceEqDiff, not_false_eq_true, Nat.reduceLT, f0, f1, f2, f3, f4, f5, f6]) <;> rfl) (by (try simp only [rdF, rd_none, rd_same, rd_ne, ne_eq, Nat.reduceEqDiff, not_false_eq_true, Nat.reduceLT, f0, f1, f2, f3, f4, f5, f6]) <;> rfl) binA_eql) ?_
        refine OpsG.cons (o_assign (by (try simp only [rdF, rd_none, rd_same, rd_ne, ne_eq, Nat.reduceEqDiff, not_false_eq_true, Nat.reduceLT, f0, f1, f2, f3, f4, f5, f6]) <;> rfl)) ?_
        refine OpsG.nil ?_
        repeat (refine GoP.seq ?_)
        refine GoP.cond (by rfl) (by (try simp only [rdF, rd_none, rd_same, rd_ne, ne_eq, Nat.reduceEqDiff, not_false_eq_true, Nat.reduceLT, f0, f1, f2, f3, f4, f5, f6]) <;> rfl) (fun hc5 => ?_) (fun hc5 => ?_)
        ·
          have hK : 1 + kind % 5 = 5 := by simpa using hc5
          repeat (refine GoP.seq ?_)
          refine GoP.region ?_ ?_
          · rfl
          refine OpsG.cons (o_move (by (try simp only [rdF, rd_none, rd_same, rd_ne, ne_eq, Nat.reduceEqDiff, not_false_eq_true, Nat.reduceLT, f0, f1, f2, f3, f4, f5, f6]) <;> rfl)) ?_
          refine OpsG.cons (o_convert rfl (by (try simp only [rdF, rd_none, rd_same, rd_ne, ne_eq, Nat.reduceEqDiff, not_false_eq_true, Nat.reduceLT, f0, f1, f2, f3, f4, f5, f6]) <;> rfl) ((cv_5_3 _).trans (congrArg (fun z => some (Value.int .i64 z)) (wrap64 (by omega) (by omega))))) ?_
          refine OpsG.cons (o_field (by (try simp only [rdF, rd_none, rd_same, rd_ne, ne_eq, Nat.reduceEqDiff, not_false_eq_true, Nat.reduceLT, f0, f1, f2, f3, f4, f5, f6]) <;> rfl) (fa_30_6 _ _)) ?_
          refine OpsG.cons (o_store (by (try simp only [rdF, rd_none, rd_same, rd_ne, ne_eq, Nat.reduceEqDiff, not_false_eq_true, Nat.reduceLT, f0, f1, f2, f3, f4, f5, f6]) <;> rfl) (by (try simp only [rdF, rd_none, rd_same, rd_ne, ne_eq, Nat.reduceEqDiff, not_false_eq_true, Nat.reduceLT, f0, f1, f2, f3, f4, f5, f6]) <;> rfl) (by (try simp (disch := omega) only [St.get_room, St.get_at_eq, St.get_at_ne, St.get_put_eq, St.get_put_ne, St.get_add_eq, St.get_add_ne, St.get_del_ne, St.next_at, St.next_put', St.next_room, St.next_add', St.next_del']) <;> rfl) (by simp) s_3 (cl1 rfl) rfl rfl (by simp) (by simp only [splice, List.length_cons, List.length_nil, List.drop_succ_cons, List.drop_zero, List.take_succ_cons, List.take_zero, Nat.reduceAdd, Nat.reduceLeDiff, Nat.zero_add, List.append_nil, List.nil_append, List.cons_append]; rfl)) ?_
          refine OpsG.cons (o_assign (by (try simp only [rdF, rd_none, rd_same, rd_ne, ne_eq, Nat.reduceEqDiff, not_false_eq_true, Nat.reduceLT, f0, f1, f2, f3, f4, f5, f6]) <;> rfl)) ?_
          refine OpsG.nil ?_
          repeat (refine GoP.seq ?_)
          refine GoP.name ?_
          rintro σ3 hσ3
          have hx3 : σ3.get (σ1.next + 1) = some (.cells [.int .i64 5, .int .i64 cpu, .int .u64 0, .int .u64 0, .int .u64 0, .int .u64 0, .int .u64 0, .int .u64 0, .int .u64 0, .int .u64 0, .int .i64 0, .int .i64 0, .int .u64 0, .int .i64 n] 30 .ex) := by
            rw [hσ3]
            simp (disch := omega) only [St.get_room, St.get_at_eq, St.get_at_ne, St.get_put_eq, St.get_put_ne, St.get_add_eq, St.get_add_ne, St.get_del_ne, St.next_at, St.next_put', St.next_room, St.next_add', St.next_del', hK]
          have hn3 : σ3.next = σ1.next + 2 := by
            rw [hσ3]
            rfl
          have hsok : (.line cpu n : Stp).ok := by simp only [Stp.ok, u64r, List.length_cons, List.length_nil, List.mem_cons, List.not_mem_nil, or_false, forall_eq_or_imp, forall_eq, true_and]; omega
          have hlen14 := cells_length hsok
          refine GoP.region ?_ ?_
          · rfl
          refine OpsG.cons (o_load (by (try simp only [rdF, rd_none, rd_same, rd_ne, ne_eq, Nat.reduceEqDiff, not_false_eq_true, Nat.reduceLT, f0, f1, f2, f3, f4, f5, f6]) <;> rfl) (by (try simp (disch := omega) only [St.get_room, St.get_at_eq, St.get_at_ne, St.get_put_eq, St.get_put_ne, St.get_add_eq, St.get_add_ne, St.get_del_ne, St.next_at, St.next_put', St.next_room, St.next_add', St.next_del', hx3]) <;> rfl) (by rw [p_30]; simp only [List.length_cons, List.length_nil, List.drop_succ_cons, List.drop_zero, List.take_succ_cons, List.take_zero, Nat.reduceAdd, Nat.reduceLeDiff, Nat.zero_add, if_true]; rfl)) ?_
          refine OpsG.cons (o_makesOf (fun _ => _) rfl (by intro x hx; have e : x = .tmp 57 := (by simpa [Op.operands] using hx); rw [e]; exact (by (try simp only [rdF, rd_none, rd_same, rd_ne, ne_eq, Nat.reduceEqDiff, not_false_eq_true, Nat.reduceLT, f0, f1, f2, f3, f4, f5, f6]) <;> rfl)) (bs23 ..)) ?_
          refine OpsG.name ?_
          rintro σ4 hσ4
          have hx4 : σ4.get (σ1.next + 1) = some (.cells (.line cpu n : Stp).cells 30 .ex) := by rw [hσ4, St.get_at_ne (by omega)]; exact hx3
          have hn4 : σ4.next = σ1.next + 3 := by rw [hσ4, St.next_at, hn3]
          have hst : StA (· < σ4.next) σ4 (.slice (some ⟨σ3.next, 0, none⟩) 1 1) [.line cpu n] := ⟨_, 1, rfl, fun _ => ⟨σ3.next, 0, _, 30, .ex, rfl, by omega, by rw [hσ4, St.get_at_eq rfl], fun i hi => by obtain rfl : i = 0 := (by simpa using hi); rfl⟩⟩
          refine OpsG.call (by (try simp only [List.map_cons, List.map_nil, rdF, rd_none, rd_same, rd_ne, ne_eq, Nat.reduceEqDiff, not_false_eq_true, Nat.reduceLT, f0, f1, f2, f3, f4, f5, f6]) <;> rfl) (enc_con hst (fun s hs => by rw [List.mem_singleton.1 hs]; exact hsok) (by simp)) ?_
          rintro rvb σ5 ⟨b5, hb5, hbut5, hb5n⟩
          have hde : decS (encS [.line cpu n]) = [.line cpu n] := by have := dec_enc [.line cpu n] (fun s hs => by rw [List.mem_singleton.1 hs]; exact hsok) []; rw [decS_nil, List.append_nil, List.append_nil] at this; exact this
          have hbl : (encS [.line cpu n]).length = 3 := by rfl
          have hby := byt_enc (l := [.line cpu n]) (fun s hs => by rw [List.mem_singleton.1 hs]; exact hsok)
          refine OpsG.cons (o_assign (by (try simp only [rdF, rd_none, rd_same, rd_ne, ne_eq, Nat.reduceEqDiff, not_false_eq_true, Nat.reduceLT, f0, f1, f2, f3, f4, f5, f6]) <;> rfl)) ?_
          refine OpsG.nil ?_
          repeat (refine GoP.seq ?_)
          refine GoP.region ?_ ?_
          · rfl
          refine OpsG.cons (o_move (by (try simp only [rdF, rd_none, rd_same, rd_ne, ne_eq, Nat.reduceEqDiff, not_false_eq_true, Nat.reduceLT, f0, f1, f2, f3, f4, f5, f6]) <;> rfl)) ?_
          refine OpsG.call (by (try simp only [List.map_cons, List.map_nil, rdF, rd_none, rd_same, rd_ne, ne_eq, Nat.reduceEqDiff, not_false_eq_true, Nat.reduceLT, f0, f1, f2, f3, f4, f5, f6]) <;> rfl) (decode_con (hb5.bts (fun h => (hb5n h).2)) hby (by omega)) ?_
          rintro rvd σ6 ⟨b6, hrow, hbut6, hb6n⟩
          rw [hde] at hrow
          have hn5 := hbut5.next
          have hx6 : σ6.get (σ1.next + 1) = some (.cells (.line cpu n : Stp).cells 30 .ex) := by rw [hbut6.get _ (by omega) id, hbut5.get _ (by omega) id]; exact hx4
          obtain ⟨hrA, hrB⟩ := hrow
          rcases hrB with ⟨hrB, -⟩ | ⟨-, rfl, hb6g⟩
          · simp at hrB
          simp only [List.map_cons, List.map_nil, List.flatten_cons, List.flatten_nil, List.append_nil, List.length_cons, List.length_nil, Nat.zero_add] at hb6g
          rcases hb5 with ⟨h5, -⟩ | ⟨-, c5, kd5, rfl, -, -⟩
          · rw [h5] at hbl; simp at hbl
          have hbe : (((encS [.line cpu n]).length : Int) == 3) = true := by rw [hbl]; rfl
          refine OpsG.cons (o_assign (by (try simp only [rdF, rd_none, rd_same, rd_ne, ne_eq, Nat.reduceEqDiff, not_false_eq_true, Nat.reduceLT, f0, f1, f2, f3, f4, f5, f6, hbe]) <;> rfl)) ?_
          refine OpsG.nil ?_
          repeat (refine GoP.seq ?_)
          refine GoP.drawn (noK_ok _) mixed ?_ ?_ ?_
          · rfl
          · kernel_rfl
          refine TrP.cons (o_move (by (try simp only [rdF, rd_none, rd_same, rd_ne, ne_eq, Nat.reduceEqDiff, not_false_eq_true, Nat.reduceLT, f0, f1, f2, f3, f4, f5, f6, hbe]) <;> rfl)) ?_
          refine TrP.cons (o_builtin rfl (by (try simp only [List.map_cons, List.map_nil, rdF, rd_none, rd_same, rd_ne, ne_eq, Nat.reduceEqDiff, not_false_eq_true, Nat.reduceLT, f0, f1, f2, f3, f4, f5, f6, hbe]) <;> rfl) (len_25 ..)) ?_
          refine TrP.cons (o_move (by (try simp only [rdF, rd_none, rd_same, rd_ne, ne_eq, Nat.reduceEqDiff, not_false_eq_true, Nat.reduceLT, f0, f1, f2, f3, f4, f5, f6, hbe]) <;> rfl)) ?_
          refine TrP.cons (o_bin (by (try simp only [rdF, rd_none, rd_same, rd_ne, ne_eq, Nat.reduceEqDiff, not_false_eq_true, Nat.reduceLT, f0, f1, f2, f3, f4, f5, f6, hbe]) <;> rfl) (by (try simp only [rdF, rd_none, rd_same, rd_ne, ne_eq, Nat.reduceEqDiff, not_false_eq_true, Nat.reduceLT, f0, f1, f2, f3, f4, f5, f6, hbe]) <;> rfl) binA_eql) ?_
          refine TrP.cons (o_move (by (try simp only [rdF, rd_none, rd_same, rd_ne, ne_eq, Nat.reduceEqDiff, not_false_eq_true, Nat.reduceLT, f0, f1, f2, f3, f4, f5, f6, hbe]) <;> rfl)) ?_
          refine TrP.want (by rfl) (by rfl) (by (try simp only [rdF, rd_none, rd_same, rd_ne, ne_eq, Nat.reduceEqDiff, not_false_eq_true, Nat.reduceLT, f0, f1, f2, f3, f4, f5, f6, hbe]) <;> rfl) (o_move (by (try simp only [rdF, rd_none, rd_same, rd_ne, ne_eq, Nat.reduceEqDiff, not_false_eq_true, Nat.reduceLT, f0, f1, f2, f3, f4, f5, f6, hbe]) <;> rfl)) ?_
          refine TrP.want (by rfl) (by rfl) (by (try simp only [rdF, rd_none, rd_same, rd_ne, ne_eq, Nat.reduceEqDiff, not_false_eq_true, Nat.reduceLT, f0, f1, f2, f3, f4, f5, f6, hbe]) <;> rfl) (o_builtin rfl (by (try simp only [List.map_cons, List.map_nil, rdF, rd_none, rd_same, rd_ne, ne_eq, Nat.reduceEqDiff, not_false_eq_true, Nat.reduceLT, f0, f1, f2, f3, f4, f5, f6, hbe]) <;> rfl) (len_23 ..)) ?_
          refine TrP.want (by rfl) (by rfl) (by (try simp only [rdF, rd_none, rd_same, rd_ne, ne_eq, Nat.reduceEqDiff, not_false_eq_true, Nat.reduceLT, f0, f1, f2, f3, f4, f5, f6, hbe]) <;> rfl) (o_bin (by (try simp only [rdF, rd_none, rd_same, rd_ne, ne_eq, Nat.reduceEqDiff, not_false_eq_true, Nat.reduceLT, f0, f1, f2, f3, f4, f5, f6, hbe]) <;> rfl) (by (try simp only [rdF, rd_none, rd_same, rd_ne, ne_eq, Nat.reduceEqDiff, not_false_eq_true, Nat.reduceLT, f0, f1, f2, f3, f4, f5, f6, hbe]) <;> rfl) binA_eql) ?_
          refine TrP.cons (o_pickT (by (try simp only [rdF, rd_none, rd_same, rd_ne, ne_eq, Nat.reduceEqDiff, not_false_eq_true, Nat.reduceLT, f0, f1, f2, f3, f4, f5, f6, hbe]) <;> rfl) (by (try simp only [rdF, rd_none, rd_same, rd_ne, ne_eq, Nat.reduceEqDiff, not_false_eq_true, Nat.reduceLT, f0, f1, f2, f3, f4, f5, f6, hbe]) <;> rfl)) ?_
          refine TrP.cons (o_move (by (try simp only [rdF, rd_none, rd_same, rd_ne, ne_eq, Nat.reduceEqDiff, not_false_eq_true, Nat.reduceLT, f0, f1, f2, f3, f4, f5, f6, hbe]) <;> rfl)) ?_
          refine TrP.want (by rfl) (by rfl) (by (try simp only [rdF, rd_none, rd_same, rd_ne, ne_eq, Nat.reduceEqDiff, not_false_eq_true, Nat.reduceLT, f0, f1, f2, f3, f4, f5, f6, hbe]) <;> rfl) (o_move (by (try simp only [rdF, rd_none, rd_same, rd_ne, ne_eq, Nat.reduceEqDiff, not_false_eq_true, Nat.reduceLT, f0, f1, f2, f3, f4, f5, f6, hbe]) <;> rfl)) ?_
          refine TrP.want (by rfl) (by rfl) (by (try simp only [rdF, rd_none, rd_same, rd_ne, ne_eq, Nat.reduceEqDiff, not_false_eq_true, Nat.reduceLT, f0, f1, f2, f3, f4, f5, f6, hbe]) <;> rfl) (o_indexAddr (by (try simp only [rdF, rd_none, rd_same, rd_ne, ne_eq, Nat.reduceEqDiff, not_false_eq_true, Nat.reduceLT, f0, f1, f2, f3, f4, f5, f6, hbe]) <;> rfl) (by (try simp only [rdF, rd_none, rd_same, rd_ne, ne_eq, Nat.reduceEqDiff, not_false_eq_true, Nat.reduceLT, f0, f1, f2, f3, f4, f5, f6, hbe]) <;> rfl) (v := .pointer (some ⟨b6, 0, none⟩)) (by rw [ixi_23 (by omega) (by simp)]; rfl)) ?_
          refine TrP.want (by rfl) (by rfl) (by (try simp only [rdF, rd_none, rd_same, rd_ne, ne_eq, Nat.reduceEqDiff, not_false_eq_true, Nat.reduceLT, f0, f1, f2, f3, f4, f5, f6, hbe]) <;> rfl) (o_load (by (try simp only [rdF, rd_none, rd_same, rd_ne, ne_eq, Nat.reduceEqDiff, not_false_eq_true, Nat.reduceLT, f0, f1, f2, f3, f4, f5, f6, hbe]) <;> rfl) (by (try simp (disch := omega) only [St.get_room, St.get_at_eq, St.get_at_ne, St.get_put_eq, St.get_put_ne, St.get_add_eq, St.get_add_ne, St.get_del_ne, St.next_at, St.next_put', St.next_room, St.next_add', St.next_del', hx3, hx6, hb6g]) <;> rfl) (by rw [p_30, if_pos (by rw [hlen14]; omega), List.drop_zero, List.take_of_length_le (by rw [hlen14]; omega)])) ?_
          refine TrP.want (by rfl) (by rfl) (by (try simp only [rdF, rd_none, rd_same, rd_ne, ne_eq, Nat.reduceEqDiff, not_false_eq_true, Nat.reduceLT, f0, f1, f2, f3, f4, f5, f6, hbe]) <;> rfl) (o_load (by (try simp only [rdF, rd_none, rd_same, rd_ne, ne_eq, Nat.reduceEqDiff, not_false_eq_true, Nat.reduceLT, f0, f1, f2, f3, f4, f5, f6, hbe]) <;> rfl) (by (try simp (disch := omega) only [St.get_room, St.get_at_eq, St.get_at_ne, St.get_put_eq, St.get_put_ne, St.get_add_eq, St.get_add_ne, St.get_del_ne, St.next_at, St.next_put', St.next_room, St.next_add', St.next_del', hx3, hx6, hb6g]) <;> rfl) (by rw [p_30, if_pos (by rw [hlen14]; omega), List.drop_zero, List.take_of_length_le (by rw [hlen14]; omega)])) ?_
          refine TrP.want (by rfl) (by rfl) (by (try simp only [rdF, rd_none, rd_same, rd_ne, ne_eq, Nat.reduceEqDiff, not_false_eq_true, Nat.reduceLT, f0, f1, f2, f3, f4, f5, f6, hbe]) <;> rfl) (o_bin (by (try simp only [rdF, rd_none, rd_same, rd_ne, ne_eq, Nat.reduceEqDiff, not_false_eq_true, Nat.reduceLT, f0, f1, f2, f3, f4, f5, f6, hbe]) <;> rfl) (by (try simp only [rdF, rd_none, rd_same, rd_ne, ne_eq, Nat.reduceEqDiff, not_false_eq_true, Nat.reduceLT, f0, f1, f2, f3, f4, f5, f6, hbe]) <;> rfl) (eq30 hsok _ _).1) ?_
          refine TrP.cons (o_pickT (by (try simp only [rdF, rd_none, rd_same, rd_ne, ne_eq, Nat.reduceEqDiff, not_false_eq_true, Nat.reduceLT, f0, f1, f2, f3, f4, f5, f6, hbe]) <;> rfl) (by (try simp only [rdF, rd_none, rd_same, rd_ne, ne_eq, Nat.reduceEqDiff, not_false_eq_true, Nat.reduceLT, f0, f1, f2, f3, f4, f5, f6, hbe]) <;> rfl)) ?_
          refine TrP.cons (o_assign (by (try simp only [rdF, rd_none, rd_same, rd_ne, ne_eq, Nat.reduceEqDiff, not_false_eq_true, Nat.reduceLT, f0, f1, f2, f3, f4, f5, f6, hbe]) <;> rfl)) ?_
          refine TrP.nil ⟨ChecksG.of (l1 := []) (l2 := []) (by kernel_rfl) (by kernel_rfl) ?_ ?_, ?_⟩
          · all_goals (simp only [List.forall_mem_cons, List.not_mem_nil, false_implies, implies_true, and_true]; try trivial)
          · simp only [List.forall_mem_cons, List.not_mem_nil, false_implies, implies_true, and_true]; try trivial
          repeat (refine GoP.seq ?_)
          refine GoP.ret ?_
          refine ⟨.inl rfl, [.bool true], ?_, ?_⟩
          · exact (by (try simp only [resAllF, resOneF, rdF, rd_none, rd_same, rd_ne, ne_eq, Nat.reduceEqDiff, not_false_eq_true, Nat.reduceLT, f0, f1, f2, f3, f4, f5, f6, hbe]) <;> rfl)
          · rfl
        ·
          have hK : 1 + kind % 5 = 4 := by simp at hc1 hc2 hc3 hc5; omega
          repeat (refine GoP.seq ?_)
          refine GoP.skip ?_
          repeat (refine GoP.seq ?_)
          refine GoP.name ?_
          rintro σ3 hσ3
          have hx3 : σ3.get (σ1.next + 1) = some (.cells [.int .i64 4, .int .i64 cpu, .int .u64 0, .int .u64 0, .int .u64 0, .int .u64 0, .int .u64 0, .int .u64 0, .int .u64 0, .int .u64 0, .int .i64 0, .int .i64 0, .int .u64 0, .int .i64 0] 30 .ex) := by
            rw [hσ3]
            simp (disch := omega) only [St.get_room, St.get_at_eq, St.get_at_ne, St.get_put_eq, St.get_put_ne, St.get_add_eq, St.get_add_ne, St.get_del_ne, St.next_at, St.next_put', St.next_room, St.next_add', St.next_del', hK]
          have hn3 : σ3.next = σ1.next + 2 := by
            rw [hσ3]
            rfl
          have hsok : (.tick cpu : Stp).ok := by simp only [Stp.ok, u64r, List.length_cons, List.length_nil, List.mem_cons, List.not_mem_nil, or_false, forall_eq_or_imp, forall_eq, true_and]; omega
          have hlen14 := cells_length hsok
          refine GoP.region ?_ ?_
          · rfl
          refine OpsG.cons (o_load (by (try simp only [rdF, rd_none, rd_same, rd_ne, ne_eq, Nat.reduceEqDiff, not_false_eq_true, Nat.reduceLT, f0, f1, f2, f3, f4, f5, f6]) <;> rfl) (by (try simp (disch := omega) only [St.get_room, St.get_at_eq, St.get_at_ne, St.get_put_eq, St.get_put_ne, St.get_add_eq, St.get_add_ne, St.get_del_ne, St.next_at, St.next_put', St.next_room, St.next_add', St.next_del', hx3]) <;> rfl) (by rw [p_30]; simp only [List.length_cons, List.length_nil, List.drop_succ_cons, List.drop_zero, List.take_succ_cons, List.take_zero, Nat.reduceAdd, Nat.reduceLeDiff, Nat.zero_add, if_true]; rfl)) ?_
          refine OpsG.cons (o_makesOf (fun _ => _) rfl (by intro x hx; have e : x = .tmp 57 := (by simpa [Op.operands] using hx); rw [e]; exact (by (try simp only [rdF, rd_none, rd_same, rd_ne, ne_eq, Nat.reduceEqDiff, not_false_eq_true, Nat.reduceLT, f0, f1, f2, f3, f4, f5, f6]) <;> rfl)) (bs23 ..)) ?_
          refine OpsG.name ?_
          rintro σ4 hσ4
          have hx4 : σ4.get (σ1.next + 1) = some (.cells (.tick cpu : Stp).cells 30 .ex) := by rw [hσ4, St.get_at_ne (by omega)]; exact hx3
          have hn4 : σ4.next = σ1.next + 3 := by rw [hσ4, St.next_at, hn3]
          have hst : StA (· < σ4.next) σ4 (.slice (some ⟨σ3.next, 0, none⟩) 1 1) [.tick cpu] := ⟨_, 1, rfl, fun _ => ⟨σ3.next, 0, _, 30, .ex, rfl, by omega, by rw [hσ4, St.get_at_eq rfl], fun i hi => by obtain rfl : i = 0 := (by simpa using hi); rfl⟩⟩
          refine OpsG.call (by (try simp only [List.map_cons, List.map_nil, rdF, rd_none, rd_same, rd_ne, ne_eq, Nat.reduceEqDiff, not_false_eq_true, Nat.reduceLT, f0, f1, f2, f3, f4, f5, f6]) <;> rfl) (enc_con hst (fun s hs => by rw [List.mem_singleton.1 hs]; exact hsok) (by simp)) ?_
          rintro rvb σ5 ⟨b5, hb5, hbut5, hb5n⟩
          have hde : decS (encS [.tick cpu]) = [.tick cpu] := by have := dec_enc [.tick cpu] (fun s hs => by rw [List.mem_singleton.1 hs]; exact hsok) []; rw [decS_nil, List.append_nil, List.append_nil] at this; exact this
          have hbl : (encS [.tick cpu]).length = 2 := by rfl
          have hby := byt_enc (l := [.tick cpu]) (fun s hs => by rw [List.mem_singleton.1 hs]; exact hsok)
          refine OpsG.cons (o_assign (by (try simp only [rdF, rd_none, rd_same, rd_ne, ne_eq, Nat.reduceEqDiff, not_false_eq_true, Nat.reduceLT, f0, f1, f2, f3, f4, f5, f6]) <;> rfl)) ?_
          refine OpsG.nil ?_
          repeat (refine GoP.seq ?_)
          refine GoP.region ?_ ?_
          · rfl
          refine OpsG.cons (o_move (by (try simp only [rdF, rd_none, rd_same, rd_ne, ne_eq, Nat.reduceEqDiff, not_false_eq_true, Nat.reduceLT, f0, f1, f2, f3, f4, f5, f6]) <;> rfl)) ?_
          refine OpsG.call (by (try simp only [List.map_cons, List.map_nil, rdF, rd_none, rd_same, rd_ne, ne_eq, Nat.reduceEqDiff, not_false_eq_true, Nat.reduceLT, f0, f1, f2, f3, f4, f5, f6]) <;> rfl) (decode_con (hb5.bts (fun h => (hb5n h).2)) hby (by omega)) ?_
          rintro rvd σ6 ⟨b6, hrow, hbut6, hb6n⟩
          rw [hde] at hrow
          have hn5 := hbut5.next
          have hx6 : σ6.get (σ1.next + 1) = some (.cells (.tick cpu : Stp).cells 30 .ex) := by rw [hbut6.get _ (by omega) id, hbut5.get _ (by omega) id]; exact hx4
          obtain ⟨hrA, hrB⟩ := hrow
          rcases hrB with ⟨hrB, -⟩ | ⟨-, rfl, hb6g⟩
          · simp at hrB
          simp only [List.map_cons, List.map_nil, List.flatten_cons, List.flatten_nil, List.append_nil, List.length_cons, List.length_nil, Nat.zero_add] at hb6g
          rcases hb5 with ⟨h5, -⟩ | ⟨-, c5, kd5, rfl, -, -⟩
          · rw [h5] at hbl; simp at hbl
          have hbe : (((encS [.tick cpu]).length : Int) == 2) = true := by rw [hbl]; rfl
          refine OpsG.cons (o_assign (by (try simp only [rdF, rd_none, rd_same, rd_ne, ne_eq, Nat.reduceEqDiff, not_false_eq_true, Nat.reduceLT, f0, f1, f2, f3, f4, f5, f6, hbe]) <;> rfl)) ?_
          refine OpsG.nil ?_
          repeat (refine GoP.seq ?_)
          refine GoP.drawn (noK_ok _) mixed ?_ ?_ ?_
          · rfl
          · kernel_rfl
          refine TrP.cons (o_move (by (try simp only [rdF, rd_none, rd_same, rd_ne, ne_eq, Nat.reduceEqDiff, not_false_eq_true, Nat.reduceLT, f0, f1, f2, f3, f4, f5, f6, hbe]) <;> rfl)) ?_
          refine TrP.cons (o_builtin rfl (by (try simp only [List.map_cons, List.map_nil, rdF, rd_none, rd_same, rd_ne, ne_eq, Nat.reduceEqDiff, not_false_eq_true, Nat.reduceLT, f0, f1, f2, f3, f4, f5, f6, hbe]) <;> rfl) (len_25 ..)) ?_
          refine TrP.cons (o_move (by (try simp only [rdF, rd_none, rd_same, rd_ne, ne_eq, Nat.reduceEqDiff, not_false_eq_true, Nat.reduceLT, f0, f1, f2, f3, f4, f5, f6, hbe]) <;> rfl)) ?_
          refine TrP.cons (o_bin (by (try simp only [rdF, rd_none, rd_same, rd_ne, ne_eq, Nat.reduceEqDiff, not_false_eq_true, Nat.reduceLT, f0, f1, f2, f3, f4, f5, f6, hbe]) <;> rfl) (by (try simp only [rdF, rd_none, rd_same, rd_ne, ne_eq, Nat.reduceEqDiff, not_false_eq_true, Nat.reduceLT, f0, f1, f2, f3, f4, f5, f6, hbe]) <;> rfl) binA_eql) ?_
          refine TrP.cons (o_move (by (try simp only [rdF, rd_none, rd_same, rd_ne, ne_eq, Nat.reduceEqDiff, not_false_eq_true, Nat.reduceLT, f0, f1, f2, f3, f4, f5, f6, hbe]) <;> rfl)) ?_
          refine TrP.want (by rfl) (by rfl) (by (try simp only [rdF, rd_none, rd_same, rd_ne, ne_eq, Nat.reduceEqDiff, not_false_eq_true, Nat.reduceLT, f0, f1, f2, f3, f4, f5, f6, hbe]) <;> rfl) (o_move (by (try simp only [rdF, rd_none, rd_same, rd_ne, ne_eq, Nat.reduceEqDiff, not_false_eq_true, Nat.reduceLT, f0, f1, f2, f3, f4, f5, f6, hbe]) <;> rfl)) ?_
          refine TrP.want (by rfl) (by rfl) (by (try simp only [rdF, rd_none, rd_same, rd_ne, ne_eq, Nat.reduceEqDiff, not_false_eq_true, Nat.reduceLT, f0, f1, f2, f3, f4, f5, f6, hbe]) <;> rfl) (o_builtin rfl (by (try simp only [List.map_cons, List.map_nil, rdF, rd_none, rd_same, rd_ne, ne_eq, Nat.reduceEqDiff, not_false_eq_true, Nat.reduceLT, f0, f1, f2, f3, f4, f5, f6, hbe]) <;> rfl) (len_23 ..)) ?_
          refine TrP.want (by rfl) (by rfl) (by (try simp only [rdF, rd_none, rd_same, rd_ne, ne_eq, Nat.reduceEqDiff, not_false_eq_true, Nat.reduceLT, f0, f1, f2, f3, f4, f5, f6, hbe]) <;> rfl) (o_bin (by (try simp only [rdF, rd_none, rd_same, rd_ne, ne_eq, Nat.reduceEqDiff, not_false_eq_true, Nat.reduceLT, f0, f1, f2, f3, f4, f5, f6, hbe]) <;> rfl) (by (try simp only [rdF, rd_none, rd_same, rd_ne, ne_eq, Nat.reduceEqDiff, not_false_eq_true, Nat.reduceLT, f0, f1, f2, f3, f4, f5, f6, hbe]) <;> rfl) binA_eql) ?_
          refine TrP.cons (o_pickT (by (try simp only [rdF, rd_none, rd_same, rd_ne, ne_eq, Nat.reduceEqDiff, not_false_eq_true, Nat.reduceLT, f0, f1, f2, f3, f4, f5, f6, hbe]) <;> rfl) (by (try simp only [rdF, rd_none, rd_same, rd_ne, ne_eq, Nat.reduceEqDiff, not_false_eq_true, Nat.reduceLT, f0, f1, f2, f3, f4, f5, f6, hbe]) <;> rfl)) ?_
          refine TrP.cons (o_move (by (try simp only [rdF, rd_none, rd_same, rd_ne, ne_eq, Nat.reduceEqDiff, not_false_eq_true, Nat.reduceLT, f0, f1, f2, f3, f4, f5, f6, hbe]) <;> rfl)) ?_
          refine TrP.want (by rfl) (by rfl) (by (try simp only [rdF, rd_none, rd_same, rd_ne, ne_eq, Nat.reduceEqDiff, not_false_eq_true, Nat.reduceLT, f0, f1, f2, f3, f4, f5, f6, hbe]) <;> rfl) (o_move (by (try simp only [rdF, rd_none, rd_same, rd_ne, ne_eq, Nat.reduceEqDiff, not_false_eq_true, Nat.reduceLT, f0, f1, f2, f3, f4, f5, f6, hbe]) <;> rfl)) ?_
          refine TrP.want (by rfl) (by rfl) (by (try simp only [rdF, rd_none, rd_same, rd_ne, ne_eq, Nat.reduceEqDiff, not_false_eq_true, Nat.reduceLT, f0, f1, f2, f3, f4, f5, f6, hbe]) <;> rfl) (o_indexAddr (by (try simp only [rdF, rd_none, rd_same, rd_ne, ne_eq, Nat.reduceEqDiff, not_false_eq_true, Nat.reduceLT, f0, f1, f2, f3, f4, f5, f6, hbe]) <;> rfl) (by (try simp only [rdF, rd_none, rd_same, rd_ne, ne_eq, Nat.reduceEqDiff, not_false_eq_true, Nat.reduceLT, f0, f1, f2, f3, f4, f5, f6, hbe]) <;> rfl) (v := .pointer (some ⟨b6, 0, none⟩)) (by rw [ixi_23 (by omega) (by simp)]; rfl)) ?_
          refine TrP.want (by rfl) (by rfl) (by (try simp only [rdF, rd_none, rd_same, rd_ne, ne_eq, Nat.reduceEqDiff, not_false_eq_true, Nat.reduceLT, f0, f1, f2, f3, f4, f5, f6, hbe]) <;> rfl) (o_load (by (try simp only [rdF, rd_none, rd_same, rd_ne, ne_eq, Nat.reduceEqDiff, not_false_eq_true, Nat.reduceLT, f0, f1, f2, f3, f4, f5, f6, hbe]) <;> rfl) (by (try simp (disch := omega) only [St.get_room, St.get_at_eq, St.get_at_ne, St.get_put_eq, St.get_put_ne, St.get_add_eq, St.get_add_ne, St.get_del_ne, St.next_at, St.next_put', St.next_room, St.next_add', St.next_del', hx3, hx6, hb6g]) <;> rfl) (by rw [p_30, if_pos (by rw [hlen14]; omega), List.drop_zero, List.take_of_length_le (by rw [hlen14]; omega)])) ?_
          refine TrP.want (by rfl) (by rfl) (by (try simp only [rdF, rd_none, rd_same, rd_ne, ne_eq, Nat.reduceEqDiff, not_false_eq_true, Nat.reduceLT, f0, f1, f2, f3, f4, f5, f6, hbe]) <;> rfl) (o_load (by (try simp only [rdF, rd_none, rd_same, rd_ne, ne_eq, Nat.reduceEqDiff, not_false_eq_true, Nat.reduceLT, f0, f1, f2, f3, f4, f5, f6, hbe]) <;> rfl) (by (try simp (disch := omega) only [St.get_room, St.get_at_eq, St.get_at_ne, St.get_put_eq, St.get_put_ne, St.get_add_eq, St.get_add_ne, St.get_del_ne, St.next_at, St.next_put', St.next_room, St.next_add', St.next_del', hx3, hx6, hb6g]) <;> rfl) (by rw [p_30, if_pos (by rw [hlen14]; omega), List.drop_zero, List.take_of_length_le (by rw [hlen14]; omega)])) ?_
          refine TrP.want (by rfl) (by rfl) (by (try simp only [rdF, rd_none, rd_same, rd_ne, ne_eq, Nat.reduceEqDiff, not_false_eq_true, Nat.reduceLT, f0, f1, f2, f3, f4, f5, f6, hbe]) <;> rfl) (o_bin (by (try simp only [rdF, rd_none, rd_same, rd_ne, ne_eq, Nat.reduceEqDiff, not_false_eq_true, Nat.reduceLT, f0, f1, f2, f3, f4, f5, f6, hbe]) <;> rfl) (by (try simp only [rdF, rd_none, rd_same, rd_ne, ne_eq, Nat.reduceEqDiff, not_false_eq_true, Nat.reduceLT, f0, f1, f2, f3, f4, f5, f6, hbe]) <;> rfl) (eq30 hsok _ _).1) ?_
          refine TrP.cons (o_pickT (by (try simp only [rdF, rd_none, rd_same, rd_ne, ne_eq, Nat.reduceEqDiff, not_false_eq_true, Nat.reduceLT, f0, f1, f2, f3, f4, f5, f6, hbe]) <;> rfl) (by (try simp only [rdF, rd_none, rd_same, rd_ne, ne_eq, Nat.reduceEqDiff, not_false_eq_true, Nat.reduceLT, f0, f1, f2, f3, f4, f5, f6, hbe]) <;> rfl)) ?_
          refine TrP.cons (o_assign (by (try simp only [rdF, rd_none, rd_same, rd_ne, ne_eq, Nat.reduceEqDiff, not_false_eq_true, Nat.reduceLT, f0, f1, f2, f3, f4, f5, f6, hbe]) <;> rfl)) ?_
          refine TrP.nil ⟨ChecksG.of (l1 := []) (l2 := []) (by kernel_rfl) (by kernel_rfl) ?_ ?_, ?_⟩
          · all_goals (simp only [List.forall_mem_cons, List.not_mem_nil, false_implies, implies_true, and_true]; try trivial)
          · simp only [List.forall_mem_cons, List.not_mem_nil, false_implies, implies_true, and_true]; try trivial
          repeat (refine GoP.seq ?_)
          refine GoP.ret ?_
          refine ⟨.inl rfl, [.bool true], ?_, ?_⟩
          · exact (by (try simp only [resAllF, resOneF, rdF, rd_none, rd_same, rd_ne, ne_eq, Nat.reduceEqDiff, not_false_eq_true, Nat.reduceLT, f0, f1, f2, f3, f4, f5, f6, hbe]) <;> rfl)
          · rfl
end Go.Proofs.YtfffmmgmjlfkoaaGreat
