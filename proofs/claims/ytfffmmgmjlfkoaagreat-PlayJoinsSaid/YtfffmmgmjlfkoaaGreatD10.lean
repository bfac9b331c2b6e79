/- play.Decode -/
import Derived.Test.YtfffmmgmjlfkoaaGreatD9
namespace Go.Proofs.YtfffmmgmjlfkoaaGreat
set_option linter.unusedSimpArgs false
set_option linter.unusedVariables false
open Go.As

theorem rnV_1 {bs : List Int} (h : Byt bs) : 0 ≤ rnV 1 bs ∧ rnV 1 bs < 256 := by simpa using rnV_bound (n := 1) h
theorem rnV_2 {bs : List Int} (h : Byt bs) : 0 ≤ rnV 2 bs ∧ rnV 2 bs < 65536 := by simpa using rnV_bound (n := 2) h
theorem splice_all {l vs : List Value} (h : l.length = vs.length) : splice l 0 vs = vs := by
  unfold splice
  rw [List.take_zero, List.nil_append, List.drop_eq_nil_of_le (by omega), List.append_nil]
theorem sh_next {s : Bool} {l : List Int} {j : Nat} : (s || decide (l.length < 8 * (j + 1))) = ((s || decide (l.length < 8 * j)) || decide ((l.drop (8 * j)).length < 8)) := by
  rw [List.length_drop]
  cases s
  · rw [Bool.eq_iff_iff]
    simp only [Bool.false_or, Bool.or_eq_true, decide_eq_true_eq]
    omega
  · rfl
noncomputable def scopeOf : Code → Code
  | .seq _ (.scope c) => c
  | _ => .skip
theorem eight {l : List Int} (h : l.length = 8) : ∃ a b c d e f g k, l = [a, b, c, d, e, f, g, k] := by
  match l, h with
  | [a, b, c, d, e, f, g, k], _ => exact ⟨a, b, c, d, e, f, g, k, rfl⟩

noncomputable def code7 : Code := match Tryz.f7.body with | some c => c | none => .skip
theorem code7_eq : Tryz.f7.body = some code7 := by kernel_rfl
theorem ok7 : fnOk Tryz.f7 = true := by kernel_rfl
noncomputable def rest7 : Code := match findLabel (scopeOf code7) 0 with | some c => c | none => .skip
theorem rest7_eq : findLabel (scopeOf code7) 0 = some rest7 := by kernel_rfl
set_option maxRecDepth 20000 in
theorem decode_con {σ : St} {v : Value} {bs : List Int} (hv : Bts (· < σ.next) σ v bs) (hby : Byt bs) (hlen : bs.length ≤ 100000) : Con Tryz.prog 7 [v] σ (fun v' σ' => ∃ b, RowN σ' 30 14 v' ((decS bs).map Stp.cells) b ∧ But σ σ' (fun _ => False) ∧ ((decS bs).map Stp.cells ≠ [] → σ.next ≤ b ∧ b < σ'.next)) := by
  refine Con.of_goP (nt := 82) (rs := [.tmp 2]) Tryz.func7 code7_eq ok7 rfl rfl (by simp) ?_
  have f0 : rdT 82 (fill .nil 0 [v]) 0 = v := rfl
  generalize fill .nil 0 [v] = t at f0
  unfold code7 Tryz.f7
  repeat (refine GoP.seq ?_)
  have hv' := hv
  obtain ⟨va, vc, rfl, -, -⟩ := hv'
  refine GoP.name ?_
  rintro σ1 rfl
  generalize hLL : decS bs = L
  refine GoP.region ?_ ?_
  · rfl
  refine OpsG.cons (o_assign (by (try simp only [rdF, rd_none, rd_same, rd_ne, ne_eq, Nat.reduceEqDiff, not_false_eq_true, Nat.reduceLT, f0]) <;> rfl)) ?_
  refine OpsG.nil ?_
  repeat (refine GoP.seq ?_)
  refine GoP.scope (fun l m t σ => l = 0 ∧ ∃ (rb sb : Nat) (rv vres : Value) (bs : List Int) (sc : List Value) (ls : List Stp) (b : Nat), rdT 82 t 2 = vres ∧ rdT 82 t 3 = .pointer (some ⟨rb, 0, none⟩) ∧ rdT 82 t 4 = .pointer (some ⟨sb, 0, none⟩) ∧ (DInv σ1 σ rb sb rv bs false sc vres (ls.map Stp.cells) b) ∧ (ls ++ decS bs = L) ∧ (ls.length + bs.length ≤ 100000) ∧ (sc.length = 14) ∧ m = bs.length) (fun _ => rest7) ?_ ?_ ?_
  · rintro l m t σ ⟨rfl, -⟩
    exact rest7_eq
  · rintro l m t σ ⟨rfl, rb, sb, rv, vres, bs, sc, ls, b, g2, g3, g4, hd, hL, hln, hsc, rfl⟩
    repeat (refine GoP.seq ?_)
    have hn0 := rnV_1 hd.byt
    refine GoP.skip ?_
    repeat (refine GoP.seq ?_)
    refine GoP.region ?_ ?_
    · rfl
    refine OpsG.cons (o_move (by (try simp only [rdF, rd_none, rd_same, rd_ne, ne_eq, Nat.reduceEqDiff, not_false_eq_true, Nat.reduceLT, g2, g3, g4]) <;> rfl)) ?_
    refine OpsG.call (by (try simp only [List.map_cons, List.map_nil, rdF, rd_none, rd_same, rd_ne, ne_eq, Nat.reduceEqDiff, not_false_eq_true, Nat.reduceLT, g2, g3, g4]) <;> rfl) (hd.reads (n := 1) (by omega) (by omega)) ?_
    rintro v σ2 ⟨rfl, rv2, hd2⟩
    refine OpsG.cons (o_bin (by (try simp only [rdF, rd_none, rd_same, rd_ne, ne_eq, Nat.reduceEqDiff, not_false_eq_true, Nat.reduceLT, g2, g3, g4]) <;> rfl) (by (try simp only [rdF, rd_none, rd_same, rd_ne, ne_eq, Nat.reduceEqDiff, not_false_eq_true, Nat.reduceLT, g2, g3, g4]) <;> rfl) (b_rem (by omega) (by omega))) ?_
    refine OpsG.cons (o_convert rfl (by (try simp only [rdF, rd_none, rd_same, rd_ne, ne_eq, Nat.reduceEqDiff, not_false_eq_true, Nat.reduceLT, g2, g3, g4]) <;> rfl) ((cv_26_3 _).trans (congrArg (fun z => some (Value.int .i64 z)) (wrap64 (by omega) (by omega))))) ?_
    refine OpsG.cons (o_build (by (try simp only [List.map_cons, List.map_nil, rdF, rd_none, rd_same, rd_ne, ne_eq, Nat.reduceEqDiff, not_false_eq_true, Nat.reduceLT, g2, g3, g4]) <;> rfl) (bd_30_0 ..)) ?_
    refine OpsG.cons (o_store (by (try simp only [rdF, rd_none, rd_same, rd_ne, ne_eq, Nat.reduceEqDiff, not_false_eq_true, Nat.reduceLT, g2, g3, g4]) <;> rfl) (by (try simp only [rdF, rd_none, rd_same, rd_ne, ne_eq, Nat.reduceEqDiff, not_false_eq_true, Nat.reduceLT, g2, g3, g4]) <;> rfl) (by (try simp (disch := omega) only [St.get_room, St.get_at_eq, St.get_at_ne, St.get_put_eq, St.get_put_ne, St.get_add_eq, St.get_add_ne, St.get_del_ne, St.next_at, St.next_put', St.next_room, St.next_add', St.next_del', hd.rdo, hd.sbo, hd2.rdo, hd2.sbo]) <;> rfl) (by simp) s_30 (cl_14 ..) rfl rfl (by rw [hsc]; omega) (splice_all (by rw [hsc]; rfl))) ?_
    refine OpsG.nil ?_
    repeat (refine GoP.seq ?_)
    refine GoP.name ?_
    rintro σ3 hσ3
    have hd3 : DInv σ1 σ3 rb sb rv2 (bs.drop 1) (false || decide (bs.length < 1)) [.int .i64 (rnV 1 bs % 8), .int .i64 (0), .int .u64 0, .int .u64 0, .int .u64 0, .int .u64 0, .int .u64 0, .int .u64 0, .int .u64 0, .int .u64 0, .int .i64 0, .int .i64 0, .int .u64 0, .int .i64 0] vres (ls.map Stp.cells) b := by rw [hσ3]; exact hd2.put _
    refine GoP.region ?_ ?_
    · rfl
    refine OpsG.cons (o_move (by (try simp only [rdF, rd_none, rd_same, rd_ne, ne_eq, Nat.reduceEqDiff, not_false_eq_true, Nat.reduceLT, g2, g3, g4]) <;> rfl)) ?_
    refine OpsG.cons (o_nil (by (try simp only [rdF, rd_none, rd_same, rd_ne, ne_eq, Nat.reduceEqDiff, not_false_eq_true, Nat.reduceLT, g2, g3, g4]) <;> rfl)) ?_
    refine OpsG.cons (o_field (by (try simp only [rdF, rd_none, rd_same, rd_ne, ne_eq, Nat.reduceEqDiff, not_false_eq_true, Nat.reduceLT, g2, g3, g4]) <;> rfl) (fa_50_1 _ _)) ?_
    refine OpsG.cons (o_load (by (try simp only [rdF, rd_none, rd_same, rd_ne, ne_eq, Nat.reduceEqDiff, not_false_eq_true, Nat.reduceLT, g2, g3, g4]) <;> rfl) (by (try simp (disch := omega) only [St.get_room, St.get_at_eq, St.get_at_ne, St.get_put_eq, St.get_put_ne, St.get_add_eq, St.get_add_ne, St.get_del_ne, St.next_at, St.next_put', St.next_room, St.next_add', St.next_del', hd.rdo, hd.sbo, hd2.rdo, hd2.sbo, hd3.rdo, hd3.sbo]) <;> rfl) (by rw [p_4]; rfl)) ?_
    refine OpsG.nil ?_
    repeat (refine GoP.seq ?_)
    refine GoP.cond (by rfl) (by (try simp only [rdF, rd_none, rd_same, rd_ne, ne_eq, Nat.reduceEqDiff, not_false_eq_true, Nat.reduceLT, g2, g3, g4]) <;> rfl) (fun hsh => ?_) (fun hsh => ?_)
    ·
      have hbs : bs = [] := List.eq_nil_of_length_eq_zero (by simpa using hsh)
      subst hbs
      rw [decS_nil, List.append_nil] at hL
      repeat (refine GoP.seq ?_)
      refine GoP.region ?_ ?_
      · rfl
      refine OpsG.cons (o_move (by (try simp only [rdF, rd_none, rd_same, rd_ne, ne_eq, Nat.reduceEqDiff, not_false_eq_true, Nat.reduceLT, g2, g3, g4]) <;> rfl)) ?_
      refine OpsG.cons (o_assign (by (try simp only [rdF, rd_none, rd_same, rd_ne, ne_eq, Nat.reduceEqDiff, not_false_eq_true, Nat.reduceLT, g2, g3, g4]) <;> rfl)) ?_
      refine OpsG.nil ?_
      repeat (refine GoP.seq ?_)
      refine GoP.ret ?_
      refine ⟨.inl rfl, [vres], ?_, ?_⟩
      · exact (by (try simp only [resAllF, resOneF, rdF, rd_none, rd_same, rd_ne, ne_eq, Nat.reduceEqDiff, not_false_eq_true, Nat.reduceLT, g2, g3, g4]) <;> rfl)
      · exact ⟨b, by rw [← hL]; exact hd3.row, hd3.but, fun h => by have := hd3.bn (by rw [← hL] at h; simpa using h); exact ⟨this.1, this.2.1⟩⟩
    ·
      rw [hsh] at hd3
      have hne : bs ≠ [] := by intro h; subst h; simp at hsh
      have hpos := List.length_pos_iff.2 hne
      repeat (refine GoP.seq ?_)
      refine GoP.skip ?_
      repeat (refine GoP.seq ?_)
      refine GoP.region ?_ ?_
      · rfl
      refine OpsG.cons (o_field (by (try simp only [rdF, rd_none, rd_same, rd_ne, ne_eq, Nat.reduceEqDiff, not_false_eq_true, Nat.reduceLT, g2, g3, g4]) <;> rfl) (fa_30_0 _ _)) ?_
      refine OpsG.cons (o_load (by (try simp only [rdF, rd_none, rd_same, rd_ne, ne_eq, Nat.reduceEqDiff, not_false_eq_true, Nat.reduceLT, g2, g3, g4]) <;> rfl) (by (try simp (disch := omega) only [St.get_room, St.get_at_eq, St.get_at_ne, St.get_put_eq, St.get_put_ne, St.get_add_eq, St.get_add_ne, St.get_del_ne, St.next_at, St.next_put', St.next_room, St.next_add', St.next_del', hd.rdo, hd.sbo, hd2.rdo, hd2.sbo, hd3.rdo, hd3.sbo]) <;> rfl) (by rw [p_3]; rfl)) ?_
      refine OpsG.cons (o_bin (by (try simp only [rdF, rd_none, rd_same, rd_ne, ne_eq, Nat.reduceEqDiff, not_false_eq_true, Nat.reduceLT, g2, g3, g4]) <;> rfl) (by (try simp only [rdF, rd_none, rd_same, rd_ne, ne_eq, Nat.reduceEqDiff, not_false_eq_true, Nat.reduceLT, g2, g3, g4]) <;> rfl) binA_lss) ?_
      refine OpsG.cons (o_move (by (try simp only [rdF, rd_none, rd_same, rd_ne, ne_eq, Nat.reduceEqDiff, not_false_eq_true, Nat.reduceLT, g2, g3, g4]) <;> rfl)) ?_
      refine OpsG.split (d := 23) (by (try simp only [rdF, rd_none, rd_same, rd_ne, ne_eq, Nat.reduceEqDiff, not_false_eq_true, Nat.reduceLT, g2, g3, g4]) <;> rfl) (fun hk1 hk1v => ?_) (fun hk1 hk1v => ?_)
      ·
        have hkx := of_decide_eq_true hk1
        refine OpsG.skip (by rfl) (by rfl) (by (try simp only [rdF, rd_none, rd_same, rd_ne, ne_eq, Nat.reduceEqDiff, not_false_eq_true, Nat.reduceLT, g2, g3, g4, hk1v]) <;> rfl) ?_
        refine OpsG.skip (by rfl) (by rfl) (by (try simp only [rdF, rd_none, rd_same, rd_ne, ne_eq, Nat.reduceEqDiff, not_false_eq_true, Nat.reduceLT, g2, g3, g4, hk1v]) <;> rfl) ?_
        refine OpsG.skip (by rfl) (by rfl) (by (try simp only [rdF, rd_none, rd_same, rd_ne, ne_eq, Nat.reduceEqDiff, not_false_eq_true, Nat.reduceLT, g2, g3, g4, hk1v]) <;> rfl) ?_
        refine OpsG.cons (o_pickT (by (try simp only [rdF, rd_none, rd_same, rd_ne, ne_eq, Nat.reduceEqDiff, not_false_eq_true, Nat.reduceLT, g2, g3, g4, hk1v]) <;> rfl) (by (try simp only [rdF, rd_none, rd_same, rd_ne, ne_eq, Nat.reduceEqDiff, not_false_eq_true, Nat.reduceLT, g2, g3, g4, hk1v]) <;> rfl)) ?_
        refine OpsG.nil ?_
        repeat (refine GoP.seq ?_)
        refine GoP.cond_true (by rfl) (by (try simp only [rdF, rd_none, rd_same, rd_ne, ne_eq, Nat.reduceEqDiff, not_false_eq_true, Nat.reduceLT, g2, g3, g4, hk1v]) <;> rfl) ?_
        repeat (refine GoP.seq ?_)
        refine GoP.goto ?_
        refine ⟨_, ?_, rfl, rb, sb, rv2, vres, bs.drop 1, _, ls, b, (by (try simp only [rdF, rd_none, rd_same, rd_ne, ne_eq, Nat.reduceEqDiff, not_false_eq_true, Nat.reduceLT, g2, g3, g4, hk1v]) <;> rfl), (by (try simp only [rdF, rd_none, rd_same, rd_ne, ne_eq, Nat.reduceEqDiff, not_false_eq_true, Nat.reduceLT, g2, g3, g4, hk1v]) <;> rfl), (by (try simp only [rdF, rd_none, rd_same, rd_ne, ne_eq, Nat.reduceEqDiff, not_false_eq_true, Nat.reduceLT, g2, g3, g4, hk1v]) <;> rfl), hd3, (by rw [← hL, decS_skip hne (by omega)]), (by rw [List.length_drop]; omega), rfl, rfl⟩
        rw [List.length_drop]; omega
      ·
        have hkx := of_decide_eq_false hk1
        refine OpsG.want (by rfl) (by rfl) (by (try simp only [rdF, rd_none, rd_same, rd_ne, ne_eq, Nat.reduceEqDiff, not_false_eq_true, Nat.reduceLT, g2, g3, g4, hk1v]) <;> rfl) (o_field (by (try simp only [rdF, rd_none, rd_same, rd_ne, ne_eq, Nat.reduceEqDiff, not_false_eq_true, Nat.reduceLT, g2, g3, g4, hk1v]) <;> rfl) (fa_30_0 _ _)) ?_
        refine OpsG.want (by rfl) (by rfl) (by (try simp only [rdF, rd_none, rd_same, rd_ne, ne_eq, Nat.reduceEqDiff, not_false_eq_true, Nat.reduceLT, g2, g3, g4, hk1v]) <;> rfl) (o_load (by (try simp only [rdF, rd_none, rd_same, rd_ne, ne_eq, Nat.reduceEqDiff, not_false_eq_true, Nat.reduceLT, g2, g3, g4, hk1v]) <;> rfl) (by (try simp (disch := omega) only [St.get_room, St.get_at_eq, St.get_at_ne, St.get_put_eq, St.get_put_ne, St.get_add_eq, St.get_add_ne, St.get_del_ne, St.next_at, St.next_put', St.next_room, St.next_add', St.next_del', hd.rdo, hd.sbo, hd2.rdo, hd2.sbo, hd3.rdo, hd3.sbo]) <;> rfl) (by rw [p_3]; rfl)) ?_
        refine OpsG.want (by rfl) (by rfl) (by (try simp only [rdF, rd_none, rd_same, rd_ne, ne_eq, Nat.reduceEqDiff, not_false_eq_true, Nat.reduceLT, g2, g3, g4, hk1v]) <;> rfl) (o_bin (by (try simp only [rdF, rd_none, rd_same, rd_ne, ne_eq, Nat.reduceEqDiff, not_false_eq_true, Nat.reduceLT, g2, g3, g4, hk1v]) <;> rfl) (by (try simp only [rdF, rd_none, rd_same, rd_ne, ne_eq, Nat.reduceEqDiff, not_false_eq_true, Nat.reduceLT, g2, g3, g4, hk1v]) <;> rfl) binA_gtr) ?_
        refine OpsG.cons (o_pickF (by (try simp only [rdF, rd_none, rd_same, rd_ne, ne_eq, Nat.reduceEqDiff, not_false_eq_true, Nat.reduceLT, g2, g3, g4, hk1v]) <;> rfl) (by (try simp only [rdF, rd_none, rd_same, rd_ne, ne_eq, Nat.reduceEqDiff, not_false_eq_true, Nat.reduceLT, g2, g3, g4, hk1v]) <;> rfl)) ?_
        refine OpsG.nil ?_
        repeat (refine GoP.seq ?_)
        refine GoP.cond (by rfl) (by (try simp only [rdF, rd_none, rd_same, rd_ne, ne_eq, Nat.reduceEqDiff, not_false_eq_true, Nat.reduceLT, g2, g3, g4, hk1v]) <;> rfl) (fun hk5 => ?_) (fun hk5 => ?_)
        ·
          have hky := of_decide_eq_true hk5
          repeat (refine GoP.seq ?_)
          refine GoP.goto ?_
          refine ⟨_, ?_, rfl, rb, sb, rv2, vres, bs.drop 1, _, ls, b, (by (try simp only [rdF, rd_none, rd_same, rd_ne, ne_eq, Nat.reduceEqDiff, not_false_eq_true, Nat.reduceLT, g2, g3, g4, hk1v]) <;> rfl), (by (try simp only [rdF, rd_none, rd_same, rd_ne, ne_eq, Nat.reduceEqDiff, not_false_eq_true, Nat.reduceLT, g2, g3, g4, hk1v]) <;> rfl), (by (try simp only [rdF, rd_none, rd_same, rd_ne, ne_eq, Nat.reduceEqDiff, not_false_eq_true, Nat.reduceLT, g2, g3, g4, hk1v]) <;> rfl), hd3, (by rw [← hL, decS_skip hne (by omega)]), (by rw [List.length_drop]; omega), rfl, rfl⟩
          rw [List.length_drop]; omega
        ·
          have hky := of_decide_eq_false hk5
          have hn0 := rnV_1 hd3.byt
          repeat (refine GoP.seq ?_)
          refine GoP.skip ?_
          repeat (refine GoP.seq ?_)
          refine GoP.region ?_ ?_
          · rfl
          refine OpsG.cons (o_move (by (try simp only [rdF, rd_none, rd_same, rd_ne, ne_eq, Nat.reduceEqDiff, not_false_eq_true, Nat.reduceLT, g2, g3, g4, hk1v]) <;> rfl)) ?_
          refine OpsG.call (by (try simp only [List.map_cons, List.map_nil, rdF, rd_none, rd_same, rd_ne, ne_eq, Nat.reduceEqDiff, not_false_eq_true, Nat.reduceLT, g2, g3, g4, hk1v]) <;> rfl) (hd3.reads (n := 1) (by omega) (by omega)) ?_
          rintro v σ4 ⟨rfl, rv4, hd4⟩
          refine OpsG.cons (o_convert rfl (by (try simp only [rdF, rd_none, rd_same, rd_ne, ne_eq, Nat.reduceEqDiff, not_false_eq_true, Nat.reduceLT, g2, g3, g4, hk1v]) <;> rfl) ((cv_26_3 _).trans (congrArg (fun z => some (Value.int .i64 z)) (wrap64 (by omega) (by omega))))) ?_
          refine OpsG.cons (o_field (by (try simp only [rdF, rd_none, rd_same, rd_ne, ne_eq, Nat.reduceEqDiff, not_false_eq_true, Nat.reduceLT, g2, g3, g4, hk1v]) <;> rfl) (fa_30_1 _ _)) ?_
          refine OpsG.cons (o_store (by (try simp only [rdF, rd_none, rd_same, rd_ne, ne_eq, Nat.reduceEqDiff, not_false_eq_true, Nat.reduceLT, g2, g3, g4, hk1v]) <;> rfl) (by (try simp only [rdF, rd_none, rd_same, rd_ne, ne_eq, Nat.reduceEqDiff, not_false_eq_true, Nat.reduceLT, g2, g3, g4, hk1v]) <;> rfl) (by (try simp (disch := omega) only [St.get_room, St.get_at_eq, St.get_at_ne, St.get_put_eq, St.get_put_ne, St.get_add_eq, St.get_add_ne, St.get_del_ne, St.next_at, St.next_put', St.next_room, St.next_add', St.next_del', hd.rdo, hd.sbo, hd2.rdo, hd2.sbo, hd3.rdo, hd3.sbo, hd4.rdo, hd4.sbo]) <;> rfl) (by simp) s_3 (cl1 rfl) rfl rfl (by simp) (by simp only [splice, List.length_cons, List.length_nil, List.drop_succ_cons, List.drop_zero, List.take_succ_cons, List.take_zero, Nat.reduceAdd, Nat.reduceLeDiff, Nat.zero_add, List.append_nil, List.nil_append, List.cons_append]; rfl)) ?_
          refine OpsG.nil ?_
          repeat (refine GoP.seq ?_)
          refine GoP.name ?_
          rintro σ5 hσ5
          have hd5 : DInv σ1 σ5 rb sb rv4 ((bs.drop 1).drop 1) ((false || decide ((bs.drop 1).length < 1))) [.int .i64 (rnV 1 bs % 8), .int .i64 (rnV 1 (bs.drop 1)), .int .u64 0, .int .u64 0, .int .u64 0, .int .u64 0, .int .u64 0, .int .u64 0, .int .u64 0, .int .u64 0, .int .i64 0, .int .i64 0, .int .u64 0, .int .i64 0] vres (ls.map Stp.cells) b := by rw [hσ5]; exact hd4.put _
          refine GoP.region ?_ ?_
          · rfl
          refine OpsG.cons (o_field (by (try simp only [rdF, rd_none, rd_same, rd_ne, ne_eq, Nat.reduceEqDiff, not_false_eq_true, Nat.reduceLT, g2, g3, g4, hk1v]) <;> rfl) (fa_30_0 _ _)) ?_
          refine OpsG.cons (o_load (by (try simp only [rdF, rd_none, rd_same, rd_ne, ne_eq, Nat.reduceEqDiff, not_false_eq_true, Nat.reduceLT, g2, g3, g4, hk1v]) <;> rfl) (by (try simp (disch := omega) only [St.get_room, St.get_at_eq, St.get_at_ne, St.get_put_eq, St.get_put_ne, St.get_add_eq, St.get_add_ne, St.get_del_ne, St.next_at, St.next_put', St.next_room, St.next_add', St.next_del', hd.rdo, hd.sbo, hd2.rdo, hd2.sbo, hd3.rdo, hd3.sbo, hd4.rdo, hd4.sbo, hd5.rdo, hd5.sbo]) <;> rfl) (by rw [p_3]; rfl)) ?_
          refine OpsG.nil ?_
          repeat (refine GoP.seq ?_)
          refine GoP.block ?_
          repeat (refine GoP.seq ?_)
          refine GoP.region ?_ ?_
          · rfl
          refine OpsG.cons (o_bin (by (try simp only [rdF, rd_none, rd_same, rd_ne, ne_eq, Nat.reduceEqDiff, not_false_eq_true, Nat.reduceLT, g2, g3, g4, hk1v]) <;> rfl) (by (try simp only [rdF, rd_none, rd_same, rd_ne, ne_eq, Nat.reduceEqDiff, not_false_eq_true, Nat.reduceLT, g2, g3, g4, hk1v]) <;> rfl) binA_eql) ?_
          refine OpsG.cons (o_assign (by (try simp only [rdF, rd_none, rd_same, rd_ne, ne_eq, Nat.reduceEqDiff, not_false_eq_true, Nat.reduceLT, g2, g3, g4, hk1v]) <;> rfl)) ?_
          refine OpsG.nil ?_
          repeat (refine GoP.seq ?_)
          refine GoP.cond (by rfl) (by (try simp only [rdF, rd_none, rd_same, rd_ne, ne_eq, Nat.reduceEqDiff, not_false_eq_true, Nat.reduceLT, g2, g3, g4, hk1v]) <;> rfl) (fun hc1 => ?_) (fun hc1 => ?_)
          ·
            have hk1 : (rnV 1 bs % 8) = 1 := by simpa using hc1
            rw [hk1] at hd5
            have hn1 := rnV_1 hd5.byt
            repeat (refine GoP.seq ?_)
            refine GoP.region ?_ ?_
            · rfl
            refine OpsG.cons (o_move (by (try simp only [rdF, rd_none, rd_same, rd_ne, ne_eq, Nat.reduceEqDiff, not_false_eq_true, Nat.reduceLT, g2, g3, g4, hk1v]) <;> rfl)) ?_
            refine OpsG.call (by (try simp only [List.map_cons, List.map_nil, rdF, rd_none, rd_same, rd_ne, ne_eq, Nat.reduceEqDiff, not_false_eq_true, Nat.reduceLT, g2, g3, g4, hk1v]) <;> rfl) (hd5.reads (n := 1) (by omega) (by omega)) ?_
            rintro v σ6 ⟨rfl, rv6, hd6⟩
            have hnn : 0 ≤ (rnV 1 ((bs.drop 1).drop 1) % 9) ∧ (rnV 1 ((bs.drop 1).drop 1) % 9) ≤ 8 := by omega
            refine OpsG.cons (o_convert rfl (by (try simp only [rdF, rd_none, rd_same, rd_ne, ne_eq, Nat.reduceEqDiff, not_false_eq_true, Nat.reduceLT, g2, g3, g4, hk1v]) <;> rfl) ((cv_26_3 _).trans (congrArg (fun z => some (Value.int .i64 z)) (wrap64 (by omega) (by omega))))) ?_
            refine OpsG.cons (o_bin (by (try simp only [rdF, rd_none, rd_same, rd_ne, ne_eq, Nat.reduceEqDiff, not_false_eq_true, Nat.reduceLT, g2, g3, g4, hk1v]) <;> rfl) (by (try simp only [rdF, rd_none, rd_same, rd_ne, ne_eq, Nat.reduceEqDiff, not_false_eq_true, Nat.reduceLT, g2, g3, g4, hk1v]) <;> rfl) (b_rem (by omega) (by omega))) ?_
            refine OpsG.cons (o_assign (by (try simp only [rdF, rd_none, rd_same, rd_ne, ne_eq, Nat.reduceEqDiff, not_false_eq_true, Nat.reduceLT, g2, g3, g4, hk1v]) <;> rfl)) ?_
            refine OpsG.nil ?_
            repeat (refine GoP.seq ?_)
            refine GoP.region ?_ ?_
            · rfl
            refine OpsG.cons (o_move (by (try simp only [rdF, rd_none, rd_same, rd_ne, ne_eq, Nat.reduceEqDiff, not_false_eq_true, Nat.reduceLT, g2, g3, g4, hk1v]) <;> rfl)) ?_
            refine OpsG.cons (o_move (by (try simp only [rdF, rd_none, rd_same, rd_ne, ne_eq, Nat.reduceEqDiff, not_false_eq_true, Nat.reduceLT, g2, g3, g4, hk1v]) <;> rfl)) ?_
            refine OpsG.nil ?_
            repeat (refine GoP.seq ?_)
            refine GoP.block ?_
            repeat (refine GoP.seq ?_)
            refine GoP.loop (fun m t σ => ∃ (j : Nat) (rvj : Value), rdT 82 t 2 = vres ∧ rdT 82 t 3 = .pointer (some ⟨rb, 0, none⟩) ∧ rdT 82 t 4 = .pointer (some ⟨sb, 0, none⟩) ∧ rdT 82 t 40 = .int .i64 (rnV 1 ((bs.drop 1).drop 1) % 9) ∧ rdT 82 t 41 = .int .i64 (j : Int) ∧ ((j : Int) ≤ (rnV 1 ((bs.drop 1).drop 1) % 9)) ∧ (DInv σ1 σ rb sb rvj ((((bs.drop 1).drop 1).drop 1).drop (8 * j)) (((false || decide ((bs.drop 1).length < 1)) || decide (((bs.drop 1).drop 1).length < 1)) || decide ((((bs.drop 1).drop 1).drop 1).length < 8 * j)) (.int .i64 1 :: .int .i64 (rnV 1 (bs.drop 1)) :: (u64s (rg (((bs.drop 1).drop 1).drop 1) j) ++ [.int .i64 0, .int .i64 0, .int .u64 0, .int .i64 0])) vres (ls.map Stp.cells) b) ∧ m = ((rnV 1 ((bs.drop 1).drop 1) % 9)).toNat - j) ?_ (m := ((rnV 1 ((bs.drop 1).drop 1) % 9)).toNat) ?_
            ·
              rintro m t σ7 ⟨j, rvj, g2, g3, g4, g40, g41, hj, hdj, rfl⟩
              repeat (refine GoP.seq ?_)
              refine GoP.region ?_ ?_
              · rfl
              refine OpsG.cons (o_bin (by (try simp only [rdF, rd_none, rd_same, rd_ne, ne_eq, Nat.reduceEqDiff, not_false_eq_true, Nat.reduceLT, g2, g3, g4, g40, g41]) <;> rfl) (by (try simp only [rdF, rd_none, rd_same, rd_ne, ne_eq, Nat.reduceEqDiff, not_false_eq_true, Nat.reduceLT, g2, g3, g4, g40, g41]) <;> rfl) binA_lss) ?_
              refine OpsG.nil ?_
              repeat (refine GoP.seq ?_)
              refine GoP.cond (by rfl) (by (try simp only [rdF, rd_none, rd_same, rd_ne, ne_eq, Nat.reduceEqDiff, not_false_eq_true, Nat.reduceLT, g2, g3, g4, g40, g41]) <;> rfl) (fun hcl => ?_) (fun hcl => ?_)
              ·
                have hjl := of_decide_eq_true hcl
                repeat (refine GoP.seq ?_)
                refine GoP.skip ?_
                repeat (refine GoP.seq ?_)
                refine GoP.block ?_
                repeat (refine GoP.seq ?_)
                refine GoP.region ?_ ?_
                · rfl
                refine OpsG.cons (o_move (by (try simp only [rdF, rd_none, rd_same, rd_ne, ne_eq, Nat.reduceEqDiff, not_false_eq_true, Nat.reduceLT, g2, g3, g4, g40, g41]) <;> rfl)) ?_
                refine OpsG.cons (o_assign (by (try simp only [rdF, rd_none, rd_same, rd_ne, ne_eq, Nat.reduceEqDiff, not_false_eq_true, Nat.reduceLT, g2, g3, g4, g40, g41]) <;> rfl)) ?_
                refine OpsG.nil ?_
                repeat (refine GoP.seq ?_)
                refine GoP.region ?_ ?_
                · rfl
                refine OpsG.cons (o_move (by (try simp only [rdF, rd_none, rd_same, rd_ne, ne_eq, Nat.reduceEqDiff, not_false_eq_true, Nat.reduceLT, g2, g3, g4, g40, g41]) <;> rfl)) ?_
                refine OpsG.cons (o_move (by (try simp only [rdF, rd_none, rd_same, rd_ne, ne_eq, Nat.reduceEqDiff, not_false_eq_true, Nat.reduceLT, g2, g3, g4, g40, g41]) <;> rfl)) ?_
                refine OpsG.call (by (try simp only [List.map_cons, List.map_nil, rdF, rd_none, rd_same, rd_ne, ne_eq, Nat.reduceEqDiff, not_false_eq_true, Nat.reduceLT, g2, g3, g4, g40, g41]) <;> rfl) (hdj.reads (n := 8) (by omega) (by omega)) ?_
                rintro v σ8 ⟨rfl, rv8, hd8⟩
                refine OpsG.cons (o_field (by (try simp only [rdF, rd_none, rd_same, rd_ne, ne_eq, Nat.reduceEqDiff, not_false_eq_true, Nat.reduceLT, g2, g3, g4, g40, g41]) <;> rfl) (fa_30_2 _ _)) ?_
                refine OpsG.cons (o_indexAddr (by (try simp only [rdF, rd_none, rd_same, rd_ne, ne_eq, Nat.reduceEqDiff, not_false_eq_true, Nat.reduceLT, g2, g3, g4, g40, g41]) <;> rfl) (by (try simp only [rdF, rd_none, rd_same, rd_ne, ne_eq, Nat.reduceEqDiff, not_false_eq_true, Nat.reduceLT, g2, g3, g4, g40, g41]) <;> rfl) (by first | (refine ixn_28 ?_; omega) | (refine ixi_28 ?_ ?_ <;> omega))) ?_
                refine OpsG.cons (o_store (by (try simp only [rdF, rd_none, rd_same, rd_ne, ne_eq, Nat.reduceEqDiff, not_false_eq_true, Nat.reduceLT, g2, g3, g4, g40, g41]) <;> rfl) (by (try simp only [rdF, rd_none, rd_same, rd_ne, ne_eq, Nat.reduceEqDiff, not_false_eq_true, Nat.reduceLT, g2, g3, g4, g40, g41]) <;> rfl) (by (try simp (disch := omega) only [St.get_room, St.get_at_eq, St.get_at_ne, St.get_put_eq, St.get_put_ne, St.get_add_eq, St.get_add_ne, St.get_del_ne, St.next_at, St.next_put', St.next_room, St.next_add', St.next_del', hdj.rdo, hdj.sbo, hd8.rdo, hd8.sbo]) <;> rfl) (by simp) s_26 (cl1 rfl) rfl rfl (by simp only [List.length_cons, List.length_append, List.length_map, rg_length (show j ≤ 8 by omega), List.length_nil]; omega) (splice_regs (by rw [rg_length (by omega)]; omega))) ?_
                refine OpsG.nil ?_
                repeat (refine GoP.seq ?_)
                refine GoP.name ?_
                rintro σ9 hσ9
                have hd9 : DInv σ1 σ9 rb sb rv8 ((((bs.drop 1).drop 1).drop 1).drop (8 * (j + 1))) (((false || decide ((bs.drop 1).length < 1)) || decide (((bs.drop 1).drop 1).length < 1)) || decide ((((bs.drop 1).drop 1).drop 1).length < 8 * (j + 1))) (.int .i64 1 :: .int .i64 (rnV 1 (bs.drop 1)) :: (u64s (rg (((bs.drop 1).drop 1).drop 1) (j + 1)) ++ [.int .i64 0, .int .i64 0, .int .u64 0, .int .i64 0])) vres (ls.map Stp.cells) b := by
                            rw [hσ9, ← rg_step (by omega)]
                            have := hd8.put (.int .i64 1 :: .int .i64 (rnV 1 (bs.drop 1)) :: (u64s ((rg (((bs.drop 1).drop 1).drop 1) j).set j (rnV 8 ((((bs.drop 1).drop 1).drop 1).drop (8 * j)))) ++ [.int .i64 0, .int .i64 0, .int .u64 0, .int .i64 0]))
                            have e1 : ∀ l : List Int, (l.drop (8 * j)).drop 8 = l.drop (8 * (j + 1)) := fun l => by rw [List.drop_drop]; congr 1
                            rw [e1] at this
                            rw [sh_next]
                            exact this
                refine GoP.region ?_ ?_
                · rfl
                refine OpsG.cons (o_bin (by (try simp only [rdF, rd_none, rd_same, rd_ne, ne_eq, Nat.reduceEqDiff, not_false_eq_true, Nat.reduceLT, g2, g3, g4, g40, g41]) <;> rfl) (by (try simp only [rdF, rd_none, rd_same, rd_ne, ne_eq, Nat.reduceEqDiff, not_false_eq_true, Nat.reduceLT, g2, g3, g4, g40, g41]) <;> rfl) (by first | (refine b_add64 ?_ ?_ <;> omega) | exact binA_add)) ?_
                refine OpsG.cons (o_move (by (try simp only [rdF, rd_none, rd_same, rd_ne, ne_eq, Nat.reduceEqDiff, not_false_eq_true, Nat.reduceLT, g2, g3, g4, g40, g41]) <;> rfl)) ?_
                refine OpsG.nil ?_
                refine ⟨_, ?_, j + 1, rv8, (by (try simp only [rdF, rd_none, rd_same, rd_ne, ne_eq, Nat.reduceEqDiff, not_false_eq_true, Nat.reduceLT, g2, g3, g4, g40, g41]) <;> rfl), (by (try simp only [rdF, rd_none, rd_same, rd_ne, ne_eq, Nat.reduceEqDiff, not_false_eq_true, Nat.reduceLT, g2, g3, g4, g40, g41]) <;> rfl), (by (try simp only [rdF, rd_none, rd_same, rd_ne, ne_eq, Nat.reduceEqDiff, not_false_eq_true, Nat.reduceLT, g2, g3, g4, g40, g41]) <;> rfl), (by (try simp only [rdF, rd_none, rd_same, rd_ne, ne_eq, Nat.reduceEqDiff, not_false_eq_true, Nat.reduceLT, g2, g3, g4, g40, g41]) <;> rfl), (by (try simp only [rdF, rd_none, rd_same, rd_ne, ne_eq, Nat.reduceEqDiff, not_false_eq_true, Nat.reduceLT, g2, g3, g4, g40, g41]) <;> rfl), by omega, hd9, rfl⟩
                omega
              ·
                have hjl := of_decide_eq_false hcl
                have hje : j = ((rnV 1 ((bs.drop 1).drop 1) % 9)).toNat := by omega
                obtain ⟨q0, q1, q2, q3, q4, q5, q6, q7, hq⟩ := eight (rg_length (l := ((bs.drop 1).drop 1).drop 1) (j := j) (by omega))
                rw [hq] at hdj
                have e3 : ((bs.drop 1).drop 1).drop 1 = bs.drop 3 := by simp only [List.drop_drop]
                rw [e3] at hdj hq
                simp only [List.map_cons, List.map_nil, List.cons_append, List.nil_append] at hdj
                repeat (refine GoP.seq ?_)
                refine GoP.exit ?_
                refine Eq.mpr (if_pos rfl) ?_
                repeat (refine GoP.seq ?_)
                refine GoP.region ?_ ?_
                · rfl
                refine OpsG.cons (o_move (by (try simp only [rdF, rd_none, rd_same, rd_ne, ne_eq, Nat.reduceEqDiff, not_false_eq_true, Nat.reduceLT, g2, g3, g4, g40, g41]) <;> rfl)) ?_
                refine OpsG.cons (o_nil (by (try simp only [rdF, rd_none, rd_same, rd_ne, ne_eq, Nat.reduceEqDiff, not_false_eq_true, Nat.reduceLT, g2, g3, g4, g40, g41]) <;> rfl)) ?_
                refine OpsG.cons (o_field (by (try simp only [rdF, rd_none, rd_same, rd_ne, ne_eq, Nat.reduceEqDiff, not_false_eq_true, Nat.reduceLT, g2, g3, g4, g40, g41]) <;> rfl) (fa_50_1 _ _)) ?_
                refine OpsG.cons (o_load (by (try simp only [rdF, rd_none, rd_same, rd_ne, ne_eq, Nat.reduceEqDiff, not_false_eq_true, Nat.reduceLT, g2, g3, g4, g40, g41]) <;> rfl) (by (try simp (disch := omega) only [St.get_room, St.get_at_eq, St.get_at_ne, St.get_put_eq, St.get_put_ne, St.get_add_eq, St.get_add_ne, St.get_del_ne, St.next_at, St.next_put', St.next_room, St.next_add', St.next_del', hdj.rdo, hdj.sbo]) <;> rfl) (by rw [p_4]; rfl)) ?_
                refine OpsG.nil ?_
                repeat (refine GoP.seq ?_)
                refine GoP.cond (by rfl) (by (try simp only [rdF, rd_none, rd_same, rd_ne, ne_eq, Nat.reduceEqDiff, not_false_eq_true, Nat.reduceLT, g2, g3, g4, g40, g41]) <;> rfl) (fun hs2 => ?_) (fun hs2 => ?_)
                ·
                  simp only [Bool.or_eq_true, Bool.or_eq_false_iff, decide_eq_true_eq, decide_eq_false_iff_not, List.length_drop, Bool.false_or, Bool.false_eq_true, false_or] at hs2
                  have hbn : bodyS (rnV 1 bs % 8) (bs.drop 1) = none := by rw [hk1]; unfold bodyS; rw [if_pos rfl, if_pos (by simp only [List.length_drop, List.drop_drop, Nat.reduceAdd] at hje ⊢; omega)]
                  rw [decS_none hne (by omega) hbn, List.append_nil] at hL
                  repeat (refine GoP.seq ?_)
                  refine GoP.region ?_ ?_
                  · rfl
                  refine OpsG.cons (o_move (by (try simp only [rdF, rd_none, rd_same, rd_ne, ne_eq, Nat.reduceEqDiff, not_false_eq_true, Nat.reduceLT, g2, g3, g4, g40, g41]) <;> rfl)) ?_
                  refine OpsG.cons (o_assign (by (try simp only [rdF, rd_none, rd_same, rd_ne, ne_eq, Nat.reduceEqDiff, not_false_eq_true, Nat.reduceLT, g2, g3, g4, g40, g41]) <;> rfl)) ?_
                  refine OpsG.nil ?_
                  repeat (refine GoP.seq ?_)
                  refine GoP.ret ?_
                  refine ⟨.inl rfl, [vres], ?_, ?_⟩
                  · exact (by (try simp only [resAllF, resOneF, rdF, rd_none, rd_same, rd_ne, ne_eq, Nat.reduceEqDiff, not_false_eq_true, Nat.reduceLT, g2, g3, g4, g40, g41]) <;> rfl)
                  · exact ⟨b, by rw [← hL]; exact hdj.row, hdj.but, fun h => by have := hdj.bn (by rw [← hL] at h; simpa using h); exact ⟨this.1, this.2.1⟩⟩
                ·
                  have hs0 := hs2
                  simp only [Bool.or_eq_true, Bool.or_eq_false_iff, decide_eq_true_eq, decide_eq_false_iff_not, List.length_drop, Bool.false_or, Bool.false_eq_true, false_or] at hs2
                  have hbn : bodyS (rnV 1 bs % 8) (bs.drop 1) = some (.call (rnV 1 (bs.drop 1)) [q0, q1, q2, q3, q4, q5, q6, q7], (bs.drop 3).drop (8 * j)) := by rw [hk1]; unfold bodyS; rw [if_pos rfl, if_neg (by simp only [List.length_drop, List.drop_drop, Nat.reduceAdd] at hje ⊢; omega)]; simp only [List.drop_drop, Nat.reduceAdd] at hje hq ⊢; rw [← hje, ← hq]
                  rw [decS_some hne (by omega) hbn] at hL
                  have hdx := hdj
                  rw [hs0] at hdx
                  have happ := hdx.app (x := (.call (rnV 1 (bs.drop 1)) [q0, q1, q2, q3, q4, q5, q6, q7] : Stp).cells) (by rfl) (by rfl) (by rw [List.length_map]; omega)
                  repeat (refine GoP.seq ?_)
                  refine GoP.skip ?_
                  repeat (refine GoP.seq ?_)
                  refine GoP.region ?_ ?_
                  · rfl
                  refine OpsG.cons (o_move (by (try simp only [rdF, rd_none, rd_same, rd_ne, ne_eq, Nat.reduceEqDiff, not_false_eq_true, Nat.reduceLT, g2, g3, g4, g40, g41]) <;> rfl)) ?_
                  refine OpsG.cons (o_load (by (try simp only [rdF, rd_none, rd_same, rd_ne, ne_eq, Nat.reduceEqDiff, not_false_eq_true, Nat.reduceLT, g2, g3, g4, g40, g41]) <;> rfl) (by (try simp (disch := omega) only [St.get_room, St.get_at_eq, St.get_at_ne, St.get_put_eq, St.get_put_ne, St.get_add_eq, St.get_add_ne, St.get_del_ne, St.next_at, St.next_put', St.next_room, St.next_add', St.next_del', hdj.rdo, hdj.sbo]) <;> rfl) (by rw [p_30]; simp only [List.length_cons, List.length_nil, List.drop_succ_cons, List.drop_zero, List.take_succ_cons, List.take_zero, Nat.reduceAdd, Nat.reduceLeDiff, Nat.zero_add, if_true]; rfl)) ?_
                  refine OpsG.cons (o_makesOf (fun _ => _) rfl (by intro x hx; have e : x = .tmp 79 := (by simpa [Op.operands] using hx); rw [e]; exact (by (try simp only [rdF, rd_none, rd_same, rd_ne, ne_eq, Nat.reduceEqDiff, not_false_eq_true, Nat.reduceLT, g2, g3, g4, g40, g41]) <;> rfl)) (bs23 ..)) ?_
                  refine OpsG.cons (o_append (by (try simp only [List.map_cons, List.map_nil, rdF, rd_none, rd_same, rd_ne, ne_eq, Nat.reduceEqDiff, not_false_eq_true, Nat.reduceLT, g2, g3, g4, g40, g41]) <;> rfl) happ.1) ?_
                  refine OpsG.cons (o_assign (by (try simp only [rdF, rd_none, rd_same, rd_ne, ne_eq, Nat.reduceEqDiff, not_false_eq_true, Nat.reduceLT, g2, g3, g4, g40, g41]) <;> rfl)) ?_
                  refine OpsG.nil ?_
                  repeat (refine GoP.seq ?_)
                  refine GoP.goto ?_
                  refine ⟨_, ?_, rfl, rb, sb, rvj, _, (bs.drop 3).drop (8 * j), _, ls ++ [.call (rnV 1 (bs.drop 1)) [q0, q1, q2, q3, q4, q5, q6, q7]], _, (by (try simp only [rdF, rd_none, rd_same, rd_ne, ne_eq, Nat.reduceEqDiff, not_false_eq_true, Nat.reduceLT, g2, g3, g4, g40, g41]) <;> rfl), (by (try simp only [rdF, rd_none, rd_same, rd_ne, ne_eq, Nat.reduceEqDiff, not_false_eq_true, Nat.reduceLT, g2, g3, g4, g40, g41]) <;> rfl), (by (try simp only [rdF, rd_none, rd_same, rd_ne, ne_eq, Nat.reduceEqDiff, not_false_eq_true, Nat.reduceLT, g2, g3, g4, g40, g41]) <;> rfl), (by rw [List.map_append]; exact happ.2), (by rw [← hL]; simp), (by simp only [List.length_append, List.length_cons, List.length_nil, List.length_drop]; omega), rfl, rfl⟩
                  simp only [List.length_drop]; omega
            ·
              exact ⟨0, rv6, (by (try simp only [rdF, rd_none, rd_same, rd_ne, ne_eq, Nat.reduceEqDiff, not_false_eq_true, Nat.reduceLT, g2, g3, g4, hk1v]) <;> rfl), (by (try simp only [rdF, rd_none, rd_same, rd_ne, ne_eq, Nat.reduceEqDiff, not_false_eq_true, Nat.reduceLT, g2, g3, g4, hk1v]) <;> rfl), (by (try simp only [rdF, rd_none, rd_same, rd_ne, ne_eq, Nat.reduceEqDiff, not_false_eq_true, Nat.reduceLT, g2, g3, g4, hk1v]) <;> rfl), (by (try simp only [rdF, rd_none, rd_same, rd_ne, ne_eq, Nat.reduceEqDiff, not_false_eq_true, Nat.reduceLT, g2, g3, g4, hk1v]) <;> rfl), (by (try simp only [rdF, rd_none, rd_same, rd_ne, ne_eq, Nat.reduceEqDiff, not_false_eq_true, Nat.reduceLT, g2, g3, g4, hk1v]) <;> rfl), by omega, (by simpa [rg, List.replicate] using hd6), (by omega)⟩
          ·
            repeat (refine GoP.seq ?_)
            refine GoP.region ?_ ?_
            · rfl
            refine OpsG.cons (o_bin (by (try simp only [rdF, rd_none, rd_same, rd_ne, ne_eq, Nat.reduceEqDiff, not_false_eq_true, Nat.reduceLT, g2, g3, g4, hk1v]) <;> rfl) (by (try simp only [rdF, rd_none, rd_same, rd_ne, ne_eq, Nat.reduceEqDiff, not_false_eq_true, Nat.reduceLT, g2, g3, g4, hk1v]) <;> rfl) binA_eql) ?_
            refine OpsG.cons (o_assign (by (try simp only [rdF, rd_none, rd_same, rd_ne, ne_eq, Nat.reduceEqDiff, not_false_eq_true, Nat.reduceLT, g2, g3, g4, hk1v]) <;> rfl)) ?_
            refine OpsG.nil ?_
            repeat (refine GoP.seq ?_)
            refine GoP.cond (by rfl) (by (try simp only [rdF, rd_none, rd_same, rd_ne, ne_eq, Nat.reduceEqDiff, not_false_eq_true, Nat.reduceLT, g2, g3, g4, hk1v]) <;> rfl) (fun hc2 => ?_) (fun hc2 => ?_)
            ·
              repeat (refine GoP.seq ?_)
              refine GoP.skip ?_
              repeat (refine GoP.seq ?_)
              refine GoP.cond_true (by rfl) (by (try simp only [rdF, rd_none, rd_same, rd_ne, ne_eq, Nat.reduceEqDiff, not_false_eq_true, Nat.reduceLT, g2, g3, g4, hk1v, hc2]) <;> rfl) ?_
              repeat (refine GoP.seq ?_)
              have hkk : (rnV 1 bs % 8) = 2 := by simpa using hc2
              rw [hkk] at hd5
              have hn1 := rnV_2 hd5.byt
              refine GoP.region ?_ ?_
              · rfl
              refine OpsG.cons (o_move (by (try simp only [rdF, rd_none, rd_same, rd_ne, ne_eq, Nat.reduceEqDiff, not_false_eq_true, Nat.reduceLT, g2, g3, g4, hk1v, hc2]) <;> rfl)) ?_
              refine OpsG.call (by (try simp only [List.map_cons, List.map_nil, rdF, rd_none, rd_same, rd_ne, ne_eq, Nat.reduceEqDiff, not_false_eq_true, Nat.reduceLT, g2, g3, g4, hk1v, hc2]) <;> rfl) (hd5.reads (n := 2) (by omega) (by omega)) ?_
              rintro v σ6 ⟨rfl, rv6, hd6⟩
              have hn2 := rnV_1 hd6.byt
              refine OpsG.cons (o_convert rfl (by (try simp only [rdF, rd_none, rd_same, rd_ne, ne_eq, Nat.reduceEqDiff, not_false_eq_true, Nat.reduceLT, g2, g3, g4, hk1v, hc2]) <;> rfl) ((cv_26_3 _).trans (congrArg (fun z => some (Value.int .i64 z)) (wrap64 (by omega) (by omega))))) ?_
              refine OpsG.cons (o_move (by (try simp only [rdF, rd_none, rd_same, rd_ne, ne_eq, Nat.reduceEqDiff, not_false_eq_true, Nat.reduceLT, g2, g3, g4, hk1v, hc2]) <;> rfl)) ?_
              refine OpsG.call (by (try simp only [List.map_cons, List.map_nil, rdF, rd_none, rd_same, rd_ne, ne_eq, Nat.reduceEqDiff, not_false_eq_true, Nat.reduceLT, g2, g3, g4, hk1v, hc2]) <;> rfl) (hd6.reads (n := 1) (by omega) (by omega)) ?_
              rintro v σ7 ⟨rfl, rv7, hd7⟩
              refine OpsG.cons (o_convert rfl (by (try simp only [rdF, rd_none, rd_same, rd_ne, ne_eq, Nat.reduceEqDiff, not_false_eq_true, Nat.reduceLT, g2, g3, g4, hk1v, hc2]) <;> rfl) ((cv_26_3 _).trans (congrArg (fun z => some (Value.int .i64 z)) (wrap64 (by omega) (by omega))))) ?_
              refine OpsG.cons (o_field (by (try simp only [rdF, rd_none, rd_same, rd_ne, ne_eq, Nat.reduceEqDiff, not_false_eq_true, Nat.reduceLT, g2, g3, g4, hk1v, hc2]) <;> rfl) (fa_30_3 _ _)) ?_
              refine OpsG.cons (o_store (by (try simp only [rdF, rd_none, rd_same, rd_ne, ne_eq, Nat.reduceEqDiff, not_false_eq_true, Nat.reduceLT, g2, g3, g4, hk1v, hc2]) <;> rfl) (by (try simp only [rdF, rd_none, rd_same, rd_ne, ne_eq, Nat.reduceEqDiff, not_false_eq_true, Nat.reduceLT, g2, g3, g4, hk1v, hc2]) <;> rfl) (by (try simp (disch := omega) only [St.get_room, St.get_at_eq, St.get_at_ne, St.get_put_eq, St.get_put_ne, St.get_add_eq, St.get_add_ne, St.get_del_ne, St.next_at, St.next_put', St.next_room, St.next_add', St.next_del', hd.rdo, hd.sbo, hd2.rdo, hd2.sbo, hd3.rdo, hd3.sbo, hd4.rdo, hd4.sbo, hd5.rdo, hd5.sbo, hd6.rdo, hd6.sbo, hd7.rdo, hd7.sbo]) <;> rfl) (by simp) s_3 (cl1 rfl) rfl rfl (by simp) (by simp only [splice, List.length_cons, List.length_nil, List.drop_succ_cons, List.drop_zero, List.take_succ_cons, List.take_zero, Nat.reduceAdd, Nat.reduceLeDiff, Nat.zero_add, List.append_nil, List.nil_append, List.cons_append]; rfl)) ?_
              refine OpsG.cons (o_field (by (try simp only [rdF, rd_none, rd_same, rd_ne, ne_eq, Nat.reduceEqDiff, not_false_eq_true, Nat.reduceLT, g2, g3, g4, hk1v, hc2]) <;> rfl) (fa_30_4 _ _)) ?_
              refine OpsG.cons (o_store (by (try simp only [rdF, rd_none, rd_same, rd_ne, ne_eq, Nat.reduceEqDiff, not_false_eq_true, Nat.reduceLT, g2, g3, g4, hk1v, hc2]) <;> rfl) (by (try simp only [rdF, rd_none, rd_same, rd_ne, ne_eq, Nat.reduceEqDiff, not_false_eq_true, Nat.reduceLT, g2, g3, g4, hk1v, hc2]) <;> rfl) (by (try simp (disch := omega) only [St.get_room, St.get_at_eq, St.get_at_ne, St.get_put_eq, St.get_put_ne, St.get_add_eq, St.get_add_ne, St.get_del_ne, St.next_at, St.next_put', St.next_room, St.next_add', St.next_del', hd.rdo, hd.sbo, hd2.rdo, hd2.sbo, hd3.rdo, hd3.sbo, hd4.rdo, hd4.sbo, hd5.rdo, hd5.sbo, hd6.rdo, hd6.sbo, hd7.rdo, hd7.sbo]) <;> rfl) (by simp) s_3 (cl1 rfl) rfl rfl (by simp) (by simp only [splice, List.length_cons, List.length_nil, List.drop_succ_cons, List.drop_zero, List.take_succ_cons, List.take_zero, Nat.reduceAdd, Nat.reduceLeDiff, Nat.zero_add, List.append_nil, List.nil_append, List.cons_append]; rfl)) ?_
              refine OpsG.nil ?_
              repeat (refine GoP.seq ?_)
              refine GoP.name ?_
              rintro σ8 hσ8
              have hd8 : DInv σ1 σ8 rb sb rv7 ((((bs.drop 1).drop 1).drop 2).drop 1) (((false || decide ((bs.drop 1).length < 1)) || decide (((bs.drop 1).drop 1).length < 2)) || decide ((((bs.drop 1).drop 1).drop 2).length < 1)) [.int .i64 2, .int .i64 (rnV 1 (bs.drop 1)), .int .u64 0, .int .u64 0, .int .u64 0, .int .u64 0, .int .u64 0, .int .u64 0, .int .u64 0, .int .u64 0, .int .i64 (rnV 2 ((bs.drop 1).drop 1)), .int .i64 (rnV 1 (((bs.drop 1).drop 1).drop 2)), .int .u64 0, .int .i64 0] vres (ls.map Stp.cells) b := by rw [hσ8]; exact (hd7.put _).put _
              refine GoP.region ?_ ?_
              · rfl
              refine OpsG.cons (o_field (by (try simp only [rdF, rd_none, rd_same, rd_ne, ne_eq, Nat.reduceEqDiff, not_false_eq_true, Nat.reduceLT, g2, g3, g4, hk1v, hc2]) <;> rfl) (fa_30_0 _ _)) ?_
              refine OpsG.cons (o_load (by (try simp only [rdF, rd_none, rd_same, rd_ne, ne_eq, Nat.reduceEqDiff, not_false_eq_true, Nat.reduceLT, g2, g3, g4, hk1v, hc2]) <;> rfl) (by (try simp (disch := omega) only [St.get_room, St.get_at_eq, St.get_at_ne, St.get_put_eq, St.get_put_ne, St.get_add_eq, St.get_add_ne, St.get_del_ne, St.next_at, St.next_put', St.next_room, St.next_add', St.next_del', hd.rdo, hd.sbo, hd2.rdo, hd2.sbo, hd3.rdo, hd3.sbo, hd4.rdo, hd4.sbo, hd5.rdo, hd5.sbo, hd6.rdo, hd6.sbo, hd7.rdo, hd7.sbo, hd8.rdo, hd8.sbo]) <;> rfl) (by rw [p_3]; rfl)) ?_
              refine OpsG.cons (o_bin (by (try simp only [rdF, rd_none, rd_same, rd_ne, ne_eq, Nat.reduceEqDiff, not_false_eq_true, Nat.reduceLT, g2, g3, g4, hk1v, hc2]) <;> rfl) (by (try simp only [rdF, rd_none, rd_same, rd_ne, ne_eq, Nat.reduceEqDiff, not_false_eq_true, Nat.reduceLT, g2, g3, g4, hk1v, hc2]) <;> rfl) binA_eql) ?_
              refine OpsG.nil ?_
              repeat (refine GoP.seq ?_)
              refine GoP.cond_false (by rfl) (by (try simp only [rdF, rd_none, rd_same, rd_ne, ne_eq, Nat.reduceEqDiff, not_false_eq_true, Nat.reduceLT, g2, g3, g4, hk1v, hc2]) <;> rfl) ?_
              repeat (refine GoP.seq ?_)
              refine GoP.skip ?_
              repeat (refine GoP.seq ?_)
              refine GoP.region ?_ ?_
              · rfl
              refine OpsG.cons (o_move (by (try simp only [rdF, rd_none, rd_same, rd_ne, ne_eq, Nat.reduceEqDiff, not_false_eq_true, Nat.reduceLT, g2, g3, g4, hk1v, hc2]) <;> rfl)) ?_
              refine OpsG.cons (o_nil (by (try simp only [rdF, rd_none, rd_same, rd_ne, ne_eq, Nat.reduceEqDiff, not_false_eq_true, Nat.reduceLT, g2, g3, g4, hk1v, hc2]) <;> rfl)) ?_
              refine OpsG.cons (o_field (by (try simp only [rdF, rd_none, rd_same, rd_ne, ne_eq, Nat.reduceEqDiff, not_false_eq_true, Nat.reduceLT, g2, g3, g4, hk1v, hc2]) <;> rfl) (fa_50_1 _ _)) ?_
              refine OpsG.cons (o_load (by (try simp only [rdF, rd_none, rd_same, rd_ne, ne_eq, Nat.reduceEqDiff, not_false_eq_true, Nat.reduceLT, g2, g3, g4, hk1v, hc2]) <;> rfl) (by (try simp (disch := omega) only [St.get_room, St.get_at_eq, St.get_at_ne, St.get_put_eq, St.get_put_ne, St.get_add_eq, St.get_add_ne, St.get_del_ne, St.next_at, St.next_put', St.next_room, St.next_add', St.next_del', hd.rdo, hd.sbo, hd2.rdo, hd2.sbo, hd3.rdo, hd3.sbo, hd4.rdo, hd4.sbo, hd5.rdo, hd5.sbo, hd6.rdo, hd6.sbo, hd7.rdo, hd7.sbo, hd8.rdo, hd8.sbo]) <;> rfl) (by rw [p_4]; rfl)) ?_
              refine OpsG.nil ?_
              repeat (refine GoP.seq ?_)
              refine GoP.cond (by rfl) (by (try simp only [rdF, rd_none, rd_same, rd_ne, ne_eq, Nat.reduceEqDiff, not_false_eq_true, Nat.reduceLT, g2, g3, g4, hk1v, hc2]) <;> rfl) (fun hs2 => ?_) (fun hs2 => ?_)
              ·
                simp only [Bool.or_eq_true, Bool.or_eq_false_iff, decide_eq_true_eq, decide_eq_false_iff_not, List.length_drop, Bool.false_or, Bool.false_eq_true, false_or] at hs2
                have hbn : bodyS (rnV 1 bs % 8) (bs.drop 1) = none := by rw [hkk]; unfold bodyS; rw [if_neg (by decide), if_pos rfl, if_pos (by rw [List.length_drop]; omega)]
                rw [decS_none hne (by omega) hbn, List.append_nil] at hL
                repeat (refine GoP.seq ?_)
                refine GoP.region ?_ ?_
                · rfl
                refine OpsG.cons (o_move (by (try simp only [rdF, rd_none, rd_same, rd_ne, ne_eq, Nat.reduceEqDiff, not_false_eq_true, Nat.reduceLT, g2, g3, g4, hk1v, hc2]) <;> rfl)) ?_
                refine OpsG.cons (o_assign (by (try simp only [rdF, rd_none, rd_same, rd_ne, ne_eq, Nat.reduceEqDiff, not_false_eq_true, Nat.reduceLT, g2, g3, g4, hk1v, hc2]) <;> rfl)) ?_
                refine OpsG.nil ?_
                repeat (refine GoP.seq ?_)
                refine GoP.ret ?_
                refine ⟨.inl rfl, [vres], ?_, ?_⟩
                · exact (by (try simp only [resAllF, resOneF, rdF, rd_none, rd_same, rd_ne, ne_eq, Nat.reduceEqDiff, not_false_eq_true, Nat.reduceLT, g2, g3, g4, hk1v, hc2]) <;> rfl)
                · exact ⟨b, by rw [← hL]; exact hd8.row, hd8.but, fun h => by have := hd8.bn (by rw [← hL] at h; simpa using h); exact ⟨this.1, this.2.1⟩⟩
              ·
                have hs0 := hs2
                simp only [Bool.or_eq_true, Bool.or_eq_false_iff, decide_eq_true_eq, decide_eq_false_iff_not, List.length_drop, Bool.false_or, Bool.false_eq_true, false_or] at hs2
                simp only [List.drop_drop, Nat.reduceAdd] at hd8
                try simp only [List.drop_drop, Nat.reduceAdd] at hs0
                have hbn : bodyS (rnV 1 bs % 8) (bs.drop 1) = some (.load (rnV 1 (bs.drop 1)) (rnV 2 (bs.drop 2)) (rnV 1 (bs.drop 4)), bs.drop 5) := by rw [hkk]; unfold bodyS; rw [if_neg (by decide), if_pos rfl, if_neg (by rw [List.length_drop]; omega)]; simp only [List.drop_drop, Nat.reduceAdd]
                rw [decS_some hne (by omega) hbn] at hL
                have hdx := hd8
                rw [hs0] at hdx
                have happ := hdx.app (x := (.load (rnV 1 (bs.drop 1)) (rnV 2 (bs.drop 2)) (rnV 1 (bs.drop 4)) : Stp).cells) (by rfl) (by rfl) (by rw [List.length_map]; omega)
                repeat (refine GoP.seq ?_)
                refine GoP.skip ?_
                repeat (refine GoP.seq ?_)
                refine GoP.region ?_ ?_
                · rfl
                refine OpsG.cons (o_move (by (try simp only [rdF, rd_none, rd_same, rd_ne, ne_eq, Nat.reduceEqDiff, not_false_eq_true, Nat.reduceLT, g2, g3, g4, hk1v, hc2]) <;> rfl)) ?_
                refine OpsG.cons (o_load (by (try simp only [rdF, rd_none, rd_same, rd_ne, ne_eq, Nat.reduceEqDiff, not_false_eq_true, Nat.reduceLT, g2, g3, g4, hk1v, hc2]) <;> rfl) (by (try simp (disch := omega) only [St.get_room, St.get_at_eq, St.get_at_ne, St.get_put_eq, St.get_put_ne, St.get_add_eq, St.get_add_ne, St.get_del_ne, St.next_at, St.next_put', St.next_room, St.next_add', St.next_del', hd.rdo, hd.sbo, hd2.rdo, hd2.sbo, hd3.rdo, hd3.sbo, hd4.rdo, hd4.sbo, hd5.rdo, hd5.sbo, hd6.rdo, hd6.sbo, hd7.rdo, hd7.sbo, hd8.rdo, hd8.sbo]) <;> rfl) (by rw [p_30]; simp only [List.length_cons, List.length_nil, List.drop_succ_cons, List.drop_zero, List.take_succ_cons, List.take_zero, Nat.reduceAdd, Nat.reduceLeDiff, Nat.zero_add, if_true]; rfl)) ?_
                refine OpsG.cons (o_makesOf (fun _ => _) rfl (by intro x hx; have e : x = .tmp 79 := (by simpa [Op.operands] using hx); rw [e]; exact (by (try simp only [rdF, rd_none, rd_same, rd_ne, ne_eq, Nat.reduceEqDiff, not_false_eq_true, Nat.reduceLT, g2, g3, g4, hk1v, hc2]) <;> rfl)) (bs23 ..)) ?_
                refine OpsG.cons (o_append (by (try simp only [List.map_cons, List.map_nil, rdF, rd_none, rd_same, rd_ne, ne_eq, Nat.reduceEqDiff, not_false_eq_true, Nat.reduceLT, g2, g3, g4, hk1v, hc2]) <;> rfl) happ.1) ?_
                refine OpsG.cons (o_assign (by (try simp only [rdF, rd_none, rd_same, rd_ne, ne_eq, Nat.reduceEqDiff, not_false_eq_true, Nat.reduceLT, g2, g3, g4, hk1v, hc2]) <;> rfl)) ?_
                refine OpsG.nil ?_
                repeat (refine GoP.seq ?_)
                refine GoP.goto ?_
                refine ⟨_, ?_, rfl, rb, sb, rv7, _, bs.drop 5, _, ls ++ [.load (rnV 1 (bs.drop 1)) (rnV 2 (bs.drop 2)) (rnV 1 (bs.drop 4))], _, (by (try simp only [rdF, rd_none, rd_same, rd_ne, ne_eq, Nat.reduceEqDiff, not_false_eq_true, Nat.reduceLT, g2, g3, g4, hk1v, hc2]) <;> rfl), (by (try simp only [rdF, rd_none, rd_same, rd_ne, ne_eq, Nat.reduceEqDiff, not_false_eq_true, Nat.reduceLT, g2, g3, g4, hk1v, hc2]) <;> rfl), (by (try simp only [rdF, rd_none, rd_same, rd_ne, ne_eq, Nat.reduceEqDiff, not_false_eq_true, Nat.reduceLT, g2, g3, g4, hk1v, hc2]) <;> rfl), (by rw [List.map_append]; exact happ.2), (by rw [← hL]; simp), (by simp only [List.length_append, List.length_cons, List.length_nil, List.length_drop]; omega), rfl, rfl⟩
                simp only [List.length_drop]; omega
            ·
              repeat (refine GoP.seq ?_)
              refine GoP.region ?_ ?_
              · rfl
              refine OpsG.cons (o_bin (by (try simp only [rdF, rd_none, rd_same, rd_ne, ne_eq, Nat.reduceEqDiff, not_false_eq_true, Nat.reduceLT, g2, g3, g4, hk1v]) <;> rfl) (by (try simp only [rdF, rd_none, rd_same, rd_ne, ne_eq, Nat.reduceEqDiff, not_false_eq_true, Nat.reduceLT, g2, g3, g4, hk1v]) <;> rfl) binA_eql) ?_
              refine OpsG.cons (o_assign (by (try simp only [rdF, rd_none, rd_same, rd_ne, ne_eq, Nat.reduceEqDiff, not_false_eq_true, Nat.reduceLT, g2, g3, g4, hk1v]) <;> rfl)) ?_
              refine OpsG.nil ?_
              repeat (refine GoP.seq ?_)
              refine GoP.cond (by rfl) (by (try simp only [rdF, rd_none, rd_same, rd_ne, ne_eq, Nat.reduceEqDiff, not_false_eq_true, Nat.reduceLT, g2, g3, g4, hk1v]) <;> rfl) (fun hc3 => ?_) (fun hc3 => ?_)
              ·
                have hkk : (rnV 1 bs % 8) = 3 := by simpa using hc3
                rw [hkk] at hd5
                have hn1 := rnV_2 hd5.byt
                repeat (refine GoP.seq ?_)
                refine GoP.region ?_ ?_
                · rfl
                refine OpsG.cons (o_move (by (try simp only [rdF, rd_none, rd_same, rd_ne, ne_eq, Nat.reduceEqDiff, not_false_eq_true, Nat.reduceLT, g2, g3, g4, hk1v]) <;> rfl)) ?_
                refine OpsG.call (by (try simp only [List.map_cons, List.map_nil, rdF, rd_none, rd_same, rd_ne, ne_eq, Nat.reduceEqDiff, not_false_eq_true, Nat.reduceLT, g2, g3, g4, hk1v]) <;> rfl) (hd5.reads (n := 2) (by omega) (by omega)) ?_
                rintro v σ6 ⟨rfl, rv6, hd6⟩
                have hn2 := rnV_1 hd6.byt
                refine OpsG.cons (o_convert rfl (by (try simp only [rdF, rd_none, rd_same, rd_ne, ne_eq, Nat.reduceEqDiff, not_false_eq_true, Nat.reduceLT, g2, g3, g4, hk1v]) <;> rfl) ((cv_26_3 _).trans (congrArg (fun z => some (Value.int .i64 z)) (wrap64 (by omega) (by omega))))) ?_
                refine OpsG.cons (o_move (by (try simp only [rdF, rd_none, rd_same, rd_ne, ne_eq, Nat.reduceEqDiff, not_false_eq_true, Nat.reduceLT, g2, g3, g4, hk1v]) <;> rfl)) ?_
                refine OpsG.call (by (try simp only [List.map_cons, List.map_nil, rdF, rd_none, rd_same, rd_ne, ne_eq, Nat.reduceEqDiff, not_false_eq_true, Nat.reduceLT, g2, g3, g4, hk1v]) <;> rfl) (hd6.reads (n := 1) (by omega) (by omega)) ?_
                rintro v σ7 ⟨rfl, rv7, hd7⟩
                refine OpsG.cons (o_convert rfl (by (try simp only [rdF, rd_none, rd_same, rd_ne, ne_eq, Nat.reduceEqDiff, not_false_eq_true, Nat.reduceLT, g2, g3, g4, hk1v]) <;> rfl) ((cv_26_3 _).trans (congrArg (fun z => some (Value.int .i64 z)) (wrap64 (by omega) (by omega))))) ?_
                refine OpsG.cons (o_field (by (try simp only [rdF, rd_none, rd_same, rd_ne, ne_eq, Nat.reduceEqDiff, not_false_eq_true, Nat.reduceLT, g2, g3, g4, hk1v]) <;> rfl) (fa_30_3 _ _)) ?_
                refine OpsG.cons (o_store (by (try simp only [rdF, rd_none, rd_same, rd_ne, ne_eq, Nat.reduceEqDiff, not_false_eq_true, Nat.reduceLT, g2, g3, g4, hk1v]) <;> rfl) (by (try simp only [rdF, rd_none, rd_same, rd_ne, ne_eq, Nat.reduceEqDiff, not_false_eq_true, Nat.reduceLT, g2, g3, g4, hk1v]) <;> rfl) (by (try simp (disch := omega) only [St.get_room, St.get_at_eq, St.get_at_ne, St.get_put_eq, St.get_put_ne, St.get_add_eq, St.get_add_ne, St.get_del_ne, St.next_at, St.next_put', St.next_room, St.next_add', St.next_del', hd.rdo, hd.sbo, hd2.rdo, hd2.sbo, hd3.rdo, hd3.sbo, hd4.rdo, hd4.sbo, hd5.rdo, hd5.sbo, hd6.rdo, hd6.sbo, hd7.rdo, hd7.sbo]) <;> rfl) (by simp) s_3 (cl1 rfl) rfl rfl (by simp) (by simp only [splice, List.length_cons, List.length_nil, List.drop_succ_cons, List.drop_zero, List.take_succ_cons, List.take_zero, Nat.reduceAdd, Nat.reduceLeDiff, Nat.zero_add, List.append_nil, List.nil_append, List.cons_append]; rfl)) ?_
                refine OpsG.cons (o_field (by (try simp only [rdF, rd_none, rd_same, rd_ne, ne_eq, Nat.reduceEqDiff, not_false_eq_true, Nat.reduceLT, g2, g3, g4, hk1v]) <;> rfl) (fa_30_4 _ _)) ?_
                refine OpsG.cons (o_store (by (try simp only [rdF, rd_none, rd_same, rd_ne, ne_eq, Nat.reduceEqDiff, not_false_eq_true, Nat.reduceLT, g2, g3, g4, hk1v]) <;> rfl) (by (try simp only [rdF, rd_none, rd_same, rd_ne, ne_eq, Nat.reduceEqDiff, not_false_eq_true, Nat.reduceLT, g2, g3, g4, hk1v]) <;> rfl) (by (try simp (disch := omega) only [St.get_room, St.get_at_eq, St.get_at_ne, St.get_put_eq, St.get_put_ne, St.get_add_eq, St.get_add_ne, St.get_del_ne, St.next_at, St.next_put', St.next_room, St.next_add', St.next_del', hd.rdo, hd.sbo, hd2.rdo, hd2.sbo, hd3.rdo, hd3.sbo, hd4.rdo, hd4.sbo, hd5.rdo, hd5.sbo, hd6.rdo, hd6.sbo, hd7.rdo, hd7.sbo]) <;> rfl) (by simp) s_3 (cl1 rfl) rfl rfl (by simp) (by simp only [splice, List.length_cons, List.length_nil, List.drop_succ_cons, List.drop_zero, List.take_succ_cons, List.take_zero, Nat.reduceAdd, Nat.reduceLeDiff, Nat.zero_add, List.append_nil, List.nil_append, List.cons_append]; rfl)) ?_
                refine OpsG.nil ?_
                repeat (refine GoP.seq ?_)
                refine GoP.name ?_
                rintro σ8 hσ8
                have hd8 : DInv σ1 σ8 rb sb rv7 ((((bs.drop 1).drop 1).drop 2).drop 1) (((false || decide ((bs.drop 1).length < 1)) || decide (((bs.drop 1).drop 1).length < 2)) || decide ((((bs.drop 1).drop 1).drop 2).length < 1)) [.int .i64 3, .int .i64 (rnV 1 (bs.drop 1)), .int .u64 0, .int .u64 0, .int .u64 0, .int .u64 0, .int .u64 0, .int .u64 0, .int .u64 0, .int .u64 0, .int .i64 (rnV 2 ((bs.drop 1).drop 1)), .int .i64 (rnV 1 (((bs.drop 1).drop 1).drop 2)), .int .u64 0, .int .i64 0] vres (ls.map Stp.cells) b := by rw [hσ8]; exact (hd7.put _).put _
                refine GoP.region ?_ ?_
                · rfl
                refine OpsG.cons (o_field (by (try simp only [rdF, rd_none, rd_same, rd_ne, ne_eq, Nat.reduceEqDiff, not_false_eq_true, Nat.reduceLT, g2, g3, g4, hk1v]) <;> rfl) (fa_30_0 _ _)) ?_
                refine OpsG.cons (o_load (by (try simp only [rdF, rd_none, rd_same, rd_ne, ne_eq, Nat.reduceEqDiff, not_false_eq_true, Nat.reduceLT, g2, g3, g4, hk1v]) <;> rfl) (by (try simp (disch := omega) only [St.get_room, St.get_at_eq, St.get_at_ne, St.get_put_eq, St.get_put_ne, St.get_add_eq, St.get_add_ne, St.get_del_ne, St.next_at, St.next_put', St.next_room, St.next_add', St.next_del', hd.rdo, hd.sbo, hd2.rdo, hd2.sbo, hd3.rdo, hd3.sbo, hd4.rdo, hd4.sbo, hd5.rdo, hd5.sbo, hd6.rdo, hd6.sbo, hd7.rdo, hd7.sbo, hd8.rdo, hd8.sbo]) <;> rfl) (by rw [p_3]; rfl)) ?_
                refine OpsG.cons (o_bin (by (try simp only [rdF, rd_none, rd_same, rd_ne, ne_eq, Nat.reduceEqDiff, not_false_eq_true, Nat.reduceLT, g2, g3, g4, hk1v]) <;> rfl) (by (try simp only [rdF, rd_none, rd_same, rd_ne, ne_eq, Nat.reduceEqDiff, not_false_eq_true, Nat.reduceLT, g2, g3, g4, hk1v]) <;> rfl) binA_eql) ?_
                refine OpsG.nil ?_
                repeat (refine GoP.seq ?_)
                refine GoP.cond_true (by rfl) (by (try simp only [rdF, rd_none, rd_same, rd_ne, ne_eq, Nat.reduceEqDiff, not_false_eq_true, Nat.reduceLT, g2, g3, g4, hk1v]) <;> rfl) ?_
                repeat (refine GoP.seq ?_)
                refine GoP.region ?_ ?_
                · rfl
                refine OpsG.cons (o_move (by (try simp only [rdF, rd_none, rd_same, rd_ne, ne_eq, Nat.reduceEqDiff, not_false_eq_true, Nat.reduceLT, g2, g3, g4, hk1v]) <;> rfl)) ?_
                refine OpsG.call (by (try simp only [List.map_cons, List.map_nil, rdF, rd_none, rd_same, rd_ne, ne_eq, Nat.reduceEqDiff, not_false_eq_true, Nat.reduceLT, g2, g3, g4, hk1v]) <;> rfl) (hd8.reads (n := 8) (by omega) (by omega)) ?_
                rintro v σ9 ⟨rfl, rv9, hd9⟩
                refine OpsG.cons (o_field (by (try simp only [rdF, rd_none, rd_same, rd_ne, ne_eq, Nat.reduceEqDiff, not_false_eq_true, Nat.reduceLT, g2, g3, g4, hk1v]) <;> rfl) (fa_30_5 _ _)) ?_
                refine OpsG.cons (o_store (by (try simp only [rdF, rd_none, rd_same, rd_ne, ne_eq, Nat.reduceEqDiff, not_false_eq_true, Nat.reduceLT, g2, g3, g4, hk1v]) <;> rfl) (by (try simp only [rdF, rd_none, rd_same, rd_ne, ne_eq, Nat.reduceEqDiff, not_false_eq_true, Nat.reduceLT, g2, g3, g4, hk1v]) <;> rfl) (by (try simp (disch := omega) only [St.get_room, St.get_at_eq, St.get_at_ne, St.get_put_eq, St.get_put_ne, St.get_add_eq, St.get_add_ne, St.get_del_ne, St.next_at, St.next_put', St.next_room, St.next_add', St.next_del', hd.rdo, hd.sbo, hd2.rdo, hd2.sbo, hd3.rdo, hd3.sbo, hd4.rdo, hd4.sbo, hd5.rdo, hd5.sbo, hd6.rdo, hd6.sbo, hd7.rdo, hd7.sbo, hd8.rdo, hd8.sbo, hd9.rdo, hd9.sbo]) <;> rfl) (by simp) s_26 (cl1 rfl) rfl rfl (by simp) (by simp only [splice, List.length_cons, List.length_nil, List.drop_succ_cons, List.drop_zero, List.take_succ_cons, List.take_zero, Nat.reduceAdd, Nat.reduceLeDiff, Nat.zero_add, List.append_nil, List.nil_append, List.cons_append]; rfl)) ?_
                refine OpsG.nil ?_
                repeat (refine GoP.seq ?_)
                refine GoP.name ?_
                rintro σ10 hσ10
                have hd10 : DInv σ1 σ10 rb sb rv9 (((((bs.drop 1).drop 1).drop 2).drop 1).drop 8) ((((false || decide ((bs.drop 1).length < 1)) || decide (((bs.drop 1).drop 1).length < 2)) || decide ((((bs.drop 1).drop 1).drop 2).length < 1)) || decide (((((bs.drop 1).drop 1).drop 2).drop 1).length < 8)) [.int .i64 3, .int .i64 (rnV 1 (bs.drop 1)), .int .u64 0, .int .u64 0, .int .u64 0, .int .u64 0, .int .u64 0, .int .u64 0, .int .u64 0, .int .u64 0, .int .i64 (rnV 2 ((bs.drop 1).drop 1)), .int .i64 (rnV 1 (((bs.drop 1).drop 1).drop 2)), .int .u64 (rnV 8 ((((bs.drop 1).drop 1).drop 2).drop 1)), .int .i64 0] vres (ls.map Stp.cells) b := by rw [hσ10]; exact hd9.put _
                refine GoP.region ?_ ?_
                · rfl
                refine OpsG.cons (o_move (by (try simp only [rdF, rd_none, rd_same, rd_ne, ne_eq, Nat.reduceEqDiff, not_false_eq_true, Nat.reduceLT, g2, g3, g4, hk1v]) <;> rfl)) ?_
                refine OpsG.cons (o_nil (by (try simp only [rdF, rd_none, rd_same, rd_ne, ne_eq, Nat.reduceEqDiff, not_false_eq_true, Nat.reduceLT, g2, g3, g4, hk1v]) <;> rfl)) ?_
                refine OpsG.cons (o_field (by (try simp only [rdF, rd_none, rd_same, rd_ne, ne_eq, Nat.reduceEqDiff, not_false_eq_true, Nat.reduceLT, g2, g3, g4, hk1v]) <;> rfl) (fa_50_1 _ _)) ?_
                refine OpsG.cons (o_load (by (try simp only [rdF, rd_none, rd_same, rd_ne, ne_eq, Nat.reduceEqDiff, not_false_eq_true, Nat.reduceLT, g2, g3, g4, hk1v]) <;> rfl) (by (try simp (disch := omega) only [St.get_room, St.get_at_eq, St.get_at_ne, St.get_put_eq, St.get_put_ne, St.get_add_eq, St.get_add_ne, St.get_del_ne, St.next_at, St.next_put', St.next_room, St.next_add', St.next_del', hd.rdo, hd.sbo, hd2.rdo, hd2.sbo, hd3.rdo, hd3.sbo, hd4.rdo, hd4.sbo, hd5.rdo, hd5.sbo, hd6.rdo, hd6.sbo, hd7.rdo, hd7.sbo, hd8.rdo, hd8.sbo, hd9.rdo, hd9.sbo, hd10.rdo, hd10.sbo]) <;> rfl) (by rw [p_4]; rfl)) ?_
                refine OpsG.nil ?_
                repeat (refine GoP.seq ?_)
                refine GoP.cond (by rfl) (by (try simp only [rdF, rd_none, rd_same, rd_ne, ne_eq, Nat.reduceEqDiff, not_false_eq_true, Nat.reduceLT, g2, g3, g4, hk1v]) <;> rfl) (fun hs2 => ?_) (fun hs2 => ?_)
                ·
                  simp only [Bool.or_eq_true, Bool.or_eq_false_iff, decide_eq_true_eq, decide_eq_false_iff_not, List.length_drop, Bool.false_or, Bool.false_eq_true, false_or] at hs2
                  have hbn : bodyS (rnV 1 bs % 8) (bs.drop 1) = none := by rw [hkk]; unfold bodyS; rw [if_neg (by decide), if_neg (by decide), if_pos rfl, if_pos (by rw [List.length_drop]; omega)]
                  rw [decS_none hne (by omega) hbn, List.append_nil] at hL
                  repeat (refine GoP.seq ?_)
                  refine GoP.region ?_ ?_
                  · rfl
                  refine OpsG.cons (o_move (by (try simp only [rdF, rd_none, rd_same, rd_ne, ne_eq, Nat.reduceEqDiff, not_false_eq_true, Nat.reduceLT, g2, g3, g4, hk1v]) <;> rfl)) ?_
                  refine OpsG.cons (o_assign (by (try simp only [rdF, rd_none, rd_same, rd_ne, ne_eq, Nat.reduceEqDiff, not_false_eq_true, Nat.reduceLT, g2, g3, g4, hk1v]) <;> rfl)) ?_
                  refine OpsG.nil ?_
                  repeat (refine GoP.seq ?_)
                  refine GoP.ret ?_
                  refine ⟨.inl rfl, [vres], ?_, ?_⟩
                  · exact (by (try simp only [resAllF, resOneF, rdF, rd_none, rd_same, rd_ne, ne_eq, Nat.reduceEqDiff, not_false_eq_true, Nat.reduceLT, g2, g3, g4, hk1v]) <;> rfl)
                  · exact ⟨b, by rw [← hL]; exact hd10.row, hd10.but, fun h => by have := hd10.bn (by rw [← hL] at h; simpa using h); exact ⟨this.1, this.2.1⟩⟩
                ·
                  have hs0 := hs2
                  simp only [Bool.or_eq_true, Bool.or_eq_false_iff, decide_eq_true_eq, decide_eq_false_iff_not, List.length_drop, Bool.false_or, Bool.false_eq_true, false_or] at hs2
                  simp only [List.drop_drop, Nat.reduceAdd] at hd10
                  try simp only [List.drop_drop, Nat.reduceAdd] at hs0
                  have hbn : bodyS (rnV 1 bs % 8) (bs.drop 1) = some (.store (rnV 1 (bs.drop 1)) (rnV 2 (bs.drop 2)) (rnV 1 (bs.drop 4)) (rnV 8 (bs.drop 5)), bs.drop 13) := by rw [hkk]; unfold bodyS; rw [if_neg (by decide), if_neg (by decide), if_pos rfl, if_neg (by rw [List.length_drop]; omega)]; simp only [List.drop_drop, Nat.reduceAdd]
                  rw [decS_some hne (by omega) hbn] at hL
                  have hdx := hd10
                  rw [hs0] at hdx
                  have happ := hdx.app (x := (.store (rnV 1 (bs.drop 1)) (rnV 2 (bs.drop 2)) (rnV 1 (bs.drop 4)) (rnV 8 (bs.drop 5)) : Stp).cells) (by rfl) (by rfl) (by rw [List.length_map]; omega)
                  repeat (refine GoP.seq ?_)
                  refine GoP.skip ?_
                  repeat (refine GoP.seq ?_)
                  refine GoP.region ?_ ?_
                  · rfl
                  refine OpsG.cons (o_move (by (try simp only [rdF, rd_none, rd_same, rd_ne, ne_eq, Nat.reduceEqDiff, not_false_eq_true, Nat.reduceLT, g2, g3, g4, hk1v]) <;> rfl)) ?_
                  refine OpsG.cons (o_load (by (try simp only [rdF, rd_none, rd_same, rd_ne, ne_eq, Nat.reduceEqDiff, not_false_eq_true, Nat.reduceLT, g2, g3, g4, hk1v]) <;> rfl) (by (try simp (disch := omega) only [St.get_room, St.get_at_eq, St.get_at_ne, St.get_put_eq, St.get_put_ne, St.get_add_eq, St.get_add_ne, St.get_del_ne, St.next_at, St.next_put', St.next_room, St.next_add', St.next_del', hd.rdo, hd.sbo, hd2.rdo, hd2.sbo, hd3.rdo, hd3.sbo, hd4.rdo, hd4.sbo, hd5.rdo, hd5.sbo, hd6.rdo, hd6.sbo, hd7.rdo, hd7.sbo, hd8.rdo, hd8.sbo, hd9.rdo, hd9.sbo, hd10.rdo, hd10.sbo]) <;> rfl) (by rw [p_30]; simp only [List.length_cons, List.length_nil, List.drop_succ_cons, List.drop_zero, List.take_succ_cons, List.take_zero, Nat.reduceAdd, Nat.reduceLeDiff, Nat.zero_add, if_true]; rfl)) ?_
                  refine OpsG.cons (o_makesOf (fun _ => _) rfl (by intro x hx; have e : x = .tmp 79 := (by simpa [Op.operands] using hx); rw [e]; exact (by (try simp only [rdF, rd_none, rd_same, rd_ne, ne_eq, Nat.reduceEqDiff, not_false_eq_true, Nat.reduceLT, g2, g3, g4, hk1v]) <;> rfl)) (bs23 ..)) ?_
                  refine OpsG.cons (o_append (by (try simp only [List.map_cons, List.map_nil, rdF, rd_none, rd_same, rd_ne, ne_eq, Nat.reduceEqDiff, not_false_eq_true, Nat.reduceLT, g2, g3, g4, hk1v]) <;> rfl) happ.1) ?_
                  refine OpsG.cons (o_assign (by (try simp only [rdF, rd_none, rd_same, rd_ne, ne_eq, Nat.reduceEqDiff, not_false_eq_true, Nat.reduceLT, g2, g3, g4, hk1v]) <;> rfl)) ?_
                  refine OpsG.nil ?_
                  repeat (refine GoP.seq ?_)
                  refine GoP.goto ?_
                  refine ⟨_, ?_, rfl, rb, sb, rv9, _, bs.drop 13, _, ls ++ [.store (rnV 1 (bs.drop 1)) (rnV 2 (bs.drop 2)) (rnV 1 (bs.drop 4)) (rnV 8 (bs.drop 5))], _, (by (try simp only [rdF, rd_none, rd_same, rd_ne, ne_eq, Nat.reduceEqDiff, not_false_eq_true, Nat.reduceLT, g2, g3, g4, hk1v]) <;> rfl), (by (try simp only [rdF, rd_none, rd_same, rd_ne, ne_eq, Nat.reduceEqDiff, not_false_eq_true, Nat.reduceLT, g2, g3, g4, hk1v]) <;> rfl), (by (try simp only [rdF, rd_none, rd_same, rd_ne, ne_eq, Nat.reduceEqDiff, not_false_eq_true, Nat.reduceLT, g2, g3, g4, hk1v]) <;> rfl), (by rw [List.map_append]; exact happ.2), (by rw [← hL]; simp), (by simp only [List.length_append, List.length_cons, List.length_nil, List.length_drop]; omega), rfl, rfl⟩
                  simp only [List.length_drop]; omega
              ·
                repeat (refine GoP.seq ?_)
                refine GoP.region ?_ ?_
                · rfl
                refine OpsG.cons (o_bin (by (try simp only [rdF, rd_none, rd_same, rd_ne, ne_eq, Nat.reduceEqDiff, not_false_eq_true, Nat.reduceLT, g2, g3, g4, hk1v]) <;> rfl) (by (try simp only [rdF, rd_none, rd_same, rd_ne, ne_eq, Nat.reduceEqDiff, not_false_eq_true, Nat.reduceLT, g2, g3, g4, hk1v]) <;> rfl) binA_eql) ?_
                refine OpsG.cons (o_assign (by (try simp only [rdF, rd_none, rd_same, rd_ne, ne_eq, Nat.reduceEqDiff, not_false_eq_true, Nat.reduceLT, g2, g3, g4, hk1v]) <;> rfl)) ?_
                refine OpsG.nil ?_
                repeat (refine GoP.seq ?_)
                refine GoP.cond (by rfl) (by (try simp only [rdF, rd_none, rd_same, rd_ne, ne_eq, Nat.reduceEqDiff, not_false_eq_true, Nat.reduceLT, g2, g3, g4, hk1v]) <;> rfl) (fun hc5 => ?_) (fun hc5 => ?_)
                ·
                  have hk5 : (rnV 1 bs % 8) = 5 := by simpa using hc5
                  rw [hk5] at hd5
                  have hn1 := rnV_1 hd5.byt
                  repeat (refine GoP.seq ?_)
                  refine GoP.region ?_ ?_
                  · rfl
                  refine OpsG.cons (o_move (by (try simp only [rdF, rd_none, rd_same, rd_ne, ne_eq, Nat.reduceEqDiff, not_false_eq_true, Nat.reduceLT, g2, g3, g4, hk1v]) <;> rfl)) ?_
                  refine OpsG.call (by (try simp only [List.map_cons, List.map_nil, rdF, rd_none, rd_same, rd_ne, ne_eq, Nat.reduceEqDiff, not_false_eq_true, Nat.reduceLT, g2, g3, g4, hk1v]) <;> rfl) (hd5.reads (n := 1) (by omega) (by omega)) ?_
                  rintro v σ6 ⟨rfl, rv6, hd6⟩
                  refine OpsG.cons (o_convert rfl (by (try simp only [rdF, rd_none, rd_same, rd_ne, ne_eq, Nat.reduceEqDiff, not_false_eq_true, Nat.reduceLT, g2, g3, g4, hk1v]) <;> rfl) ((cv_26_3 _).trans (congrArg (fun z => some (Value.int .i64 z)) (wrap64 (by omega) (by omega))))) ?_
                  refine OpsG.cons (o_field (by (try simp only [rdF, rd_none, rd_same, rd_ne, ne_eq, Nat.reduceEqDiff, not_false_eq_true, Nat.reduceLT, g2, g3, g4, hk1v]) <;> rfl) (fa_30_6 _ _)) ?_
                  refine OpsG.cons (o_store (by (try simp only [rdF, rd_none, rd_same, rd_ne, ne_eq, Nat.reduceEqDiff, not_false_eq_true, Nat.reduceLT, g2, g3, g4, hk1v]) <;> rfl) (by (try simp only [rdF, rd_none, rd_same, rd_ne, ne_eq, Nat.reduceEqDiff, not_false_eq_true, Nat.reduceLT, g2, g3, g4, hk1v]) <;> rfl) (by (try simp (disch := omega) only [St.get_room, St.get_at_eq, St.get_at_ne, St.get_put_eq, St.get_put_ne, St.get_add_eq, St.get_add_ne, St.get_del_ne, St.next_at, St.next_put', St.next_room, St.next_add', St.next_del', hd.rdo, hd.sbo, hd2.rdo, hd2.sbo, hd3.rdo, hd3.sbo, hd4.rdo, hd4.sbo, hd5.rdo, hd5.sbo, hd6.rdo, hd6.sbo]) <;> rfl) (by simp) s_3 (cl1 rfl) rfl rfl (by simp) (by simp only [splice, List.length_cons, List.length_nil, List.drop_succ_cons, List.drop_zero, List.take_succ_cons, List.take_zero, Nat.reduceAdd, Nat.reduceLeDiff, Nat.zero_add, List.append_nil, List.nil_append, List.cons_append]; rfl)) ?_
                  refine OpsG.nil ?_
                  repeat (refine GoP.seq ?_)
                  refine GoP.name ?_
                  rintro σ7 hσ7
                  have hd7 : DInv σ1 σ7 rb sb rv6 (((bs.drop 1).drop 1).drop 1) ((false || decide ((bs.drop 1).length < 1)) || decide (((bs.drop 1).drop 1).length < 1)) [.int .i64 5, .int .i64 (rnV 1 (bs.drop 1)), .int .u64 0, .int .u64 0, .int .u64 0, .int .u64 0, .int .u64 0, .int .u64 0, .int .u64 0, .int .u64 0, .int .i64 0, .int .i64 0, .int .u64 0, .int .i64 (rnV 1 ((bs.drop 1).drop 1))] vres (ls.map Stp.cells) b := by rw [hσ7]; exact hd6.put _
                  refine GoP.region ?_ ?_
                  · rfl
                  refine OpsG.cons (o_move (by (try simp only [rdF, rd_none, rd_same, rd_ne, ne_eq, Nat.reduceEqDiff, not_false_eq_true, Nat.reduceLT, g2, g3, g4, hk1v]) <;> rfl)) ?_
                  refine OpsG.cons (o_nil (by (try simp only [rdF, rd_none, rd_same, rd_ne, ne_eq, Nat.reduceEqDiff, not_false_eq_true, Nat.reduceLT, g2, g3, g4, hk1v]) <;> rfl)) ?_
                  refine OpsG.cons (o_field (by (try simp only [rdF, rd_none, rd_same, rd_ne, ne_eq, Nat.reduceEqDiff, not_false_eq_true, Nat.reduceLT, g2, g3, g4, hk1v]) <;> rfl) (fa_50_1 _ _)) ?_
                  refine OpsG.cons (o_load (by (try simp only [rdF, rd_none, rd_same, rd_ne, ne_eq, Nat.reduceEqDiff, not_false_eq_true, Nat.reduceLT, g2, g3, g4, hk1v]) <;> rfl) (by (try simp (disch := omega) only [St.get_room, St.get_at_eq, St.get_at_ne, St.get_put_eq, St.get_put_ne, St.get_add_eq, St.get_add_ne, St.get_del_ne, St.next_at, St.next_put', St.next_room, St.next_add', St.next_del', hd.rdo, hd.sbo, hd2.rdo, hd2.sbo, hd3.rdo, hd3.sbo, hd4.rdo, hd4.sbo, hd5.rdo, hd5.sbo, hd6.rdo, hd6.sbo, hd7.rdo, hd7.sbo]) <;> rfl) (by rw [p_4]; rfl)) ?_
                  refine OpsG.nil ?_
                  repeat (refine GoP.seq ?_)
                  refine GoP.cond (by rfl) (by (try simp only [rdF, rd_none, rd_same, rd_ne, ne_eq, Nat.reduceEqDiff, not_false_eq_true, Nat.reduceLT, g2, g3, g4, hk1v]) <;> rfl) (fun hs2 => ?_) (fun hs2 => ?_)
                  ·
                    simp only [Bool.or_eq_true, Bool.or_eq_false_iff, decide_eq_true_eq, decide_eq_false_iff_not, List.length_drop, Bool.false_or, Bool.false_eq_true, false_or] at hs2
                    have hbn : bodyS (rnV 1 bs % 8) (bs.drop 1) = none := by rw [hk5]; unfold bodyS; rw [if_neg (by decide), if_neg (by decide), if_neg (by decide), if_neg (by decide), if_pos (by rw [List.length_drop]; omega)]
                    rw [decS_none hne (by omega) hbn, List.append_nil] at hL
                    repeat (refine GoP.seq ?_)
                    refine GoP.region ?_ ?_
                    · rfl
                    refine OpsG.cons (o_move (by (try simp only [rdF, rd_none, rd_same, rd_ne, ne_eq, Nat.reduceEqDiff, not_false_eq_true, Nat.reduceLT, g2, g3, g4, hk1v]) <;> rfl)) ?_
                    refine OpsG.cons (o_assign (by (try simp only [rdF, rd_none, rd_same, rd_ne, ne_eq, Nat.reduceEqDiff, not_false_eq_true, Nat.reduceLT, g2, g3, g4, hk1v]) <;> rfl)) ?_
                    refine OpsG.nil ?_
                    repeat (refine GoP.seq ?_)
                    refine GoP.ret ?_
                    refine ⟨.inl rfl, [vres], ?_, ?_⟩
                    · exact (by (try simp only [resAllF, resOneF, rdF, rd_none, rd_same, rd_ne, ne_eq, Nat.reduceEqDiff, not_false_eq_true, Nat.reduceLT, g2, g3, g4, hk1v]) <;> rfl)
                    · exact ⟨b, by rw [← hL]; exact hd7.row, hd7.but, fun h => by have := hd7.bn (by rw [← hL] at h; simpa using h); exact ⟨this.1, this.2.1⟩⟩
                  ·
                    have hs0 := hs2
                    simp only [Bool.or_eq_true, Bool.or_eq_false_iff, decide_eq_true_eq, decide_eq_false_iff_not, List.length_drop, Bool.false_or, Bool.false_eq_true, false_or] at hs2
                    simp only [List.drop_drop, Nat.reduceAdd] at hd7
                    try simp only [List.drop_drop, Nat.reduceAdd] at hs0
                    have hbn : bodyS (rnV 1 bs % 8) (bs.drop 1) = some (.line (rnV 1 (bs.drop 1)) (rnV 1 (bs.drop 2)), bs.drop 3) := by rw [hk5]; unfold bodyS; rw [if_neg (by decide), if_neg (by decide), if_neg (by decide), if_neg (by decide), if_neg (by rw [List.length_drop]; omega)]; simp only [List.drop_drop, Nat.reduceAdd]
                    rw [decS_some hne (by omega) hbn] at hL
                    have hdx := hd7
                    rw [hs0] at hdx
                    have happ := hdx.app (x := (.line (rnV 1 (bs.drop 1)) (rnV 1 (bs.drop 2)) : Stp).cells) (by rfl) (by rfl) (by rw [List.length_map]; omega)
                    repeat (refine GoP.seq ?_)
                    refine GoP.skip ?_
                    repeat (refine GoP.seq ?_)
                    refine GoP.region ?_ ?_
                    · rfl
                    refine OpsG.cons (o_move (by (try simp only [rdF, rd_none, rd_same, rd_ne, ne_eq, Nat.reduceEqDiff, not_false_eq_true, Nat.reduceLT, g2, g3, g4, hk1v]) <;> rfl)) ?_
                    refine OpsG.cons (o_load (by (try simp only [rdF, rd_none, rd_same, rd_ne, ne_eq, Nat.reduceEqDiff, not_false_eq_true, Nat.reduceLT, g2, g3, g4, hk1v]) <;> rfl) (by (try simp (disch := omega) only [St.get_room, St.get_at_eq, St.get_at_ne, St.get_put_eq, St.get_put_ne, St.get_add_eq, St.get_add_ne, St.get_del_ne, St.next_at, St.next_put', St.next_room, St.next_add', St.next_del', hd.rdo, hd.sbo, hd2.rdo, hd2.sbo, hd3.rdo, hd3.sbo, hd4.rdo, hd4.sbo, hd5.rdo, hd5.sbo, hd6.rdo, hd6.sbo, hd7.rdo, hd7.sbo]) <;> rfl) (by rw [p_30]; simp only [List.length_cons, List.length_nil, List.drop_succ_cons, List.drop_zero, List.take_succ_cons, List.take_zero, Nat.reduceAdd, Nat.reduceLeDiff, Nat.zero_add, if_true]; rfl)) ?_
                    refine OpsG.cons (o_makesOf (fun _ => _) rfl (by intro x hx; have e : x = .tmp 79 := (by simpa [Op.operands] using hx); rw [e]; exact (by (try simp only [rdF, rd_none, rd_same, rd_ne, ne_eq, Nat.reduceEqDiff, not_false_eq_true, Nat.reduceLT, g2, g3, g4, hk1v]) <;> rfl)) (bs23 ..)) ?_
                    refine OpsG.cons (o_append (by (try simp only [List.map_cons, List.map_nil, rdF, rd_none, rd_same, rd_ne, ne_eq, Nat.reduceEqDiff, not_false_eq_true, Nat.reduceLT, g2, g3, g4, hk1v]) <;> rfl) happ.1) ?_
                    refine OpsG.cons (o_assign (by (try simp only [rdF, rd_none, rd_same, rd_ne, ne_eq, Nat.reduceEqDiff, not_false_eq_true, Nat.reduceLT, g2, g3, g4, hk1v]) <;> rfl)) ?_
                    refine OpsG.nil ?_
                    repeat (refine GoP.seq ?_)
                    refine GoP.goto ?_
                    refine ⟨_, ?_, rfl, rb, sb, rv6, _, bs.drop 3, _, ls ++ [.line (rnV 1 (bs.drop 1)) (rnV 1 (bs.drop 2))], _, (by (try simp only [rdF, rd_none, rd_same, rd_ne, ne_eq, Nat.reduceEqDiff, not_false_eq_true, Nat.reduceLT, g2, g3, g4, hk1v]) <;> rfl), (by (try simp only [rdF, rd_none, rd_same, rd_ne, ne_eq, Nat.reduceEqDiff, not_false_eq_true, Nat.reduceLT, g2, g3, g4, hk1v]) <;> rfl), (by (try simp only [rdF, rd_none, rd_same, rd_ne, ne_eq, Nat.reduceEqDiff, not_false_eq_true, Nat.reduceLT, g2, g3, g4, hk1v]) <;> rfl), (by rw [List.map_append]; exact happ.2), (by rw [← hL]; simp), (by simp only [List.length_append, List.length_cons, List.length_nil, List.length_drop]; omega), rfl, rfl⟩
                    simp only [List.length_drop]; omega
                ·
                  have hk4 : (rnV 1 bs % 8) = 4 := by simp at hc1 hc2 hc3 hc5; omega
                  rw [hk4] at hd5
                  repeat (refine GoP.seq ?_)
                  refine GoP.skip ?_
                  repeat (refine GoP.seq ?_)
                  refine GoP.region ?_ ?_
                  · rfl
                  refine OpsG.cons (o_move (by (try simp only [rdF, rd_none, rd_same, rd_ne, ne_eq, Nat.reduceEqDiff, not_false_eq_true, Nat.reduceLT, g2, g3, g4, hk1v]) <;> rfl)) ?_
                  refine OpsG.cons (o_nil (by (try simp only [rdF, rd_none, rd_same, rd_ne, ne_eq, Nat.reduceEqDiff, not_false_eq_true, Nat.reduceLT, g2, g3, g4, hk1v]) <;> rfl)) ?_
                  refine OpsG.cons (o_field (by (try simp only [rdF, rd_none, rd_same, rd_ne, ne_eq, Nat.reduceEqDiff, not_false_eq_true, Nat.reduceLT, g2, g3, g4, hk1v]) <;> rfl) (fa_50_1 _ _)) ?_
                  refine OpsG.cons (o_load (by (try simp only [rdF, rd_none, rd_same, rd_ne, ne_eq, Nat.reduceEqDiff, not_false_eq_true, Nat.reduceLT, g2, g3, g4, hk1v]) <;> rfl) (by (try simp (disch := omega) only [St.get_room, St.get_at_eq, St.get_at_ne, St.get_put_eq, St.get_put_ne, St.get_add_eq, St.get_add_ne, St.get_del_ne, St.next_at, St.next_put', St.next_room, St.next_add', St.next_del', hd.rdo, hd.sbo, hd2.rdo, hd2.sbo, hd3.rdo, hd3.sbo, hd4.rdo, hd4.sbo, hd5.rdo, hd5.sbo]) <;> rfl) (by rw [p_4]; rfl)) ?_
                  refine OpsG.nil ?_
                  repeat (refine GoP.seq ?_)
                  refine GoP.cond (by rfl) (by (try simp only [rdF, rd_none, rd_same, rd_ne, ne_eq, Nat.reduceEqDiff, not_false_eq_true, Nat.reduceLT, g2, g3, g4, hk1v]) <;> rfl) (fun hs2 => ?_) (fun hs2 => ?_)
                  ·
                    simp only [Bool.or_eq_true, Bool.or_eq_false_iff, decide_eq_true_eq, decide_eq_false_iff_not, List.length_drop, Bool.false_or, Bool.false_eq_true, false_or] at hs2
                    have hbn : bodyS (rnV 1 bs % 8) (bs.drop 1) = none := by rw [hk4]; unfold bodyS; rw [if_neg (by decide), if_neg (by decide), if_neg (by decide), if_pos rfl, if_pos (by rw [List.length_drop]; omega)]
                    rw [decS_none hne (by omega) hbn, List.append_nil] at hL
                    repeat (refine GoP.seq ?_)
                    refine GoP.region ?_ ?_
                    · rfl
                    refine OpsG.cons (o_move (by (try simp only [rdF, rd_none, rd_same, rd_ne, ne_eq, Nat.reduceEqDiff, not_false_eq_true, Nat.reduceLT, g2, g3, g4, hk1v]) <;> rfl)) ?_
                    refine OpsG.cons (o_assign (by (try simp only [rdF, rd_none, rd_same, rd_ne, ne_eq, Nat.reduceEqDiff, not_false_eq_true, Nat.reduceLT, g2, g3, g4, hk1v]) <;> rfl)) ?_
                    refine OpsG.nil ?_
                    repeat (refine GoP.seq ?_)
                    refine GoP.ret ?_
                    refine ⟨.inl rfl, [vres], ?_, ?_⟩
                    · exact (by (try simp only [resAllF, resOneF, rdF, rd_none, rd_same, rd_ne, ne_eq, Nat.reduceEqDiff, not_false_eq_true, Nat.reduceLT, g2, g3, g4, hk1v]) <;> rfl)
                    · exact ⟨b, by rw [← hL]; exact hd5.row, hd5.but, fun h => by have := hd5.bn (by rw [← hL] at h; simpa using h); exact ⟨this.1, this.2.1⟩⟩
                  ·
                    have hs0 := hs2
                    simp only [Bool.or_eq_true, Bool.or_eq_false_iff, decide_eq_true_eq, decide_eq_false_iff_not, List.length_drop, Bool.false_or, Bool.false_eq_true, false_or] at hs2
                    simp only [List.drop_drop, Nat.reduceAdd] at hd5
                    try simp only [List.drop_drop, Nat.reduceAdd] at hs0
                    have hbn : bodyS (rnV 1 bs % 8) (bs.drop 1) = some (.tick (rnV 1 (bs.drop 1)), bs.drop 2) := by rw [hk4]; unfold bodyS; rw [if_neg (by decide), if_neg (by decide), if_neg (by decide), if_pos rfl, if_neg (by rw [List.length_drop]; omega)]; simp only [List.drop_drop, Nat.reduceAdd]
                    rw [decS_some hne (by omega) hbn] at hL
                    have hdx := hd5
                    rw [hs0] at hdx
                    have happ := hdx.app (x := (.tick (rnV 1 (bs.drop 1)) : Stp).cells) (by rfl) (by rfl) (by rw [List.length_map]; omega)
                    repeat (refine GoP.seq ?_)
                    refine GoP.skip ?_
                    repeat (refine GoP.seq ?_)
                    refine GoP.region ?_ ?_
                    · rfl
                    refine OpsG.cons (o_move (by (try simp only [rdF, rd_none, rd_same, rd_ne, ne_eq, Nat.reduceEqDiff, not_false_eq_true, Nat.reduceLT, g2, g3, g4, hk1v]) <;> rfl)) ?_
                    refine OpsG.cons (o_load (by (try simp only [rdF, rd_none, rd_same, rd_ne, ne_eq, Nat.reduceEqDiff, not_false_eq_true, Nat.reduceLT, g2, g3, g4, hk1v]) <;> rfl) (by (try simp (disch := omega) only [St.get_room, St.get_at_eq, St.get_at_ne, St.get_put_eq, St.get_put_ne, St.get_add_eq, St.get_add_ne, St.get_del_ne, St.next_at, St.next_put', St.next_room, St.next_add', St.next_del', hd.rdo, hd.sbo, hd2.rdo, hd2.sbo, hd3.rdo, hd3.sbo, hd4.rdo, hd4.sbo, hd5.rdo, hd5.sbo]) <;> rfl) (by rw [p_30]; simp only [List.length_cons, List.length_nil, List.drop_succ_cons, List.drop_zero, List.take_succ_cons, List.take_zero, Nat.reduceAdd, Nat.reduceLeDiff, Nat.zero_add, if_true]; rfl)) ?_
                    refine OpsG.cons (o_makesOf (fun _ => _) rfl (by intro x hx; have e : x = .tmp 79 := (by simpa [Op.operands] using hx); rw [e]; exact (by (try simp only [rdF, rd_none, rd_same, rd_ne, ne_eq, Nat.reduceEqDiff, not_false_eq_true, Nat.reduceLT, g2, g3, g4, hk1v]) <;> rfl)) (bs23 ..)) ?_
                    refine OpsG.cons (o_append (by (try simp only [List.map_cons, List.map_nil, rdF, rd_none, rd_same, rd_ne, ne_eq, Nat.reduceEqDiff, not_false_eq_true, Nat.reduceLT, g2, g3, g4, hk1v]) <;> rfl) happ.1) ?_
                    refine OpsG.cons (o_assign (by (try simp only [rdF, rd_none, rd_same, rd_ne, ne_eq, Nat.reduceEqDiff, not_false_eq_true, Nat.reduceLT, g2, g3, g4, hk1v]) <;> rfl)) ?_
                    refine OpsG.nil ?_
                    repeat (refine GoP.seq ?_)
                    refine GoP.goto ?_
                    refine ⟨_, ?_, rfl, rb, sb, rv4, _, bs.drop 2, _, ls ++ [.tick (rnV 1 (bs.drop 1))], _, (by (try simp only [rdF, rd_none, rd_same, rd_ne, ne_eq, Nat.reduceEqDiff, not_false_eq_true, Nat.reduceLT, g2, g3, g4, hk1v]) <;> rfl), (by (try simp only [rdF, rd_none, rd_same, rd_ne, ne_eq, Nat.reduceEqDiff, not_false_eq_true, Nat.reduceLT, g2, g3, g4, hk1v]) <;> rfl), (by (try simp only [rdF, rd_none, rd_same, rd_ne, ne_eq, Nat.reduceEqDiff, not_false_eq_true, Nat.reduceLT, g2, g3, g4, hk1v]) <;> rfl), (by rw [List.map_append]; exact happ.2), (by rw [← hL]; simp), (by simp only [List.length_append, List.length_cons, List.length_nil, List.length_drop]; omega), rfl, rfl⟩
                    simp only [List.length_drop]; omega
  ·
    repeat (refine GoP.seq ?_)
    refine GoP.region ?_ ?_
    · rfl
    refine OpsG.cons (o_move (by (try simp only [rdF, rd_none, rd_same, rd_ne, ne_eq, Nat.reduceEqDiff, not_false_eq_true, Nat.reduceLT, f0]) <;> rfl)) ?_
    refine OpsG.cons (o_build (by (try simp only [List.map_cons, List.map_nil, rdF, rd_none, rd_same, rd_ne, ne_eq, Nat.reduceEqDiff, not_false_eq_true, Nat.reduceLT, f0]) <;> rfl) (bd_50_0 ..)) ?_
    refine OpsG.cons (o_box (by (try simp only [rdF, rd_none, rd_same, rd_ne, ne_eq, Nat.reduceEqDiff, not_false_eq_true, Nat.reduceLT, f0]) <;> rfl) (cl_2 ..)) ?_
    refine OpsG.cons (o_assign (by (try simp only [rdF, rd_none, rd_same, rd_ne, ne_eq, Nat.reduceEqDiff, not_false_eq_true, Nat.reduceLT, f0]) <;> rfl)) ?_
    refine OpsG.nil ?_
    repeat (refine GoP.seq ?_)
    refine GoP.region ?_ ?_
    · rfl
    refine OpsG.cons (o_alloc z_30 (cl_14 ..)) ?_
    refine OpsG.nil ?_
    repeat (refine GoP.seq ?_)
    refine GoP.label ?_
    repeat (refine GoP.seq ?_)
    refine GoP.name ?_
    rintro σ hσ
    obtain ⟨rb, hrb⟩ : ∃ x, x = σ1.next := ⟨_, rfl⟩
    obtain ⟨sb, hsb⟩ : ∃ x, x = σ1.next + 1 := ⟨_, rfl⟩
    obtain ⟨vres, hvr⟩ : ∃ x : Value, x = .slice none 0 0 := ⟨_, rfl⟩
    obtain ⟨ls, hls⟩ : ∃ x : List Stp, x = [] := ⟨_, rfl⟩
    obtain ⟨b, hb⟩ : ∃ x : Nat, x = 0 := ⟨_, rfl⟩
    obtain ⟨rv, hrv⟩ : ∃ x : Value, x = .slice va bs.length vc := ⟨_, rfl⟩
    obtain ⟨sc, hsc0⟩ : ∃ x : List Value, x = .int .i64 0 :: .int .i64 0 :: (z8 ++ [.int .i64 0, .int .i64 0, .int .u64 0, .int .i64 0]) := ⟨_, rfl⟩
    have hd : DInv σ1 σ rb sb rv bs false sc vres (ls.map Stp.cells) b := by
      subst hrb hsb hvr hls hb hrv hsc0
      rw [hσ]
      refine ⟨((But.refl _ _).at (Nat.le_refl _) (Nat.le_succ _)).at (by simp [St.next_at]) (by simp [St.next_at]), ?_, hv.keep fun c hc => ?_, hby, ?_, ⟨fun x hx => (by cases hx), .inl ⟨rfl, rfl⟩⟩, ?_, ?_, fun h => absurd rfl h, by omega⟩
      · rw [St.get_at_ne (by simp [St.next_at]), St.get_at_eq rfl]
      · rw [St.get_at_ne (by simp [St.next_at]; omega), St.get_at_ne (by omega)]
      · rw [St.get_at_eq (by simp [St.next_at])]
        rfl
      · simp only [St.next_at]; omega
      · simp only [St.next_at]; omega
    have hL : ls ++ decS bs = L := by rw [hls]; exact hLL
    have hln : ls.length + bs.length ≤ 100000 := by rw [hls]; simpa using hlen
    have hsc : sc.length = 14 := by rw [hsc0]; rfl
    refine GoP.nameT ?_
    rintro t hT
    have g2 : rdT 82 t 2 = vres := by rw [hT, hvr]; exact (by (try simp only [rdF, rd_none, rd_same, rd_ne, ne_eq, Nat.reduceEqDiff, not_false_eq_true, Nat.reduceLT, f0]) <;> rfl)
    have g3 : rdT 82 t 3 = .pointer (some ⟨rb, 0, none⟩) := by rw [hT, hrb]; exact (by (try simp only [rdF, rd_none, rd_same, rd_ne, ne_eq, Nat.reduceEqDiff, not_false_eq_true, Nat.reduceLT, f0]) <;> rfl)
    have g4 : rdT 82 t 4 = .pointer (some ⟨sb, 0, none⟩) := by rw [hT, hsb]; exact (by (try simp only [rdF, rd_none, rd_same, rd_ne, ne_eq, Nat.reduceEqDiff, not_false_eq_true, Nat.reduceLT, f0]) <;> rfl)
    have hn0 := rnV_1 hd.byt
    refine GoP.region ?_ ?_
    · rfl
    refine OpsG.cons (o_move (by (try simp only [rdF, rd_none, rd_same, rd_ne, ne_eq, Nat.reduceEqDiff, not_false_eq_true, Nat.reduceLT, g2, g3, g4]) <;> rfl)) ?_
    refine OpsG.call (by (try simp only [List.map_cons, List.map_nil, rdF, rd_none, rd_same, rd_ne, ne_eq, Nat.reduceEqDiff, not_false_eq_true, Nat.reduceLT, g2, g3, g4]) <;> rfl) (hd.reads (n := 1) (by omega) (by omega)) ?_
    rintro v σ2 ⟨rfl, rv2, hd2⟩
    refine OpsG.cons (o_bin (by (try simp only [rdF, rd_none, rd_same, rd_ne, ne_eq, Nat.reduceEqDiff, not_false_eq_true, Nat.reduceLT, g2, g3, g4]) <;> rfl) (by (try simp only [rdF, rd_none, rd_same, rd_ne, ne_eq, Nat.reduceEqDiff, not_false_eq_true, Nat.reduceLT, g2, g3, g4]) <;> rfl) (b_rem (by omega) (by omega))) ?_
    refine OpsG.cons (o_convert rfl (by (try simp only [rdF, rd_none, rd_same, rd_ne, ne_eq, Nat.reduceEqDiff, not_false_eq_true, Nat.reduceLT, g2, g3, g4]) <;> rfl) ((cv_26_3 _).trans (congrArg (fun z => some (Value.int .i64 z)) (wrap64 (by omega) (by omega))))) ?_
    refine OpsG.cons (o_build (by (try simp only [List.map_cons, List.map_nil, rdF, rd_none, rd_same, rd_ne, ne_eq, Nat.reduceEqDiff, not_false_eq_true, Nat.reduceLT, g2, g3, g4]) <;> rfl) (bd_30_0 ..)) ?_
    refine OpsG.cons (o_store (by (try simp only [rdF, rd_none, rd_same, rd_ne, ne_eq, Nat.reduceEqDiff, not_false_eq_true, Nat.reduceLT, g2, g3, g4]) <;> rfl) (by (try simp only [rdF, rd_none, rd_same, rd_ne, ne_eq, Nat.reduceEqDiff, not_false_eq_true, Nat.reduceLT, g2, g3, g4]) <;> rfl) (by (try simp (disch := omega) only [St.get_room, St.get_at_eq, St.get_at_ne, St.get_put_eq, St.get_put_ne, St.get_add_eq, St.get_add_ne, St.get_del_ne, St.next_at, St.next_put', St.next_room, St.next_add', St.next_del', hd.rdo, hd.sbo, hd2.rdo, hd2.sbo]) <;> rfl) (by simp) s_30 (cl_14 ..) rfl rfl (by rw [hsc]; omega) (splice_all (by rw [hsc]; rfl))) ?_
    refine OpsG.nil ?_
    repeat (refine GoP.seq ?_)
    refine GoP.name ?_
    rintro σ3 hσ3
    have hd3 : DInv σ1 σ3 rb sb rv2 (bs.drop 1) (false || decide (bs.length < 1)) [.int .i64 (rnV 1 bs % 8), .int .i64 (0), .int .u64 0, .int .u64 0, .int .u64 0, .int .u64 0, .int .u64 0, .int .u64 0, .int .u64 0, .int .u64 0, .int .i64 0, .int .i64 0, .int .u64 0, .int .i64 0] vres (ls.map Stp.cells) b := by rw [hσ3]; exact hd2.put _
    refine GoP.region ?_ ?_
    · rfl
    refine OpsG.cons (o_move (by (try simp only [rdF, rd_none, rd_same, rd_ne, ne_eq, Nat.reduceEqDiff, not_false_eq_true, Nat.reduceLT, g2, g3, g4]) <;> rfl)) ?_
    refine OpsG.cons (o_nil (by (try simp only [rdF, rd_none, rd_same, rd_ne, ne_eq, Nat.reduceEqDiff, not_false_eq_true, Nat.reduceLT, g2, g3, g4]) <;> rfl)) ?_
    refine OpsG.cons (o_field (by (try simp only [rdF, rd_none, rd_same, rd_ne, ne_eq, Nat.reduceEqDiff, not_false_eq_true, Nat.reduceLT, g2, g3, g4]) <;> rfl) (fa_50_1 _ _)) ?_
    refine OpsG.cons (o_load (by (try simp only [rdF, rd_none, rd_same, rd_ne, ne_eq, Nat.reduceEqDiff, not_false_eq_true, Nat.reduceLT, g2, g3, g4]) <;> rfl) (by (try simp (disch := omega) only [St.get_room, St.get_at_eq, St.get_at_ne, St.get_put_eq, St.get_put_ne, St.get_add_eq, St.get_add_ne, St.get_del_ne, St.next_at, St.next_put', St.next_room, St.next_add', St.next_del', hd.rdo, hd.sbo, hd2.rdo, hd2.sbo, hd3.rdo, hd3.sbo]) <;> rfl) (by rw [p_4]; rfl)) ?_
    refine OpsG.nil ?_
    repeat (refine GoP.seq ?_)
    refine GoP.cond (by rfl) (by (try simp only [rdF, rd_none, rd_same, rd_ne, ne_eq, Nat.reduceEqDiff, not_false_eq_true, Nat.reduceLT, g2, g3, g4]) <;> rfl) (fun hsh => ?_) (fun hsh => ?_)
    ·
      have hbs : bs = [] := List.eq_nil_of_length_eq_zero (by simpa using hsh)
      subst hbs
      rw [decS_nil, List.append_nil] at hL
      repeat (refine GoP.seq ?_)
      refine GoP.region ?_ ?_
      · rfl
      refine OpsG.cons (o_move (by (try simp only [rdF, rd_none, rd_same, rd_ne, ne_eq, Nat.reduceEqDiff, not_false_eq_true, Nat.reduceLT, g2, g3, g4]) <;> rfl)) ?_
      refine OpsG.cons (o_assign (by (try simp only [rdF, rd_none, rd_same, rd_ne, ne_eq, Nat.reduceEqDiff, not_false_eq_true, Nat.reduceLT, g2, g3, g4]) <;> rfl)) ?_
      refine OpsG.nil ?_
      repeat (refine GoP.seq ?_)
      refine GoP.ret ?_
      refine ⟨.inl rfl, [vres], ?_, ?_⟩
      · exact (by (try simp only [resAllF, resOneF, rdF, rd_none, rd_same, rd_ne, ne_eq, Nat.reduceEqDiff, not_false_eq_true, Nat.reduceLT, g2, g3, g4]) <;> rfl)
      · exact ⟨b, by rw [← hL]; exact hd3.row, hd3.but, fun h => by have := hd3.bn (by rw [← hL] at h; simpa using h); exact ⟨this.1, this.2.1⟩⟩
    ·
      rw [hsh] at hd3
      have hne : bs ≠ [] := by intro h; subst h; simp at hsh
      have hpos := List.length_pos_iff.2 hne
      repeat (refine GoP.seq ?_)
      refine GoP.skip ?_
      repeat (refine GoP.seq ?_)
      refine GoP.region ?_ ?_
      · rfl
      refine OpsG.cons (o_field (by (try simp only [rdF, rd_none, rd_same, rd_ne, ne_eq, Nat.reduceEqDiff, not_false_eq_true, Nat.reduceLT, g2, g3, g4]) <;> rfl) (fa_30_0 _ _)) ?_
      refine OpsG.cons (o_load (by (try simp only [rdF, rd_none, rd_same, rd_ne, ne_eq, Nat.reduceEqDiff, not_false_eq_true, Nat.reduceLT, g2, g3, g4]) <;> rfl) (by (try simp (disch := omega) only [St.get_room, St.get_at_eq, St.get_at_ne, St.get_put_eq, St.get_put_ne, St.get_add_eq, St.get_add_ne, St.get_del_ne, St.next_at, St.next_put', St.next_room, St.next_add', St.next_del', hd.rdo, hd.sbo, hd2.rdo, hd2.sbo, hd3.rdo, hd3.sbo]) <;> rfl) (by rw [p_3]; rfl)) ?_
      refine OpsG.cons (o_bin (by (try simp only [rdF, rd_none, rd_same, rd_ne, ne_eq, Nat.reduceEqDiff, not_false_eq_true, Nat.reduceLT, g2, g3, g4]) <;> rfl) (by (try simp only [rdF, rd_none, rd_same, rd_ne, ne_eq, Nat.reduceEqDiff, not_false_eq_true, Nat.reduceLT, g2, g3, g4]) <;> rfl) binA_lss) ?_
      refine OpsG.cons (o_move (by (try simp only [rdF, rd_none, rd_same, rd_ne, ne_eq, Nat.reduceEqDiff, not_false_eq_true, Nat.reduceLT, g2, g3, g4]) <;> rfl)) ?_
      refine OpsG.split (d := 23) (by (try simp only [rdF, rd_none, rd_same, rd_ne, ne_eq, Nat.reduceEqDiff, not_false_eq_true, Nat.reduceLT, g2, g3, g4]) <;> rfl) (fun hk1 hk1v => ?_) (fun hk1 hk1v => ?_)
      ·
        have hkx := of_decide_eq_true hk1
        refine OpsG.skip (by rfl) (by rfl) (by (try simp only [rdF, rd_none, rd_same, rd_ne, ne_eq, Nat.reduceEqDiff, not_false_eq_true, Nat.reduceLT, g2, g3, g4, hk1v]) <;> rfl) ?_
        refine OpsG.skip (by rfl) (by rfl) (by (try simp only [rdF, rd_none, rd_same, rd_ne, ne_eq, Nat.reduceEqDiff, not_false_eq_true, Nat.reduceLT, g2, g3, g4, hk1v]) <;> rfl) ?_
        refine OpsG.skip (by rfl) (by rfl) (by (try simp only [rdF, rd_none, rd_same, rd_ne, ne_eq, Nat.reduceEqDiff, not_false_eq_true, Nat.reduceLT, g2, g3, g4, hk1v]) <;> rfl) ?_
        refine OpsG.cons (o_pickT (by (try simp only [rdF, rd_none, rd_same, rd_ne, ne_eq, Nat.reduceEqDiff, not_false_eq_true, Nat.reduceLT, g2, g3, g4, hk1v]) <;> rfl) (by (try simp only [rdF, rd_none, rd_same, rd_ne, ne_eq, Nat.reduceEqDiff, not_false_eq_true, Nat.reduceLT, g2, g3, g4, hk1v]) <;> rfl)) ?_
        refine OpsG.nil ?_
        repeat (refine GoP.seq ?_)
        refine GoP.cond_true (by rfl) (by (try simp only [rdF, rd_none, rd_same, rd_ne, ne_eq, Nat.reduceEqDiff, not_false_eq_true, Nat.reduceLT, g2, g3, g4, hk1v]) <;> rfl) ?_
        repeat (refine GoP.seq ?_)
        refine GoP.goto ?_
        exact ⟨_, rfl, rb, sb, rv2, vres, bs.drop 1, _, ls, b, (by (try simp only [rdF, rd_none, rd_same, rd_ne, ne_eq, Nat.reduceEqDiff, not_false_eq_true, Nat.reduceLT, g2, g3, g4, hk1v]) <;> rfl), (by (try simp only [rdF, rd_none, rd_same, rd_ne, ne_eq, Nat.reduceEqDiff, not_false_eq_true, Nat.reduceLT, g2, g3, g4, hk1v]) <;> rfl), (by (try simp only [rdF, rd_none, rd_same, rd_ne, ne_eq, Nat.reduceEqDiff, not_false_eq_true, Nat.reduceLT, g2, g3, g4, hk1v]) <;> rfl), hd3, (by rw [← hL, decS_skip hne (by omega)]), (by rw [List.length_drop]; omega), rfl, rfl⟩
      ·
        have hkx := of_decide_eq_false hk1
        refine OpsG.want (by rfl) (by rfl) (by (try simp only [rdF, rd_none, rd_same, rd_ne, ne_eq, Nat.reduceEqDiff, not_false_eq_true, Nat.reduceLT, g2, g3, g4, hk1v]) <;> rfl) (o_field (by (try simp only [rdF, rd_none, rd_same, rd_ne, ne_eq, Nat.reduceEqDiff, not_false_eq_true, Nat.reduceLT, g2, g3, g4, hk1v]) <;> rfl) (fa_30_0 _ _)) ?_
        refine OpsG.want (by rfl) (by rfl) (by (try simp only [rdF, rd_none, rd_same, rd_ne, ne_eq, Nat.reduceEqDiff, not_false_eq_true, Nat.reduceLT, g2, g3, g4, hk1v]) <;> rfl) (o_load (by (try simp only [rdF, rd_none, rd_same, rd_ne, ne_eq, Nat.reduceEqDiff, not_false_eq_true, Nat.reduceLT, g2, g3, g4, hk1v]) <;> rfl) (by (try simp (disch := omega) only [St.get_room, St.get_at_eq, St.get_at_ne, St.get_put_eq, St.get_put_ne, St.get_add_eq, St.get_add_ne, St.get_del_ne, St.next_at, St.next_put', St.next_room, St.next_add', St.next_del', hd.rdo, hd.sbo, hd2.rdo, hd2.sbo, hd3.rdo, hd3.sbo]) <;> rfl) (by rw [p_3]; rfl)) ?_
        refine OpsG.want (by rfl) (by rfl) (by (try simp only [rdF, rd_none, rd_same, rd_ne, ne_eq, Nat.reduceEqDiff, not_false_eq_true, Nat.reduceLT, g2, g3, g4, hk1v]) <;> rfl) (o_bin (by (try simp only [rdF, rd_none, rd_same, rd_ne, ne_eq, Nat.reduceEqDiff, not_false_eq_true, Nat.reduceLT, g2, g3, g4, hk1v]) <;> rfl) (by (try simp only [rdF, rd_none, rd_same, rd_ne, ne_eq, Nat.reduceEqDiff, not_false_eq_true, Nat.reduceLT, g2, g3, g4, hk1v]) <;> rfl) binA_gtr) ?_
        refine OpsG.cons (o_pickF (by (try simp only [rdF, rd_none, rd_same, rd_ne, ne_eq, Nat.reduceEqDiff, not_false_eq_true, Nat.reduceLT, g2, g3, g4, hk1v]) <;> rfl) (by (try simp only [rdF, rd_none, rd_same, rd_ne, ne_eq, Nat.reduceEqDiff, not_false_eq_true, Nat.reduceLT, g2, g3, g4, hk1v]) <;> rfl)) ?_
        refine OpsG.nil ?_
        repeat (refine GoP.seq ?_)
        refine GoP.cond (by rfl) (by (try simp only [rdF, rd_none, rd_same, rd_ne, ne_eq, Nat.reduceEqDiff, not_false_eq_true, Nat.reduceLT, g2, g3, g4, hk1v]) <;> rfl) (fun hk5 => ?_) (fun hk5 => ?_)
        ·
          have hky := of_decide_eq_true hk5
          repeat (refine GoP.seq ?_)
          refine GoP.goto ?_
          exact ⟨_, rfl, rb, sb, rv2, vres, bs.drop 1, _, ls, b, (by (try simp only [rdF, rd_none, rd_same, rd_ne, ne_eq, Nat.reduceEqDiff, not_false_eq_true, Nat.reduceLT, g2, g3, g4, hk1v]) <;> rfl), (by (try simp only [rdF, rd_none, rd_same, rd_ne, ne_eq, Nat.reduceEqDiff, not_false_eq_true, Nat.reduceLT, g2, g3, g4, hk1v]) <;> rfl), (by (try simp only [rdF, rd_none, rd_same, rd_ne, ne_eq, Nat.reduceEqDiff, not_false_eq_true, Nat.reduceLT, g2, g3, g4, hk1v]) <;> rfl), hd3, (by rw [← hL, decS_skip hne (by omega)]), (by rw [List.length_drop]; omega), rfl, rfl⟩
        ·
          have hky := of_decide_eq_false hk5
          have hn0 := rnV_1 hd3.byt
          repeat (refine GoP.seq ?_)
          refine GoP.skip ?_
          repeat (refine GoP.seq ?_)
          refine GoP.region ?_ ?_
          · rfl
          refine OpsG.cons (o_move (by (try simp only [rdF, rd_none, rd_same, rd_ne, ne_eq, Nat.reduceEqDiff, not_false_eq_true, Nat.reduceLT, g2, g3, g4, hk1v]) <;> rfl)) ?_
          refine OpsG.call (by (try simp only [List.map_cons, List.map_nil, rdF, rd_none, rd_same, rd_ne, ne_eq, Nat.reduceEqDiff, not_false_eq_true, Nat.reduceLT, g2, g3, g4, hk1v]) <;> rfl) (hd3.reads (n := 1) (by omega) (by omega)) ?_
          rintro v σ4 ⟨rfl, rv4, hd4⟩
          refine OpsG.cons (o_convert rfl (by (try simp only [rdF, rd_none, rd_same, rd_ne, ne_eq, Nat.reduceEqDiff, not_false_eq_true, Nat.reduceLT, g2, g3, g4, hk1v]) <;> rfl) ((cv_26_3 _).trans (congrArg (fun z => some (Value.int .i64 z)) (wrap64 (by omega) (by omega))))) ?_
          refine OpsG.cons (o_field (by (try simp only [rdF, rd_none, rd_same, rd_ne, ne_eq, Nat.reduceEqDiff, not_false_eq_true, Nat.reduceLT, g2, g3, g4, hk1v]) <;> rfl) (fa_30_1 _ _)) ?_
          refine OpsG.cons (o_store (by (try simp only [rdF, rd_none, rd_same, rd_ne, ne_eq, Nat.reduceEqDiff, not_false_eq_true, Nat.reduceLT, g2, g3, g4, hk1v]) <;> rfl) (by (try simp only [rdF, rd_none, rd_same, rd_ne, ne_eq, Nat.reduceEqDiff, not_false_eq_true, Nat.reduceLT, g2, g3, g4, hk1v]) <;> rfl) (by (try simp (disch := omega) only [St.get_room, St.get_at_eq, St.get_at_ne, St.get_put_eq, St.get_put_ne, St.get_add_eq, St.get_add_ne, St.get_del_ne, St.next_at, St.next_put', St.next_room, St.next_add', St.next_del', hd.rdo, hd.sbo, hd2.rdo, hd2.sbo, hd3.rdo, hd3.sbo, hd4.rdo, hd4.sbo]) <;> rfl) (by simp) s_3 (cl1 rfl) rfl rfl (by simp) (by simp only [splice, List.length_cons, List.length_nil, List.drop_succ_cons, List.drop_zero, List.take_succ_cons, List.take_zero, Nat.reduceAdd, Nat.reduceLeDiff, Nat.zero_add, List.append_nil, List.nil_append, List.cons_append]; rfl)) ?_
          refine OpsG.nil ?_
          repeat (refine GoP.seq ?_)
          refine GoP.name ?_
          rintro σ5 hσ5
          have hd5 : DInv σ1 σ5 rb sb rv4 ((bs.drop 1).drop 1) ((false || decide ((bs.drop 1).length < 1))) [.int .i64 (rnV 1 bs % 8), .int .i64 (rnV 1 (bs.drop 1)), .int .u64 0, .int .u64 0, .int .u64 0, .int .u64 0, .int .u64 0, .int .u64 0, .int .u64 0, .int .u64 0, .int .i64 0, .int .i64 0, .int .u64 0, .int .i64 0] vres (ls.map Stp.cells) b := by rw [hσ5]; exact hd4.put _
          refine GoP.region ?_ ?_
          · rfl
          refine OpsG.cons (o_field (by (try simp only [rdF, rd_none, rd_same, rd_ne, ne_eq, Nat.reduceEqDiff, not_false_eq_true, Nat.reduceLT, g2, g3, g4, hk1v]) <;> rfl) (fa_30_0 _ _)) ?_
          refine OpsG.cons (o_load (by (try simp only [rdF, rd_none, rd_same, rd_ne, ne_eq, Nat.reduceEqDiff, not_false_eq_true, Nat.reduceLT, g2, g3, g4, hk1v]) <;> rfl) (by (try simp (disch := omega) only [St.get_room, St.get_at_eq, St.get_at_ne, St.get_put_eq, St.get_put_ne, St.get_add_eq, St.get_add_ne, St.get_del_ne, St.next_at, St.next_put', St.next_room, St.next_add', St.next_del', hd.rdo, hd.sbo, hd2.rdo, hd2.sbo, hd3.rdo, hd3.sbo, hd4.rdo, hd4.sbo, hd5.rdo, hd5.sbo]) <;> rfl) (by rw [p_3]; rfl)) ?_
          refine OpsG.nil ?_
          repeat (refine GoP.seq ?_)
          refine GoP.block ?_
          repeat (refine GoP.seq ?_)
          refine GoP.region ?_ ?_
          · rfl
          refine OpsG.cons (o_bin (by (try simp only [rdF, rd_none, rd_same, rd_ne, ne_eq, Nat.reduceEqDiff, not_false_eq_true, Nat.reduceLT, g2, g3, g4, hk1v]) <;> rfl) (by (try simp only [rdF, rd_none, rd_same, rd_ne, ne_eq, Nat.reduceEqDiff, not_false_eq_true, Nat.reduceLT, g2, g3, g4, hk1v]) <;> rfl) binA_eql) ?_
          refine OpsG.cons (o_assign (by (try simp only [rdF, rd_none, rd_same, rd_ne, ne_eq, Nat.reduceEqDiff, not_false_eq_true, Nat.reduceLT, g2, g3, g4, hk1v]) <;> rfl)) ?_
          refine OpsG.nil ?_
          repeat (refine GoP.seq ?_)
          refine GoP.cond (by rfl) (by (try simp only [rdF, rd_none, rd_same, rd_ne, ne_eq, Nat.reduceEqDiff, not_false_eq_true, Nat.reduceLT, g2, g3, g4, hk1v]) <;> rfl) (fun hc1 => ?_) (fun hc1 => ?_)
          ·
            have hk1 : (rnV 1 bs % 8) = 1 := by simpa using hc1
            rw [hk1] at hd5
            have hn1 := rnV_1 hd5.byt
            repeat (refine GoP.seq ?_)
            refine GoP.region ?_ ?_
            · rfl
            refine OpsG.cons (o_move (by (try simp only [rdF, rd_none, rd_same, rd_ne, ne_eq, Nat.reduceEqDiff, not_false_eq_true, Nat.reduceLT, g2, g3, g4, hk1v]) <;> rfl)) ?_
            refine OpsG.call (by (try simp only [List.map_cons, List.map_nil, rdF, rd_none, rd_same, rd_ne, ne_eq, Nat.reduceEqDiff, not_false_eq_true, Nat.reduceLT, g2, g3, g4, hk1v]) <;> rfl) (hd5.reads (n := 1) (by omega) (by omega)) ?_
            rintro v σ6 ⟨rfl, rv6, hd6⟩
            have hnn : 0 ≤ (rnV 1 ((bs.drop 1).drop 1) % 9) ∧ (rnV 1 ((bs.drop 1).drop 1) % 9) ≤ 8 := by omega
            refine OpsG.cons (o_convert rfl (by (try simp only [rdF, rd_none, rd_same, rd_ne, ne_eq, Nat.reduceEqDiff, not_false_eq_true, Nat.reduceLT, g2, g3, g4, hk1v]) <;> rfl) ((cv_26_3 _).trans (congrArg (fun z => some (Value.int .i64 z)) (wrap64 (by omega) (by omega))))) ?_
            refine OpsG.cons (o_bin (by (try simp only [rdF, rd_none, rd_same, rd_ne, ne_eq, Nat.reduceEqDiff, not_false_eq_true, Nat.reduceLT, g2, g3, g4, hk1v]) <;> rfl) (by (try simp only [rdF, rd_none, rd_same, rd_ne, ne_eq, Nat.reduceEqDiff, not_false_eq_true, Nat.reduceLT, g2, g3, g4, hk1v]) <;> rfl) (b_rem (by omega) (by omega))) ?_
            refine OpsG.cons (o_assign (by (try simp only [rdF, rd_none, rd_same, rd_ne, ne_eq, Nat.reduceEqDiff, not_false_eq_true, Nat.reduceLT, g2, g3, g4, hk1v]) <;> rfl)) ?_
            refine OpsG.nil ?_
            repeat (refine GoP.seq ?_)
            refine GoP.region ?_ ?_
            · rfl
            refine OpsG.cons (o_move (by (try simp only [rdF, rd_none, rd_same, rd_ne, ne_eq, Nat.reduceEqDiff, not_false_eq_true, Nat.reduceLT, g2, g3, g4, hk1v]) <;> rfl)) ?_
            refine OpsG.cons (o_move (by (try simp only [rdF, rd_none, rd_same, rd_ne, ne_eq, Nat.reduceEqDiff, not_false_eq_true, Nat.reduceLT, g2, g3, g4, hk1v]) <;> rfl)) ?_
            refine OpsG.nil ?_
            repeat (refine GoP.seq ?_)
            refine GoP.block ?_
            repeat (refine GoP.seq ?_)
            refine GoP.loop (fun m t σ => ∃ (j : Nat) (rvj : Value), rdT 82 t 2 = vres ∧ rdT 82 t 3 = .pointer (some ⟨rb, 0, none⟩) ∧ rdT 82 t 4 = .pointer (some ⟨sb, 0, none⟩) ∧ rdT 82 t 40 = .int .i64 (rnV 1 ((bs.drop 1).drop 1) % 9) ∧ rdT 82 t 41 = .int .i64 (j : Int) ∧ ((j : Int) ≤ (rnV 1 ((bs.drop 1).drop 1) % 9)) ∧ (DInv σ1 σ rb sb rvj ((((bs.drop 1).drop 1).drop 1).drop (8 * j)) (((false || decide ((bs.drop 1).length < 1)) || decide (((bs.drop 1).drop 1).length < 1)) || decide ((((bs.drop 1).drop 1).drop 1).length < 8 * j)) (.int .i64 1 :: .int .i64 (rnV 1 (bs.drop 1)) :: (u64s (rg (((bs.drop 1).drop 1).drop 1) j) ++ [.int .i64 0, .int .i64 0, .int .u64 0, .int .i64 0])) vres (ls.map Stp.cells) b) ∧ m = ((rnV 1 ((bs.drop 1).drop 1) % 9)).toNat - j) ?_ (m := ((rnV 1 ((bs.drop 1).drop 1) % 9)).toNat) ?_
            ·
              rintro m t σ7 ⟨j, rvj, g2, g3, g4, g40, g41, hj, hdj, rfl⟩
              repeat (refine GoP.seq ?_)
              refine GoP.region ?_ ?_
              · rfl
              refine OpsG.cons (o_bin (by (try simp only [rdF, rd_none, rd_same, rd_ne, ne_eq, Nat.reduceEqDiff, not_false_eq_true, Nat.reduceLT, g2, g3, g4, g40, g41]) <;> rfl) (by (try simp only [rdF, rd_none, rd_same, rd_ne, ne_eq, Nat.reduceEqDiff, not_false_eq_true, Nat.reduceLT, g2, g3, g4, g40, g41]) <;> rfl) binA_lss) ?_
              refine OpsG.nil ?_
              repeat (refine GoP.seq ?_)
              refine GoP.cond (by rfl) (by (try simp only [rdF, rd_none, rd_same, rd_ne, ne_eq, Nat.reduceEqDiff, not_false_eq_true, Nat.reduceLT, g2, g3, g4, g40, g41]) <;> rfl) (fun hcl => ?_) (fun hcl => ?_)
              ·
                have hjl := of_decide_eq_true hcl
                repeat (refine GoP.seq ?_)
                refine GoP.skip ?_
                repeat (refine GoP.seq ?_)
                refine GoP.block ?_
                repeat (refine GoP.seq ?_)
                refine GoP.region ?_ ?_
                · rfl
                refine OpsG.cons (o_move (by (try simp only [rdF, rd_none, rd_same, rd_ne, ne_eq, Nat.reduceEqDiff, not_false_eq_true, Nat.reduceLT, g2, g3, g4, g40, g41]) <;> rfl)) ?_
                refine OpsG.cons (o_assign (by (try simp only [rdF, rd_none, rd_same, rd_ne, ne_eq, Nat.reduceEqDiff, not_false_eq_true, Nat.reduceLT, g2, g3, g4, g40, g41]) <;> rfl)) ?_
                refine OpsG.nil ?_
                repeat (refine GoP.seq ?_)
                refine GoP.region ?_ ?_
                · rfl
                refine OpsG.cons (o_move (by (try simp only [rdF, rd_none, rd_same, rd_ne, ne_eq, Nat.reduceEqDiff, not_false_eq_true, Nat.reduceLT, g2, g3, g4, g40, g41]) <;> rfl)) ?_
                refine OpsG.cons (o_move (by (try simp only [rdF, rd_none, rd_same, rd_ne, ne_eq, Nat.reduceEqDiff, not_false_eq_true, Nat.reduceLT, g2, g3, g4, g40, g41]) <;> rfl)) ?_
                refine OpsG.call (by (try simp only [List.map_cons, List.map_nil, rdF, rd_none, rd_same, rd_ne, ne_eq, Nat.reduceEqDiff, not_false_eq_true, Nat.reduceLT, g2, g3, g4, g40, g41]) <;> rfl) (hdj.reads (n := 8) (by omega) (by omega)) ?_
                rintro v σ8 ⟨rfl, rv8, hd8⟩
                refine OpsG.cons (o_field (by (try simp only [rdF, rd_none, rd_same, rd_ne, ne_eq, Nat.reduceEqDiff, not_false_eq_true, Nat.reduceLT, g2, g3, g4, g40, g41]) <;> rfl) (fa_30_2 _ _)) ?_
                refine OpsG.cons (o_indexAddr (by (try simp only [rdF, rd_none, rd_same, rd_ne, ne_eq, Nat.reduceEqDiff, not_false_eq_true, Nat.reduceLT, g2, g3, g4, g40, g41]) <;> rfl) (by (try simp only [rdF, rd_none, rd_same, rd_ne, ne_eq, Nat.reduceEqDiff, not_false_eq_true, Nat.reduceLT, g2, g3, g4, g40, g41]) <;> rfl) (by first | (refine ixn_28 ?_; omega) | (refine ixi_28 ?_ ?_ <;> omega))) ?_
                refine OpsG.cons (o_store (by (try simp only [rdF, rd_none, rd_same, rd_ne, ne_eq, Nat.reduceEqDiff, not_false_eq_true, Nat.reduceLT, g2, g3, g4, g40, g41]) <;> rfl) (by (try simp only [rdF, rd_none, rd_same, rd_ne, ne_eq, Nat.reduceEqDiff, not_false_eq_true, Nat.reduceLT, g2, g3, g4, g40, g41]) <;> rfl) (by (try simp (disch := omega) only [St.get_room, St.get_at_eq, St.get_at_ne, St.get_put_eq, St.get_put_ne, St.get_add_eq, St.get_add_ne, St.get_del_ne, St.next_at, St.next_put', St.next_room, St.next_add', St.next_del', hdj.rdo, hdj.sbo, hd8.rdo, hd8.sbo]) <;> rfl) (by simp) s_26 (cl1 rfl) rfl rfl (by simp only [List.length_cons, List.length_append, List.length_map, rg_length (show j ≤ 8 by omega), List.length_nil]; omega) (splice_regs (by rw [rg_length (by omega)]; omega))) ?_
                refine OpsG.nil ?_
                repeat (refine GoP.seq ?_)
                refine GoP.name ?_
                rintro σ9 hσ9
                have hd9 : DInv σ1 σ9 rb sb rv8 ((((bs.drop 1).drop 1).drop 1).drop (8 * (j + 1))) (((false || decide ((bs.drop 1).length < 1)) || decide (((bs.drop 1).drop 1).length < 1)) || decide ((((bs.drop 1).drop 1).drop 1).length < 8 * (j + 1))) (.int .i64 1 :: .int .i64 (rnV 1 (bs.drop 1)) :: (u64s (rg (((bs.drop 1).drop 1).drop 1) (j + 1)) ++ [.int .i64 0, .int .i64 0, .int .u64 0, .int .i64 0])) vres (ls.map Stp.cells) b := by
                            rw [hσ9, ← rg_step (by omega)]
                            have := hd8.put (.int .i64 1 :: .int .i64 (rnV 1 (bs.drop 1)) :: (u64s ((rg (((bs.drop 1).drop 1).drop 1) j).set j (rnV 8 ((((bs.drop 1).drop 1).drop 1).drop (8 * j)))) ++ [.int .i64 0, .int .i64 0, .int .u64 0, .int .i64 0]))
                            have e1 : ∀ l : List Int, (l.drop (8 * j)).drop 8 = l.drop (8 * (j + 1)) := fun l => by rw [List.drop_drop]; congr 1
                            rw [e1] at this
                            rw [sh_next]
                            exact this
                refine GoP.region ?_ ?_
                · rfl
                refine OpsG.cons (o_bin (by (try simp only [rdF, rd_none, rd_same, rd_ne, ne_eq, Nat.reduceEqDiff, not_false_eq_true, Nat.reduceLT, g2, g3, g4, g40, g41]) <;> rfl) (by (try simp only [rdF, rd_none, rd_same, rd_ne, ne_eq, Nat.reduceEqDiff, not_false_eq_true, Nat.reduceLT, g2, g3, g4, g40, g41]) <;> rfl) (by first | (refine b_add64 ?_ ?_ <;> omega) | exact binA_add)) ?_
                refine OpsG.cons (o_move (by (try simp only [rdF, rd_none, rd_same, rd_ne, ne_eq, Nat.reduceEqDiff, not_false_eq_true, Nat.reduceLT, g2, g3, g4, g40, g41]) <;> rfl)) ?_
                refine OpsG.nil ?_
                refine ⟨_, ?_, j + 1, rv8, (by (try simp only [rdF, rd_none, rd_same, rd_ne, ne_eq, Nat.reduceEqDiff, not_false_eq_true, Nat.reduceLT, g2, g3, g4, g40, g41]) <;> rfl), (by (try simp only [rdF, rd_none, rd_same, rd_ne, ne_eq, Nat.reduceEqDiff, not_false_eq_true, Nat.reduceLT, g2, g3, g4, g40, g41]) <;> rfl), (by (try simp only [rdF, rd_none, rd_same, rd_ne, ne_eq, Nat.reduceEqDiff, not_false_eq_true, Nat.reduceLT, g2, g3, g4, g40, g41]) <;> rfl), (by (try simp only [rdF, rd_none, rd_same, rd_ne, ne_eq, Nat.reduceEqDiff, not_false_eq_true, Nat.reduceLT, g2, g3, g4, g40, g41]) <;> rfl), (by (try simp only [rdF, rd_none, rd_same, rd_ne, ne_eq, Nat.reduceEqDiff, not_false_eq_true, Nat.reduceLT, g2, g3, g4, g40, g41]) <;> rfl), by omega, hd9, rfl⟩
                omega
              ·
                have hjl := of_decide_eq_false hcl
                have hje : j = ((rnV 1 ((bs.drop 1).drop 1) % 9)).toNat := by omega
                obtain ⟨q0, q1, q2, q3, q4, q5, q6, q7, hq⟩ := eight (rg_length (l := ((bs.drop 1).drop 1).drop 1) (j := j) (by omega))
                rw [hq] at hdj
                have e3 : ((bs.drop 1).drop 1).drop 1 = bs.drop 3 := by simp only [List.drop_drop]
                rw [e3] at hdj hq
                simp only [List.map_cons, List.map_nil, List.cons_append, List.nil_append] at hdj
                repeat (refine GoP.seq ?_)
                refine GoP.exit ?_
                refine Eq.mpr (if_pos rfl) ?_
                repeat (refine GoP.seq ?_)
                refine GoP.region ?_ ?_
                · rfl
                refine OpsG.cons (o_move (by (try simp only [rdF, rd_none, rd_same, rd_ne, ne_eq, Nat.reduceEqDiff, not_false_eq_true, Nat.reduceLT, g2, g3, g4, g40, g41]) <;> rfl)) ?_
                refine OpsG.cons (o_nil (by (try simp only [rdF, rd_none, rd_same, rd_ne, ne_eq, Nat.reduceEqDiff, not_false_eq_true, Nat.reduceLT, g2, g3, g4, g40, g41]) <;> rfl)) ?_
                refine OpsG.cons (o_field (by (try simp only [rdF, rd_none, rd_same, rd_ne, ne_eq, Nat.reduceEqDiff, not_false_eq_true, Nat.reduceLT, g2, g3, g4, g40, g41]) <;> rfl) (fa_50_1 _ _)) ?_
                refine OpsG.cons (o_load (by (try simp only [rdF, rd_none, rd_same, rd_ne, ne_eq, Nat.reduceEqDiff, not_false_eq_true, Nat.reduceLT, g2, g3, g4, g40, g41]) <;> rfl) (by (try simp (disch := omega) only [St.get_room, St.get_at_eq, St.get_at_ne, St.get_put_eq, St.get_put_ne, St.get_add_eq, St.get_add_ne, St.get_del_ne, St.next_at, St.next_put', St.next_room, St.next_add', St.next_del', hdj.rdo, hdj.sbo]) <;> rfl) (by rw [p_4]; rfl)) ?_
                refine OpsG.nil ?_
                repeat (refine GoP.seq ?_)
                refine GoP.cond (by rfl) (by (try simp only [rdF, rd_none, rd_same, rd_ne, ne_eq, Nat.reduceEqDiff, not_false_eq_true, Nat.reduceLT, g2, g3, g4, g40, g41]) <;> rfl) (fun hs2 => ?_) (fun hs2 => ?_)
                ·
                  simp only [Bool.or_eq_true, Bool.or_eq_false_iff, decide_eq_true_eq, decide_eq_false_iff_not, List.length_drop, Bool.false_or, Bool.false_eq_true, false_or] at hs2
                  have hbn : bodyS (rnV 1 bs % 8) (bs.drop 1) = none := by rw [hk1]; unfold bodyS; rw [if_pos rfl, if_pos (by simp only [List.length_drop, List.drop_drop, Nat.reduceAdd] at hje ⊢; omega)]
                  rw [decS_none hne (by omega) hbn, List.append_nil] at hL
                  repeat (refine GoP.seq ?_)
                  refine GoP.region ?_ ?_
                  · rfl
                  refine OpsG.cons (o_move (by (try simp only [rdF, rd_none, rd_same, rd_ne, ne_eq, Nat.reduceEqDiff, not_false_eq_true, Nat.reduceLT, g2, g3, g4, g40, g41]) <;> rfl)) ?_
                  refine OpsG.cons (o_assign (by (try simp only [rdF, rd_none, rd_same, rd_ne, ne_eq, Nat.reduceEqDiff, not_false_eq_true, Nat.reduceLT, g2, g3, g4, g40, g41]) <;> rfl)) ?_
                  refine OpsG.nil ?_
                  repeat (refine GoP.seq ?_)
                  refine GoP.ret ?_
                  refine ⟨.inl rfl, [vres], ?_, ?_⟩
                  · exact (by (try simp only [resAllF, resOneF, rdF, rd_none, rd_same, rd_ne, ne_eq, Nat.reduceEqDiff, not_false_eq_true, Nat.reduceLT, g2, g3, g4, g40, g41]) <;> rfl)
                  · exact ⟨b, by rw [← hL]; exact hdj.row, hdj.but, fun h => by have := hdj.bn (by rw [← hL] at h; simpa using h); exact ⟨this.1, this.2.1⟩⟩
                ·
                  have hs0 := hs2
                  simp only [Bool.or_eq_true, Bool.or_eq_false_iff, decide_eq_true_eq, decide_eq_false_iff_not, List.length_drop, Bool.false_or, Bool.false_eq_true, false_or] at hs2
                  have hbn : bodyS (rnV 1 bs % 8) (bs.drop 1) = some (.call (rnV 1 (bs.drop 1)) [q0, q1, q2, q3, q4, q5, q6, q7], (bs.drop 3).drop (8 * j)) := by rw [hk1]; unfold bodyS; rw [if_pos rfl, if_neg (by simp only [List.length_drop, List.drop_drop, Nat.reduceAdd] at hje ⊢; omega)]; simp only [List.drop_drop, Nat.reduceAdd] at hje hq ⊢; rw [← hje, ← hq]
                  rw [decS_some hne (by omega) hbn] at hL
                  have hdx := hdj
                  rw [hs0] at hdx
                  have happ := hdx.app (x := (.call (rnV 1 (bs.drop 1)) [q0, q1, q2, q3, q4, q5, q6, q7] : Stp).cells) (by rfl) (by rfl) (by rw [List.length_map]; omega)
                  repeat (refine GoP.seq ?_)
                  refine GoP.skip ?_
                  repeat (refine GoP.seq ?_)
                  refine GoP.region ?_ ?_
                  · rfl
                  refine OpsG.cons (o_move (by (try simp only [rdF, rd_none, rd_same, rd_ne, ne_eq, Nat.reduceEqDiff, not_false_eq_true, Nat.reduceLT, g2, g3, g4, g40, g41]) <;> rfl)) ?_
                  refine OpsG.cons (o_load (by (try simp only [rdF, rd_none, rd_same, rd_ne, ne_eq, Nat.reduceEqDiff, not_false_eq_true, Nat.reduceLT, g2, g3, g4, g40, g41]) <;> rfl) (by (try simp (disch := omega) only [St.get_room, St.get_at_eq, St.get_at_ne, St.get_put_eq, St.get_put_ne, St.get_add_eq, St.get_add_ne, St.get_del_ne, St.next_at, St.next_put', St.next_room, St.next_add', St.next_del', hdj.rdo, hdj.sbo]) <;> rfl) (by rw [p_30]; simp only [List.length_cons, List.length_nil, List.drop_succ_cons, List.drop_zero, List.take_succ_cons, List.take_zero, Nat.reduceAdd, Nat.reduceLeDiff, Nat.zero_add, if_true]; rfl)) ?_
                  refine OpsG.cons (o_makesOf (fun _ => _) rfl (by intro x hx; have e : x = .tmp 79 := (by simpa [Op.operands] using hx); rw [e]; exact (by (try simp only [rdF, rd_none, rd_same, rd_ne, ne_eq, Nat.reduceEqDiff, not_false_eq_true, Nat.reduceLT, g2, g3, g4, g40, g41]) <;> rfl)) (bs23 ..)) ?_
                  refine OpsG.cons (o_append (by (try simp only [List.map_cons, List.map_nil, rdF, rd_none, rd_same, rd_ne, ne_eq, Nat.reduceEqDiff, not_false_eq_true, Nat.reduceLT, g2, g3, g4, g40, g41]) <;> rfl) happ.1) ?_
                  refine OpsG.cons (o_assign (by (try simp only [rdF, rd_none, rd_same, rd_ne, ne_eq, Nat.reduceEqDiff, not_false_eq_true, Nat.reduceLT, g2, g3, g4, g40, g41]) <;> rfl)) ?_
                  refine OpsG.nil ?_
                  repeat (refine GoP.seq ?_)
                  refine GoP.goto ?_
                  exact ⟨_, rfl, rb, sb, rvj, _, (bs.drop 3).drop (8 * j), _, ls ++ [.call (rnV 1 (bs.drop 1)) [q0, q1, q2, q3, q4, q5, q6, q7]], _, (by (try simp only [rdF, rd_none, rd_same, rd_ne, ne_eq, Nat.reduceEqDiff, not_false_eq_true, Nat.reduceLT, g2, g3, g4, g40, g41]) <;> rfl), (by (try simp only [rdF, rd_none, rd_same, rd_ne, ne_eq, Nat.reduceEqDiff, not_false_eq_true, Nat.reduceLT, g2, g3, g4, g40, g41]) <;> rfl), (by (try simp only [rdF, rd_none, rd_same, rd_ne, ne_eq, Nat.reduceEqDiff, not_false_eq_true, Nat.reduceLT, g2, g3, g4, g40, g41]) <;> rfl), (by rw [List.map_append]; exact happ.2), (by rw [← hL]; simp), (by simp only [List.length_append, List.length_cons, List.length_nil, List.length_drop]; omega), rfl, rfl⟩
            ·
              exact ⟨0, rv6, (by (try simp only [rdF, rd_none, rd_same, rd_ne, ne_eq, Nat.reduceEqDiff, not_false_eq_true, Nat.reduceLT, g2, g3, g4, hk1v]) <;> rfl), (by (try simp only [rdF, rd_none, rd_same, rd_ne, ne_eq, Nat.reduceEqDiff, not_false_eq_true, Nat.reduceLT, g2, g3, g4, hk1v]) <;> rfl), (by (try simp only [rdF, rd_none, rd_same, rd_ne, ne_eq, Nat.reduceEqDiff, not_false_eq_true, Nat.reduceLT, g2, g3, g4, hk1v]) <;> rfl), (by (try simp only [rdF, rd_none, rd_same, rd_ne, ne_eq, Nat.reduceEqDiff, not_false_eq_true, Nat.reduceLT, g2, g3, g4, hk1v]) <;> rfl), (by (try simp only [rdF, rd_none, rd_same, rd_ne, ne_eq, Nat.reduceEqDiff, not_false_eq_true, Nat.reduceLT, g2, g3, g4, hk1v]) <;> rfl), by omega, (by simpa [rg, List.replicate] using hd6), (by omega)⟩
          ·
            repeat (refine GoP.seq ?_)
            refine GoP.region ?_ ?_
            · rfl
            refine OpsG.cons (o_bin (by (try simp only [rdF, rd_none, rd_same, rd_ne, ne_eq, Nat.reduceEqDiff, not_false_eq_true, Nat.reduceLT, g2, g3, g4, hk1v]) <;> rfl) (by (try simp only [rdF, rd_none, rd_same, rd_ne, ne_eq, Nat.reduceEqDiff, not_false_eq_true, Nat.reduceLT, g2, g3, g4, hk1v]) <;> rfl) binA_eql) ?_
            refine OpsG.cons (o_assign (by (try simp only [rdF, rd_none, rd_same, rd_ne, ne_eq, Nat.reduceEqDiff, not_false_eq_true, Nat.reduceLT, g2, g3, g4, hk1v]) <;> rfl)) ?_
            refine OpsG.nil ?_
            repeat (refine GoP.seq ?_)
            refine GoP.cond (by rfl) (by (try simp only [rdF, rd_none, rd_same, rd_ne, ne_eq, Nat.reduceEqDiff, not_false_eq_true, Nat.reduceLT, g2, g3, g4, hk1v]) <;> rfl) (fun hc2 => ?_) (fun hc2 => ?_)
            ·
              repeat (refine GoP.seq ?_)
              refine GoP.skip ?_
              repeat (refine GoP.seq ?_)
              refine GoP.cond_true (by rfl) (by (try simp only [rdF, rd_none, rd_same, rd_ne, ne_eq, Nat.reduceEqDiff, not_false_eq_true, Nat.reduceLT, g2, g3, g4, hk1v, hc2]) <;> rfl) ?_
              repeat (refine GoP.seq ?_)
              have hkk : (rnV 1 bs % 8) = 2 := by simpa using hc2
              rw [hkk] at hd5
              have hn1 := rnV_2 hd5.byt
              refine GoP.region ?_ ?_
              · rfl
              refine OpsG.cons (o_move (by (try simp only [rdF, rd_none, rd_same, rd_ne, ne_eq, Nat.reduceEqDiff, not_false_eq_true, Nat.reduceLT, g2, g3, g4, hk1v, hc2]) <;> rfl)) ?_
              refine OpsG.call (by (try simp only [List.map_cons, List.map_nil, rdF, rd_none, rd_same, rd_ne, ne_eq, Nat.reduceEqDiff, not_false_eq_true, Nat.reduceLT, g2, g3, g4, hk1v, hc2]) <;> rfl) (hd5.reads (n := 2) (by omega) (by omega)) ?_
              rintro v σ6 ⟨rfl, rv6, hd6⟩
              have hn2 := rnV_1 hd6.byt
              refine OpsG.cons (o_convert rfl (by (try simp only [rdF, rd_none, rd_same, rd_ne, ne_eq, Nat.reduceEqDiff, not_false_eq_true, Nat.reduceLT, g2, g3, g4, hk1v, hc2]) <;> rfl) ((cv_26_3 _).trans (congrArg (fun z => some (Value.int .i64 z)) (wrap64 (by omega) (by omega))))) ?_
              refine OpsG.cons (o_move (by (try simp only [rdF, rd_none, rd_same, rd_ne, ne_eq, Nat.reduceEqDiff, not_false_eq_true, Nat.reduceLT, g2, g3, g4, hk1v, hc2]) <;> rfl)) ?_
              refine OpsG.call (by (try simp only [List.map_cons, List.map_nil, rdF, rd_none, rd_same, rd_ne, ne_eq, Nat.reduceEqDiff, not_false_eq_true, Nat.reduceLT, g2, g3, g4, hk1v, hc2]) <;> rfl) (hd6.reads (n := 1) (by omega) (by omega)) ?_
              rintro v σ7 ⟨rfl, rv7, hd7⟩
              refine OpsG.cons (o_convert rfl (by (try simp only [rdF, rd_none, rd_same, rd_ne, ne_eq, Nat.reduceEqDiff, not_false_eq_true, Nat.reduceLT, g2, g3, g4, hk1v, hc2]) <;> rfl) ((cv_26_3 _).trans (congrArg (fun z => some (Value.int .i64 z)) (wrap64 (by omega) (by omega))))) ?_
              refine OpsG.cons (o_field (by (try simp only [rdF, rd_none, rd_same, rd_ne, ne_eq, Nat.reduceEqDiff, not_false_eq_true, Nat.reduceLT, g2, g3, g4, hk1v, hc2]) <;> rfl) (fa_30_3 _ _)) ?_
              refine OpsG.cons (o_store (by (try simp only [rdF, rd_none, rd_same, rd_ne, ne_eq, Nat.reduceEqDiff, not_false_eq_true, Nat.reduceLT, g2, g3, g4, hk1v, hc2]) <;> rfl) (by (try simp only [rdF, rd_none, rd_same, rd_ne, ne_eq, Nat.reduceEqDiff, not_false_eq_true, Nat.reduceLT, g2, g3, g4, hk1v, hc2]) <;> rfl) (by (try simp (disch := omega) only [St.get_room, St.get_at_eq, St.get_at_ne, St.get_put_eq, St.get_put_ne, St.get_add_eq, St.get_add_ne, St.get_del_ne, St.next_at, St.next_put', St.next_room, St.next_add', St.next_del', hd.rdo, hd.sbo, hd2.rdo, hd2.sbo, hd3.rdo, hd3.sbo, hd4.rdo, hd4.sbo, hd5.rdo, hd5.sbo, hd6.rdo, hd6.sbo, hd7.rdo, hd7.sbo]) <;> rfl) (by simp) s_3 (cl1 rfl) rfl rfl (by simp) (by simp only [splice, List.length_cons, List.length_nil, List.drop_succ_cons, List.drop_zero, List.take_succ_cons, List.take_zero, Nat.reduceAdd, Nat.reduceLeDiff, Nat.zero_add, List.append_nil, List.nil_append, List.cons_append]; rfl)) ?_
              refine OpsG.cons (o_field (by (try simp only [rdF, rd_none, rd_same, rd_ne, ne_eq, Nat.reduceEqDiff, not_false_eq_true, Nat.reduceLT, g2, g3, g4, hk1v, hc2]) <;> rfl) (fa_30_4 _ _)) ?_
              refine OpsG.cons (o_store (by (try simp only [rdF, rd_none, rd_same, rd_ne, ne_eq, Nat.reduceEqDiff, not_false_eq_true, Nat.reduceLT, g2, g3, g4, hk1v, hc2]) <;> rfl) (by (try simp only [rdF, rd_none, rd_same, rd_ne, ne_eq, Nat.reduceEqDiff, not_false_eq_true, Nat.reduceLT, g2, g3, g4, hk1v, hc2]) <;> rfl) (by (try simp (disch := omega) only [St.get_room, St.get_at_eq, St.get_at_ne, St.get_put_eq, St.get_put_ne, St.get_add_eq, St.get_add_ne, St.get_del_ne, St.next_at, St.next_put', St.next_room, St.next_add', St.next_del', hd.rdo, hd.sbo, hd2.rdo, hd2.sbo, hd3.rdo, hd3.sbo, hd4.rdo, hd4.sbo, hd5.rdo, hd5.sbo, hd6.rdo, hd6.sbo, hd7.rdo, hd7.sbo]) <;> rfl) (by simp) s_3 (cl1 rfl) rfl rfl (by simp) (by simp only [splice, List.length_cons, List.length_nil, List.drop_succ_cons, List.drop_zero, List.take_succ_cons, List.take_zero, Nat.reduceAdd, Nat.reduceLeDiff, Nat.zero_add, List.append_nil, List.nil_append, List.cons_append]; rfl)) ?_
              refine OpsG.nil ?_
              repeat (refine GoP.seq ?_)
              refine GoP.name ?_
              rintro σ8 hσ8
              have hd8 : DInv σ1 σ8 rb sb rv7 ((((bs.drop 1).drop 1).drop 2).drop 1) (((false || decide ((bs.drop 1).length < 1)) || decide (((bs.drop 1).drop 1).length < 2)) || decide ((((bs.drop 1).drop 1).drop 2).length < 1)) [.int .i64 2, .int .i64 (rnV 1 (bs.drop 1)), .int .u64 0, .int .u64 0, .int .u64 0, .int .u64 0, .int .u64 0, .int .u64 0, .int .u64 0, .int .u64 0, .int .i64 (rnV 2 ((bs.drop 1).drop 1)), .int .i64 (rnV 1 (((bs.drop 1).drop 1).drop 2)), .int .u64 0, .int .i64 0] vres (ls.map Stp.cells) b := by rw [hσ8]; exact (hd7.put _).put _
              refine GoP.region ?_ ?_
              · rfl
              refine OpsG.cons (o_field (by (try simp only [rdF, rd_none, rd_same, rd_ne, ne_eq, Nat.reduceEqDiff, not_false_eq_true, Nat.reduceLT, g2, g3, g4, hk1v, hc2]) <;> rfl) (fa_30_0 _ _)) ?_
              refine OpsG.cons (o_load (by (try simp only [rdF, rd_none, rd_same, rd_ne, ne_eq, Nat.reduceEqDiff, not_false_eq_true, Nat.reduceLT, g2, g3, g4, hk1v, hc2]) <;> rfl) (by (try simp (disch := omega) only [St.get_room, St.get_at_eq, St.get_at_ne, St.get_put_eq, St.get_put_ne, St.get_add_eq, St.get_add_ne, St.get_del_ne, St.next_at, St.next_put', St.next_room, St.next_add', St.next_del', hd.rdo, hd.sbo, hd2.rdo, hd2.sbo, hd3.rdo, hd3.sbo, hd4.rdo, hd4.sbo, hd5.rdo, hd5.sbo, hd6.rdo, hd6.sbo, hd7.rdo, hd7.sbo, hd8.rdo, hd8.sbo]) <;> rfl) (by rw [p_3]; rfl)) ?_
              refine OpsG.cons (o_bin (by (try simp only [rdF, rd_none, rd_same, rd_ne, ne_eq, Nat.reduceEqDiff, not_false_eq_true, Nat.reduceLT, g2, g3, g4, hk1v, hc2]) <;> rfl) (by (try simp only [rdF, rd_none, rd_same, rd_ne, ne_eq, Nat.reduceEqDiff, not_false_eq_true, Nat.reduceLT, g2, g3, g4, hk1v, hc2]) <;> rfl) binA_eql) ?_
              refine OpsG.nil ?_
              repeat (refine GoP.seq ?_)
              refine GoP.cond_false (by rfl) (by (try simp only [rdF, rd_none, rd_same, rd_ne, ne_eq, Nat.reduceEqDiff, not_false_eq_true, Nat.reduceLT, g2, g3, g4, hk1v, hc2]) <;> rfl) ?_
              repeat (refine GoP.seq ?_)
              refine GoP.skip ?_
              repeat (refine GoP.seq ?_)
              refine GoP.region ?_ ?_
              · rfl
              refine OpsG.cons (o_move (by (try simp only [rdF, rd_none, rd_same, rd_ne, ne_eq, Nat.reduceEqDiff, not_false_eq_true, Nat.reduceLT, g2, g3, g4, hk1v, hc2]) <;> rfl)) ?_
              refine OpsG.cons (o_nil (by (try simp only [rdF, rd_none, rd_same, rd_ne, ne_eq, Nat.reduceEqDiff, not_false_eq_true, Nat.reduceLT, g2, g3, g4, hk1v, hc2]) <;> rfl)) ?_
              refine OpsG.cons (o_field (by (try simp only [rdF, rd_none, rd_same, rd_ne, ne_eq, Nat.reduceEqDiff, not_false_eq_true, Nat.reduceLT, g2, g3, g4, hk1v, hc2]) <;> rfl) (fa_50_1 _ _)) ?_
              refine OpsG.cons (o_load (by (try simp only [rdF, rd_none, rd_same, rd_ne, ne_eq, Nat.reduceEqDiff, not_false_eq_true, Nat.reduceLT, g2, g3, g4, hk1v, hc2]) <;> rfl) (by (try simp (disch := omega) only [St.get_room, St.get_at_eq, St.get_at_ne, St.get_put_eq, St.get_put_ne, St.get_add_eq, St.get_add_ne, St.get_del_ne, St.next_at, St.next_put', St.next_room, St.next_add', St.next_del', hd.rdo, hd.sbo, hd2.rdo, hd2.sbo, hd3.rdo, hd3.sbo, hd4.rdo, hd4.sbo, hd5.rdo, hd5.sbo, hd6.rdo, hd6.sbo, hd7.rdo, hd7.sbo, hd8.rdo, hd8.sbo]) <;> rfl) (by rw [p_4]; rfl)) ?_
              refine OpsG.nil ?_
              repeat (refine GoP.seq ?_)
              refine GoP.cond (by rfl) (by (try simp only [rdF, rd_none, rd_same, rd_ne, ne_eq, Nat.reduceEqDiff, not_false_eq_true, Nat.reduceLT, g2, g3, g4, hk1v, hc2]) <;> rfl) (fun hs2 => ?_) (fun hs2 => ?_)
              ·
                simp only [Bool.or_eq_true, Bool.or_eq_false_iff, decide_eq_true_eq, decide_eq_false_iff_not, List.length_drop, Bool.false_or, Bool.false_eq_true, false_or] at hs2
                have hbn : bodyS (rnV 1 bs % 8) (bs.drop 1) = none := by rw [hkk]; unfold bodyS; rw [if_neg (by decide), if_pos rfl, if_pos (by rw [List.length_drop]; omega)]
                rw [decS_none hne (by omega) hbn, List.append_nil] at hL
                repeat (refine GoP.seq ?_)
                refine GoP.region ?_ ?_
                · rfl
                refine OpsG.cons (o_move (by (try simp only [rdF, rd_none, rd_same, rd_ne, ne_eq, Nat.reduceEqDiff, not_false_eq_true, Nat.reduceLT, g2, g3, g4, hk1v, hc2]) <;> rfl)) ?_
                refine OpsG.cons (o_assign (by (try simp only [rdF, rd_none, rd_same, rd_ne, ne_eq, Nat.reduceEqDiff, not_false_eq_true, Nat.reduceLT, g2, g3, g4, hk1v, hc2]) <;> rfl)) ?_
                refine OpsG.nil ?_
                repeat (refine GoP.seq ?_)
                refine GoP.ret ?_
                refine ⟨.inl rfl, [vres], ?_, ?_⟩
                · exact (by (try simp only [resAllF, resOneF, rdF, rd_none, rd_same, rd_ne, ne_eq, Nat.reduceEqDiff, not_false_eq_true, Nat.reduceLT, g2, g3, g4, hk1v, hc2]) <;> rfl)
                · exact ⟨b, by rw [← hL]; exact hd8.row, hd8.but, fun h => by have := hd8.bn (by rw [← hL] at h; simpa using h); exact ⟨this.1, this.2.1⟩⟩
              ·
                have hs0 := hs2
                simp only [Bool.or_eq_true, Bool.or_eq_false_iff, decide_eq_true_eq, decide_eq_false_iff_not, List.length_drop, Bool.false_or, Bool.false_eq_true, false_or] at hs2
                simp only [List.drop_drop, Nat.reduceAdd] at hd8
                try simp only [List.drop_drop, Nat.reduceAdd] at hs0
                have hbn : bodyS (rnV 1 bs % 8) (bs.drop 1) = some (.load (rnV 1 (bs.drop 1)) (rnV 2 (bs.drop 2)) (rnV 1 (bs.drop 4)), bs.drop 5) := by rw [hkk]; unfold bodyS; rw [if_neg (by decide), if_pos rfl, if_neg (by rw [List.length_drop]; omega)]; simp only [List.drop_drop, Nat.reduceAdd]
                rw [decS_some hne (by omega) hbn] at hL
                have hdx := hd8
                rw [hs0] at hdx
                have happ := hdx.app (x := (.load (rnV 1 (bs.drop 1)) (rnV 2 (bs.drop 2)) (rnV 1 (bs.drop 4)) : Stp).cells) (by rfl) (by rfl) (by rw [List.length_map]; omega)
                repeat (refine GoP.seq ?_)
                refine GoP.skip ?_
                repeat (refine GoP.seq ?_)
                refine GoP.region ?_ ?_
                · rfl
                refine OpsG.cons (o_move (by (try simp only [rdF, rd_none, rd_same, rd_ne, ne_eq, Nat.reduceEqDiff, not_false_eq_true, Nat.reduceLT, g2, g3, g4, hk1v, hc2]) <;> rfl)) ?_
                refine OpsG.cons (o_load (by (try simp only [rdF, rd_none, rd_same, rd_ne, ne_eq, Nat.reduceEqDiff, not_false_eq_true, Nat.reduceLT, g2, g3, g4, hk1v, hc2]) <;> rfl) (by (try simp (disch := omega) only [St.get_room, St.get_at_eq, St.get_at_ne, St.get_put_eq, St.get_put_ne, St.get_add_eq, St.get_add_ne, St.get_del_ne, St.next_at, St.next_put', St.next_room, St.next_add', St.next_del', hd.rdo, hd.sbo, hd2.rdo, hd2.sbo, hd3.rdo, hd3.sbo, hd4.rdo, hd4.sbo, hd5.rdo, hd5.sbo, hd6.rdo, hd6.sbo, hd7.rdo, hd7.sbo, hd8.rdo, hd8.sbo]) <;> rfl) (by rw [p_30]; simp only [List.length_cons, List.length_nil, List.drop_succ_cons, List.drop_zero, List.take_succ_cons, List.take_zero, Nat.reduceAdd, Nat.reduceLeDiff, Nat.zero_add, if_true]; rfl)) ?_
                refine OpsG.cons (o_makesOf (fun _ => _) rfl (by intro x hx; have e : x = .tmp 79 := (by simpa [Op.operands] using hx); rw [e]; exact (by (try simp only [rdF, rd_none, rd_same, rd_ne, ne_eq, Nat.reduceEqDiff, not_false_eq_true, Nat.reduceLT, g2, g3, g4, hk1v, hc2]) <;> rfl)) (bs23 ..)) ?_
                refine OpsG.cons (o_append (by (try simp only [List.map_cons, List.map_nil, rdF, rd_none, rd_same, rd_ne, ne_eq, Nat.reduceEqDiff, not_false_eq_true, Nat.reduceLT, g2, g3, g4, hk1v, hc2]) <;> rfl) happ.1) ?_
                refine OpsG.cons (o_assign (by (try simp only [rdF, rd_none, rd_same, rd_ne, ne_eq, Nat.reduceEqDiff, not_false_eq_true, Nat.reduceLT, g2, g3, g4, hk1v, hc2]) <;> rfl)) ?_
                refine OpsG.nil ?_
                repeat (refine GoP.seq ?_)
                refine GoP.goto ?_
                exact ⟨_, rfl, rb, sb, rv7, _, bs.drop 5, _, ls ++ [.load (rnV 1 (bs.drop 1)) (rnV 2 (bs.drop 2)) (rnV 1 (bs.drop 4))], _, (by (try simp only [rdF, rd_none, rd_same, rd_ne, ne_eq, Nat.reduceEqDiff, not_false_eq_true, Nat.reduceLT, g2, g3, g4, hk1v, hc2]) <;> rfl), (by (try simp only [rdF, rd_none, rd_same, rd_ne, ne_eq, Nat.reduceEqDiff, not_false_eq_true, Nat.reduceLT, g2, g3, g4, hk1v, hc2]) <;> rfl), (by (try simp only [rdF, rd_none, rd_same, rd_ne, ne_eq, Nat.reduceEqDiff, not_false_eq_true, Nat.reduceLT, g2, g3, g4, hk1v, hc2]) <;> rfl), (by rw [List.map_append]; exact happ.2), (by rw [← hL]; simp), (by simp only [List.length_append, List.length_cons, List.length_nil, List.length_drop]; omega), rfl, rfl⟩
            ·
              repeat (refine GoP.seq ?_)
              refine GoP.region ?_ ?_
              · rfl
              refine OpsG.cons (o_bin (by (try simp only [rdF, rd_none, rd_same, rd_ne, ne_eq, Nat.reduceEqDiff, not_false_eq_true, Nat.reduceLT, g2, g3, g4, hk1v]) <;> rfl) (by (try simp only [rdF, rd_none, rd_same, rd_ne, ne_eq, Nat.reduceEqDiff, not_false_eq_true, Nat.reduceLT, g2, g3, g4, hk1v]) <;> rfl) binA_eql) ?_
              refine OpsG.cons (o_assign (by (try simp only [rdF, rd_none, rd_same, rd_ne, ne_eq, Nat.reduceEqDiff, not_false_eq_true, Nat.reduceLT, g2, g3, g4, hk1v]) <;> rfl)) ?_
              refine OpsG.nil ?_
              repeat (refine GoP.seq ?_)
              refine GoP.cond (by rfl) (by (try simp only [rdF, rd_none, rd_same, rd_ne, ne_eq, Nat.reduceEqDiff, not_false_eq_true, Nat.reduceLT, g2, g3, g4, hk1v]) <;> rfl) (fun hc3 => ?_) (fun hc3 => ?_)
              ·
                have hkk : (rnV 1 bs % 8) = 3 := by simpa using hc3
                rw [hkk] at hd5
                have hn1 := rnV_2 hd5.byt
                repeat (refine GoP.seq ?_)
                refine GoP.region ?_ ?_
                · rfl
                refine OpsG.cons (o_move (by (try simp only [rdF, rd_none, rd_same, rd_ne, ne_eq, Nat.reduceEqDiff, not_false_eq_true, Nat.reduceLT, g2, g3, g4, hk1v]) <;> rfl)) ?_
                refine OpsG.call (by (try simp only [List.map_cons, List.map_nil, rdF, rd_none, rd_same, rd_ne, ne_eq, Nat.reduceEqDiff, not_false_eq_true, Nat.reduceLT, g2, g3, g4, hk1v]) <;> rfl) (hd5.reads (n := 2) (by omega) (by omega)) ?_
                rintro v σ6 ⟨rfl, rv6, hd6⟩
                have hn2 := rnV_1 hd6.byt
                refine OpsG.cons (o_convert rfl (by (try simp only [rdF, rd_none, rd_same, rd_ne, ne_eq, Nat.reduceEqDiff, not_false_eq_true, Nat.reduceLT, g2, g3, g4, hk1v]) <;> rfl) ((cv_26_3 _).trans (congrArg (fun z => some (Value.int .i64 z)) (wrap64 (by omega) (by omega))))) ?_
                refine OpsG.cons (o_move (by (try simp only [rdF, rd_none, rd_same, rd_ne, ne_eq, Nat.reduceEqDiff, not_false_eq_true, Nat.reduceLT, g2, g3, g4, hk1v]) <;> rfl)) ?_
                refine OpsG.call (by (try simp only [List.map_cons, List.map_nil, rdF, rd_none, rd_same, rd_ne, ne_eq, Nat.reduceEqDiff, not_false_eq_true, Nat.reduceLT, g2, g3, g4, hk1v]) <;> rfl) (hd6.reads (n := 1) (by omega) (by omega)) ?_
                rintro v σ7 ⟨rfl, rv7, hd7⟩
                refine OpsG.cons (o_convert rfl (by (try simp only [rdF, rd_none, rd_same, rd_ne, ne_eq, Nat.reduceEqDiff, not_false_eq_true, Nat.reduceLT, g2, g3, g4, hk1v]) <;> rfl) ((cv_26_3 _).trans (congrArg (fun z => some (Value.int .i64 z)) (wrap64 (by omega) (by omega))))) ?_
                refine OpsG.cons (o_field (by (try simp only [rdF, rd_none, rd_same, rd_ne, ne_eq, Nat.reduceEqDiff, not_false_eq_true, Nat.reduceLT, g2, g3, g4, hk1v]) <;> rfl) (fa_30_3 _ _)) ?_
                refine OpsG.cons (o_store (by (try simp only [rdF, rd_none, rd_same, rd_ne, ne_eq, Nat.reduceEqDiff, not_false_eq_true, Nat.reduceLT, g2, g3, g4, hk1v]) <;> rfl) (by (try simp only [rdF, rd_none, rd_same, rd_ne, ne_eq, Nat.reduceEqDiff, not_false_eq_true, Nat.reduceLT, g2, g3, g4, hk1v]) <;> rfl) (by (try simp (disch := omega) only [St.get_room, St.get_at_eq, St.get_at_ne, St.get_put_eq, St.get_put_ne, St.get_add_eq, St.get_add_ne, St.get_del_ne, St.next_at, St.next_put', St.next_room, St.next_add', St.next_del', hd.rdo, hd.sbo, hd2.rdo, hd2.sbo, hd3.rdo, hd3.sbo, hd4.rdo, hd4.sbo, hd5.rdo, hd5.sbo, hd6.rdo, hd6.sbo, hd7.rdo, hd7.sbo]) <;> rfl) (by simp) s_3 (cl1 rfl) rfl rfl (by simp) (by simp only [splice, List.length_cons, List.length_nil, List.drop_succ_cons, List.drop_zero, List.take_succ_cons, List.take_zero, Nat.reduceAdd, Nat.reduceLeDiff, Nat.zero_add, List.append_nil, List.nil_append, List.cons_append]; rfl)) ?_
                refine OpsG.cons (o_field (by (try simp only [rdF, rd_none, rd_same, rd_ne, ne_eq, Nat.reduceEqDiff, not_false_eq_true, Nat.reduceLT, g2, g3, g4, hk1v]) <;> rfl) (fa_30_4 _ _)) ?_
                refine OpsG.cons (o_store (by (try simp only [rdF, rd_none, rd_same, rd_ne, ne_eq, Nat.reduceEqDiff, not_false_eq_true, Nat.reduceLT, g2, g3, g4, hk1v]) <;> rfl) (by (try simp only [rdF, rd_none, rd_same, rd_ne, ne_eq, Nat.reduceEqDiff, not_false_eq_true, Nat.reduceLT, g2, g3, g4, hk1v]) <;> rfl) (by (try simp (disch := omega) only [St.get_room, St.get_at_eq, St.get_at_ne, St.get_put_eq, St.get_put_ne, St.get_add_eq, St.get_add_ne, St.get_del_ne, St.next_at, St.next_put', St.next_room, St.next_add', St.next_del', hd.rdo, hd.sbo, hd2.rdo, hd2.sbo, hd3.rdo, hd3.sbo, hd4.rdo, hd4.sbo, hd5.rdo, hd5.sbo, hd6.rdo, hd6.sbo, hd7.rdo, hd7.sbo]) <;> rfl) (by simp) s_3 (cl1 rfl) rfl rfl (by simp) (by simp only [splice, List.length_cons, List.length_nil, List.drop_succ_cons, List.drop_zero, List.take_succ_cons, List.take_zero, Nat.reduceAdd, Nat.reduceLeDiff, Nat.zero_add, List.append_nil, List.nil_append, List.cons_append]; rfl)) ?_
                refine OpsG.nil ?_
                repeat (refine GoP.seq ?_)
                refine GoP.name ?_
                rintro σ8 hσ8
                have hd8 : DInv σ1 σ8 rb sb rv7 ((((bs.drop 1).drop 1).drop 2).drop 1) (((false || decide ((bs.drop 1).length < 1)) || decide (((bs.drop 1).drop 1).length < 2)) || decide ((((bs.drop 1).drop 1).drop 2).length < 1)) [.int .i64 3, .int .i64 (rnV 1 (bs.drop 1)), .int .u64 0, .int .u64 0, .int .u64 0, .int .u64 0, .int .u64 0, .int .u64 0, .int .u64 0, .int .u64 0, .int .i64 (rnV 2 ((bs.drop 1).drop 1)), .int .i64 (rnV 1 (((bs.drop 1).drop 1).drop 2)), .int .u64 0, .int .i64 0] vres (ls.map Stp.cells) b := by rw [hσ8]; exact (hd7.put _).put _
                refine GoP.region ?_ ?_
                · rfl
                refine OpsG.cons (o_field (by (try simp only [rdF, rd_none, rd_same, rd_ne, ne_eq, Nat.reduceEqDiff, not_false_eq_true, Nat.reduceLT, g2, g3, g4, hk1v]) <;> rfl) (fa_30_0 _ _)) ?_
                refine OpsG.cons (o_load (by (try simp only [rdF, rd_none, rd_same, rd_ne, ne_eq, Nat.reduceEqDiff, not_false_eq_true, Nat.reduceLT, g2, g3, g4, hk1v]) <;> rfl) (by (try simp (disch := omega) only [St.get_room, St.get_at_eq, St.get_at_ne, St.get_put_eq, St.get_put_ne, St.get_add_eq, St.get_add_ne, St.get_del_ne, St.next_at, St.next_put', St.next_room, St.next_add', St.next_del', hd.rdo, hd.sbo, hd2.rdo, hd2.sbo, hd3.rdo, hd3.sbo, hd4.rdo, hd4.sbo, hd5.rdo, hd5.sbo, hd6.rdo, hd6.sbo, hd7.rdo, hd7.sbo, hd8.rdo, hd8.sbo]) <;> rfl) (by rw [p_3]; rfl)) ?_
                refine OpsG.cons (o_bin (by (try simp only [rdF, rd_none, rd_same, rd_ne, ne_eq, Nat.reduceEqDiff, not_false_eq_true, Nat.reduceLT, g2, g3, g4, hk1v]) <;> rfl) (by (try simp only [rdF, rd_none, rd_same, rd_ne, ne_eq, Nat.reduceEqDiff, not_false_eq_true, Nat.reduceLT, g2, g3, g4, hk1v]) <;> rfl) binA_eql) ?_
                refine OpsG.nil ?_
                repeat (refine GoP.seq ?_)
                refine GoP.cond_true (by rfl) (by (try simp only [rdF, rd_none, rd_same, rd_ne, ne_eq, Nat.reduceEqDiff, not_false_eq_true, Nat.reduceLT, g2, g3, g4, hk1v]) <;> rfl) ?_
                repeat (refine GoP.seq ?_)
                refine GoP.region ?_ ?_
                · rfl
                refine OpsG.cons (o_move (by (try simp only [rdF, rd_none, rd_same, rd_ne, ne_eq, Nat.reduceEqDiff, not_false_eq_true, Nat.reduceLT, g2, g3, g4, hk1v]) <;> rfl)) ?_
                refine OpsG.call (by (try simp only [List.map_cons, List.map_nil, rdF, rd_none, rd_same, rd_ne, ne_eq, Nat.reduceEqDiff, not_false_eq_true, Nat.reduceLT, g2, g3, g4, hk1v]) <;> rfl) (hd8.reads (n := 8) (by omega) (by omega)) ?_
                rintro v σ9 ⟨rfl, rv9, hd9⟩
                refine OpsG.cons (o_field (by (try simp only [rdF, rd_none, rd_same, rd_ne, ne_eq, Nat.reduceEqDiff, not_false_eq_true, Nat.reduceLT, g2, g3, g4, hk1v]) <;> rfl) (fa_30_5 _ _)) ?_
                refine OpsG.cons (o_store (by (try simp only [rdF, rd_none, rd_same, rd_ne, ne_eq, Nat.reduceEqDiff, not_false_eq_true, Nat.reduceLT, g2, g3, g4, hk1v]) <;> rfl) (by (try simp only [rdF, rd_none, rd_same, rd_ne, ne_eq, Nat.reduceEqDiff, not_false_eq_true, Nat.reduceLT, g2, g3, g4, hk1v]) <;> rfl) (by (try simp (disch := omega) only [St.get_room, St.get_at_eq, St.get_at_ne, St.get_put_eq, St.get_put_ne, St.get_add_eq, St.get_add_ne, St.get_del_ne, St.next_at, St.next_put', St.next_room, St.next_add', St.next_del', hd.rdo, hd.sbo, hd2.rdo, hd2.sbo, hd3.rdo, hd3.sbo, hd4.rdo, hd4.sbo, hd5.rdo, hd5.sbo, hd6.rdo, hd6.sbo, hd7.rdo, hd7.sbo, hd8.rdo, hd8.sbo, hd9.rdo, hd9.sbo]) <;> rfl) (by simp) s_26 (cl1 rfl) rfl rfl (by simp) (by simp only [splice, List.length_cons, List.length_nil, List.drop_succ_cons, List.drop_zero, List.take_succ_cons, List.take_zero, Nat.reduceAdd, Nat.reduceLeDiff, Nat.zero_add, List.append_nil, List.nil_append, List.cons_append]; rfl)) ?_
                refine OpsG.nil ?_
                repeat (refine GoP.seq ?_)
                refine GoP.name ?_
                rintro σ10 hσ10
                have hd10 : DInv σ1 σ10 rb sb rv9 (((((bs.drop 1).drop 1).drop 2).drop 1).drop 8) ((((false || decide ((bs.drop 1).length < 1)) || decide (((bs.drop 1).drop 1).length < 2)) || decide ((((bs.drop 1).drop 1).drop 2).length < 1)) || decide (((((bs.drop 1).drop 1).drop 2).drop 1).length < 8)) [.int .i64 3, .int .i64 (rnV 1 (bs.drop 1)), .int .u64 0, .int .u64 0, .int .u64 0, .int .u64 0, .int .u64 0, .int .u64 0, .int .u64 0, .int .u64 0, .int .i64 (rnV 2 ((bs.drop 1).drop 1)), .int .i64 (rnV 1 (((bs.drop 1).drop 1).drop 2)), .int .u64 (rnV 8 ((((bs.drop 1).drop 1).drop 2).drop 1)), .int .i64 0] vres (ls.map Stp.cells) b := by rw [hσ10]; exact hd9.put _
                refine GoP.region ?_ ?_
                · rfl
                refine OpsG.cons (o_move (by (try simp only [rdF, rd_none, rd_same, rd_ne, ne_eq, Nat.reduceEqDiff, not_false_eq_true, Nat.reduceLT, g2, g3, g4, hk1v]) <;> rfl)) ?_
                refine OpsG.cons (o_nil (by (try simp only [rdF, rd_none, rd_same, rd_ne, ne_eq, Nat.reduceEqDiff, not_false_eq_true, Nat.reduceLT, g2, g3, g4, hk1v]) <;> rfl)) ?_
                refine OpsG.cons (o_field (by (try simp only [rdF, rd_none, rd_same, rd_ne, ne_eq, Nat.reduceEqDiff, not_false_eq_true, Nat.reduceLT, g2, g3, g4, hk1v]) <;> rfl) (fa_50_1 _ _)) ?_
                refine OpsG.cons (o_load (by (try simp only [rdF, rd_none, rd_same, rd_ne, ne_eq, Nat.reduceEqDiff, not_false_eq_true, Nat.reduceLT, g2, g3, g4, hk1v]) <;> rfl) (by (try simp (disch := omega) only [St.get_room, St.get_at_eq, St.get_at_ne, St.get_put_eq, St.get_put_ne, St.get_add_eq, St.get_add_ne, St.get_del_ne, St.next_at, St.next_put', St.next_room, St.next_add', St.next_del', hd.rdo, hd.sbo, hd2.rdo, hd2.sbo, hd3.rdo, hd3.sbo, hd4.rdo, hd4.sbo, hd5.rdo, hd5.sbo, hd6.rdo, hd6.sbo, hd7.rdo, hd7.sbo, hd8.rdo, hd8.sbo, hd9.rdo, hd9.sbo, hd10.rdo, hd10.sbo]) <;> rfl) (by rw [p_4]; rfl)) ?_
                refine OpsG.nil ?_
                repeat (refine GoP.seq ?_)
                refine GoP.cond (by rfl) (by (try simp only [rdF, rd_none, rd_same, rd_ne, ne_eq, Nat.reduceEqDiff, not_false_eq_true, Nat.reduceLT, g2, g3, g4, hk1v]) <;> rfl) (fun hs2 => ?_) (fun hs2 => ?_)
                ·
                  simp only [Bool.or_eq_true, Bool.or_eq_false_iff, decide_eq_true_eq, decide_eq_false_iff_not, List.length_drop, Bool.false_or, Bool.false_eq_true, false_or] at hs2
                  have hbn : bodyS (rnV 1 bs % 8) (bs.drop 1) = none := by rw [hkk]; unfold bodyS; rw [if_neg (by decide), if_neg (by decide), if_pos rfl, if_pos (by rw [List.length_drop]; omega)]
                  rw [decS_none hne (by omega) hbn, List.append_nil] at hL
                  repeat (refine GoP.seq ?_)
                  refine GoP.region ?_ ?_
                  · rfl
                  refine OpsG.cons (o_move (by (try simp only [rdF, rd_none, rd_same, rd_ne, ne_eq, Nat.reduceEqDiff, not_false_eq_true, Nat.reduceLT, g2, g3, g4, hk1v]) <;> rfl)) ?_
                  refine OpsG.cons (o_assign (by (try simp only [rdF, rd_none, rd_same, rd_ne, ne_eq, Nat.reduceEqDiff, not_false_eq_true, Nat.reduceLT, g2, g3, g4, hk1v]) <;> rfl)) ?_
                  refine OpsG.nil ?_
                  repeat (refine GoP.seq ?_)
                  refine GoP.ret ?_
                  refine ⟨.inl rfl, [vres], ?_, ?_⟩
                  · exact (by (try simp only [resAllF, resOneF, rdF, rd_none, rd_same, rd_ne, ne_eq, Nat.reduceEqDiff, not_false_eq_true, Nat.reduceLT, g2, g3, g4, hk1v]) <;> rfl)
                  · exact ⟨b, by rw [← hL]; exact hd10.row, hd10.but, fun h => by have := hd10.bn (by rw [← hL] at h; simpa using h); exact ⟨this.1, this.2.1⟩⟩
                ·
                  have hs0 := hs2
                  simp only [Bool.or_eq_true, Bool.or_eq_false_iff, decide_eq_true_eq, decide_eq_false_iff_not, List.length_drop, Bool.false_or, Bool.false_eq_true, false_or] at hs2
                  simp only [List.drop_drop, Nat.reduceAdd] at hd10
                  try simp only [List.drop_drop, Nat.reduceAdd] at hs0
                  have hbn : bodyS (rnV 1 bs % 8) (bs.drop 1) = some (.store (rnV 1 (bs.drop 1)) (rnV 2 (bs.drop 2)) (rnV 1 (bs.drop 4)) (rnV 8 (bs.drop 5)), bs.drop 13) := by rw [hkk]; unfold bodyS; rw [if_neg (by decide), if_neg (by decide), if_pos rfl, if_neg (by rw [List.length_drop]; omega)]; simp only [List.drop_drop, Nat.reduceAdd]
                  rw [decS_some hne (by omega) hbn] at hL
                  have hdx := hd10
                  rw [hs0] at hdx
                  have happ := hdx.app (x := (.store (rnV 1 (bs.drop 1)) (rnV 2 (bs.drop 2)) (rnV 1 (bs.drop 4)) (rnV 8 (bs.drop 5)) : Stp).cells) (by rfl) (by rfl) (by rw [List.length_map]; omega)
                  repeat (refine GoP.seq ?_)
                  refine GoP.skip ?_
                  repeat (refine GoP.seq ?_)
                  refine GoP.region ?_ ?_
                  · rfl
                  refine OpsG.cons (o_move (by (try simp only [rdF, rd_none, rd_same, rd_ne, ne_eq, Nat.reduceEqDiff, not_false_eq_true, Nat.reduceLT, g2, g3, g4, hk1v]) <;> rfl)) ?_
                  refine OpsG.cons (o_load (by (try simp only [rdF, rd_none, rd_same, rd_ne, ne_eq, Nat.reduceEqDiff, not_false_eq_true, Nat.reduceLT, g2, g3, g4, hk1v]) <;> rfl) (by (try simp (disch := omega) only [St.get_room, St.get_at_eq, St.get_at_ne, St.get_put_eq, St.get_put_ne, St.get_add_eq, St.get_add_ne, St.get_del_ne, St.next_at, St.next_put', St.next_room, St.next_add', St.next_del', hd.rdo, hd.sbo, hd2.rdo, hd2.sbo, hd3.rdo, hd3.sbo, hd4.rdo, hd4.sbo, hd5.rdo, hd5.sbo, hd6.rdo, hd6.sbo, hd7.rdo, hd7.sbo, hd8.rdo, hd8.sbo, hd9.rdo, hd9.sbo, hd10.rdo, hd10.sbo]) <;> rfl) (by rw [p_30]; simp only [List.length_cons, List.length_nil, List.drop_succ_cons, List.drop_zero, List.take_succ_cons, List.take_zero, Nat.reduceAdd, Nat.reduceLeDiff, Nat.zero_add, if_true]; rfl)) ?_
                  refine OpsG.cons (o_makesOf (fun _ => _) rfl (by intro x hx; have e : x = .tmp 79 := (by simpa [Op.operands] using hx); rw [e]; exact (by (try simp only [rdF, rd_none, rd_same, rd_ne, ne_eq, Nat.reduceEqDiff, not_false_eq_true, Nat.reduceLT, g2, g3, g4, hk1v]) <;> rfl)) (bs23 ..)) ?_
                  refine OpsG.cons (o_append (by (try simp only [List.map_cons, List.map_nil, rdF, rd_none, rd_same, rd_ne, ne_eq, Nat.reduceEqDiff, not_false_eq_true, Nat.reduceLT, g2, g3, g4, hk1v]) <;> rfl) happ.1) ?_
                  refine OpsG.cons (o_assign (by (try simp only [rdF, rd_none, rd_same, rd_ne, ne_eq, Nat.reduceEqDiff, not_false_eq_true, Nat.reduceLT, g2, g3, g4, hk1v]) <;> rfl)) ?_
                  refine OpsG.nil ?_
                  repeat (refine GoP.seq ?_)
                  refine GoP.goto ?_
                  exact ⟨_, rfl, rb, sb, rv9, _, bs.drop 13, _, ls ++ [.store (rnV 1 (bs.drop 1)) (rnV 2 (bs.drop 2)) (rnV 1 (bs.drop 4)) (rnV 8 (bs.drop 5))], _, (by (try simp only [rdF, rd_none, rd_same, rd_ne, ne_eq, Nat.reduceEqDiff, not_false_eq_true, Nat.reduceLT, g2, g3, g4, hk1v]) <;> rfl), (by (try simp only [rdF, rd_none, rd_same, rd_ne, ne_eq, Nat.reduceEqDiff, not_false_eq_true, Nat.reduceLT, g2, g3, g4, hk1v]) <;> rfl), (by (try simp only [rdF, rd_none, rd_same, rd_ne, ne_eq, Nat.reduceEqDiff, not_false_eq_true, Nat.reduceLT, g2, g3, g4, hk1v]) <;> rfl), (by rw [List.map_append]; exact happ.2), (by rw [← hL]; simp), (by simp only [List.length_append, List.length_cons, List.length_nil, List.length_drop]; omega), rfl, rfl⟩
              ·
                repeat (refine GoP.seq ?_)
                refine GoP.region ?_ ?_
                · rfl
                refine OpsG.cons (o_bin (by (try simp only [rdF, rd_none, rd_same, rd_ne, ne_eq, Nat.reduceEqDiff, not_false_eq_true, Nat.reduceLT, g2, g3, g4, hk1v]) <;> rfl) (by (try simp only [rdF, rd_none, rd_same, rd_ne, ne_eq, Nat.reduceEqDiff, not_false_eq_true, Nat.reduceLT, g2, g3, g4, hk1v]) <;> rfl) binA_eql) ?_
                refine OpsG.cons (o_assign (by (try simp only [rdF, rd_none, rd_same, rd_ne, ne_eq, Nat.reduceEqDiff, not_false_eq_true, Nat.reduceLT, g2, g3, g4, hk1v]) <;> rfl)) ?_
                refine OpsG.nil ?_
                repeat (refine GoP.seq ?_)
                refine GoP.cond (by rfl) (by (try simp only [rdF, rd_none, rd_same, rd_ne, ne_eq, Nat.reduceEqDiff, not_false_eq_true, Nat.reduceLT, g2, g3, g4, hk1v]) <;> rfl) (fun hc5 => ?_) (fun hc5 => ?_)
                ·
                  have hk5 : (rnV 1 bs % 8) = 5 := by simpa using hc5
                  rw [hk5] at hd5
                  have hn1 := rnV_1 hd5.byt
                  repeat (refine GoP.seq ?_)
                  refine GoP.region ?_ ?_
                  · rfl
                  refine OpsG.cons (o_move (by (try simp only [rdF, rd_none, rd_same, rd_ne, ne_eq, Nat.reduceEqDiff, not_false_eq_true, Nat.reduceLT, g2, g3, g4, hk1v]) <;> rfl)) ?_
                  refine OpsG.call (by (try simp only [List.map_cons, List.map_nil, rdF, rd_none, rd_same, rd_ne, ne_eq, Nat.reduceEqDiff, not_false_eq_true, Nat.reduceLT, g2, g3, g4, hk1v]) <;> rfl) (hd5.reads (n := 1) (by omega) (by omega)) ?_
                  rintro v σ6 ⟨rfl, rv6, hd6⟩
                  refine OpsG.cons (o_convert rfl (by (try simp only [rdF, rd_none, rd_same, rd_ne, ne_eq, Nat.reduceEqDiff, not_false_eq_true, Nat.reduceLT, g2, g3, g4, hk1v]) <;> rfl) ((cv_26_3 _).trans (congrArg (fun z => some (Value.int .i64 z)) (wrap64 (by omega) (by omega))))) ?_
                  refine OpsG.cons (o_field (by (try simp only [rdF, rd_none, rd_same, rd_ne, ne_eq, Nat.reduceEqDiff, not_false_eq_true, Nat.reduceLT, g2, g3, g4, hk1v]) <;> rfl) (fa_30_6 _ _)) ?_
                  refine OpsG.cons (o_store (by (try simp only [rdF, rd_none, rd_same, rd_ne, ne_eq, Nat.reduceEqDiff, not_false_eq_true, Nat.reduceLT, g2, g3, g4, hk1v]) <;> rfl) (by (try simp only [rdF, rd_none, rd_same, rd_ne, ne_eq, Nat.reduceEqDiff, not_false_eq_true, Nat.reduceLT, g2, g3, g4, hk1v]) <;> rfl) (by (try simp (disch := omega) only [St.get_room, St.get_at_eq, St.get_at_ne, St.get_put_eq, St.get_put_ne, St.get_add_eq, St.get_add_ne, St.get_del_ne, St.next_at, St.next_put', St.next_room, St.next_add', St.next_del', hd.rdo, hd.sbo, hd2.rdo, hd2.sbo, hd3.rdo, hd3.sbo, hd4.rdo, hd4.sbo, hd5.rdo, hd5.sbo, hd6.rdo, hd6.sbo]) <;> rfl) (by simp) s_3 (cl1 rfl) rfl rfl (by simp) (by simp only [splice, List.length_cons, List.length_nil, List.drop_succ_cons, List.drop_zero, List.take_succ_cons, List.take_zero, Nat.reduceAdd, Nat.reduceLeDiff, Nat.zero_add, List.append_nil, List.nil_append, List.cons_append]; rfl)) ?_
                  refine OpsG.nil ?_
                  repeat (refine GoP.seq ?_)
                  refine GoP.name ?_
                  rintro σ7 hσ7
                  have hd7 : DInv σ1 σ7 rb sb rv6 (((bs.drop 1).drop 1).drop 1) ((false || decide ((bs.drop 1).length < 1)) || decide (((bs.drop 1).drop 1).length < 1)) [.int .i64 5, .int .i64 (rnV 1 (bs.drop 1)), .int .u64 0, .int .u64 0, .int .u64 0, .int .u64 0, .int .u64 0, .int .u64 0, .int .u64 0, .int .u64 0, .int .i64 0, .int .i64 0, .int .u64 0, .int .i64 (rnV 1 ((bs.drop 1).drop 1))] vres (ls.map Stp.cells) b := by rw [hσ7]; exact hd6.put _
                  refine GoP.region ?_ ?_
                  · rfl
                  refine OpsG.cons (o_move (by (try simp only [rdF, rd_none, rd_same, rd_ne, ne_eq, Nat.reduceEqDiff, not_false_eq_true, Nat.reduceLT, g2, g3, g4, hk1v]) <;> rfl)) ?_
                  refine OpsG.cons (o_nil (by (try simp only [rdF, rd_none, rd_same, rd_ne, ne_eq, Nat.reduceEqDiff, not_false_eq_true, Nat.reduceLT, g2, g3, g4, hk1v]) <;> rfl)) ?_
                  refine OpsG.cons (o_field (by (try simp only [rdF, rd_none, rd_same, rd_ne, ne_eq, Nat.reduceEqDiff, not_false_eq_true, Nat.reduceLT, g2, g3, g4, hk1v]) <;> rfl) (fa_50_1 _ _)) ?_
                  refine OpsG.cons (o_load (by (try simp only [rdF, rd_none, rd_same, rd_ne, ne_eq, Nat.reduceEqDiff, not_false_eq_true, Nat.reduceLT, g2, g3, g4, hk1v]) <;> rfl) (by (try simp (disch := omega) only [St.get_room, St.get_at_eq, St.get_at_ne, St.get_put_eq, St.get_put_ne, St.get_add_eq, St.get_add_ne, St.get_del_ne, St.next_at, St.next_put', St.next_room, St.next_add', St.next_del', hd.rdo, hd.sbo, hd2.rdo, hd2.sbo, hd3.rdo, hd3.sbo, hd4.rdo, hd4.sbo, hd5.rdo, hd5.sbo, hd6.rdo, hd6.sbo, hd7.rdo, hd7.sbo]) <;> rfl) (by rw [p_4]; rfl)) ?_
                  refine OpsG.nil ?_
                  repeat (refine GoP.seq ?_)
                  refine GoP.cond (by rfl) (by (try simp only [rdF, rd_none, rd_same, rd_ne, ne_eq, Nat.reduceEqDiff, not_false_eq_true, Nat.reduceLT, g2, g3, g4, hk1v]) <;> rfl) (fun hs2 => ?_) (fun hs2 => ?_)
                  ·
                    simp only [Bool.or_eq_true, Bool.or_eq_false_iff, decide_eq_true_eq, decide_eq_false_iff_not, List.length_drop, Bool.false_or, Bool.false_eq_true, false_or] at hs2
                    have hbn : bodyS (rnV 1 bs % 8) (bs.drop 1) = none := by rw [hk5]; unfold bodyS; rw [if_neg (by decide), if_neg (by decide), if_neg (by decide), if_neg (by decide), if_pos (by rw [List.length_drop]; omega)]
                    rw [decS_none hne (by omega) hbn, List.append_nil] at hL
                    repeat (refine GoP.seq ?_)
                    refine GoP.region ?_ ?_
                    · rfl
                    refine OpsG.cons (o_move (by (try simp only [rdF, rd_none, rd_same, rd_ne, ne_eq, Nat.reduceEqDiff, not_false_eq_true, Nat.reduceLT, g2, g3, g4, hk1v]) <;> rfl)) ?_
                    refine OpsG.cons (o_assign (by (try simp only [rdF, rd_none, rd_same, rd_ne, ne_eq, Nat.reduceEqDiff, not_false_eq_true, Nat.reduceLT, g2, g3, g4, hk1v]) <;> rfl)) ?_
                    refine OpsG.nil ?_
                    repeat (refine GoP.seq ?_)
                    refine GoP.ret ?_
                    refine ⟨.inl rfl, [vres], ?_, ?_⟩
                    · exact (by (try simp only [resAllF, resOneF, rdF, rd_none, rd_same, rd_ne, ne_eq, Nat.reduceEqDiff, not_false_eq_true, Nat.reduceLT, g2, g3, g4, hk1v]) <;> rfl)
                    · exact ⟨b, by rw [← hL]; exact hd7.row, hd7.but, fun h => by have := hd7.bn (by rw [← hL] at h; simpa using h); exact ⟨this.1, this.2.1⟩⟩
                  ·
                    have hs0 := hs2
                    simp only [Bool.or_eq_true, Bool.or_eq_false_iff, decide_eq_true_eq, decide_eq_false_iff_not, List.length_drop, Bool.false_or, Bool.false_eq_true, false_or] at hs2
                    simp only [List.drop_drop, Nat.reduceAdd] at hd7
                    try simp only [List.drop_drop, Nat.reduceAdd] at hs0
                    have hbn : bodyS (rnV 1 bs % 8) (bs.drop 1) = some (.line (rnV 1 (bs.drop 1)) (rnV 1 (bs.drop 2)), bs.drop 3) := by rw [hk5]; unfold bodyS; rw [if_neg (by decide), if_neg (by decide), if_neg (by decide), if_neg (by decide), if_neg (by rw [List.length_drop]; omega)]; simp only [List.drop_drop, Nat.reduceAdd]
                    rw [decS_some hne (by omega) hbn] at hL
                    have hdx := hd7
                    rw [hs0] at hdx
                    have happ := hdx.app (x := (.line (rnV 1 (bs.drop 1)) (rnV 1 (bs.drop 2)) : Stp).cells) (by rfl) (by rfl) (by rw [List.length_map]; omega)
                    repeat (refine GoP.seq ?_)
                    refine GoP.skip ?_
                    repeat (refine GoP.seq ?_)
                    refine GoP.region ?_ ?_
                    · rfl
                    refine OpsG.cons (o_move (by (try simp only [rdF, rd_none, rd_same, rd_ne, ne_eq, Nat.reduceEqDiff, not_false_eq_true, Nat.reduceLT, g2, g3, g4, hk1v]) <;> rfl)) ?_
                    refine OpsG.cons (o_load (by (try simp only [rdF, rd_none, rd_same, rd_ne, ne_eq, Nat.reduceEqDiff, not_false_eq_true, Nat.reduceLT, g2, g3, g4, hk1v]) <;> rfl) (by (try simp (disch := omega) only [St.get_room, St.get_at_eq, St.get_at_ne, St.get_put_eq, St.get_put_ne, St.get_add_eq, St.get_add_ne, St.get_del_ne, St.next_at, St.next_put', St.next_room, St.next_add', St.next_del', hd.rdo, hd.sbo, hd2.rdo, hd2.sbo, hd3.rdo, hd3.sbo, hd4.rdo, hd4.sbo, hd5.rdo, hd5.sbo, hd6.rdo, hd6.sbo, hd7.rdo, hd7.sbo]) <;> rfl) (by rw [p_30]; simp only [List.length_cons, List.length_nil, List.drop_succ_cons, List.drop_zero, List.take_succ_cons, List.take_zero, Nat.reduceAdd, Nat.reduceLeDiff, Nat.zero_add, if_true]; rfl)) ?_
                    refine OpsG.cons (o_makesOf (fun _ => _) rfl (by intro x hx; have e : x = .tmp 79 := (by simpa [Op.operands] using hx); rw [e]; exact (by (try simp only [rdF, rd_none, rd_same, rd_ne, ne_eq, Nat.reduceEqDiff, not_false_eq_true, Nat.reduceLT, g2, g3, g4, hk1v]) <;> rfl)) (bs23 ..)) ?_
                    refine OpsG.cons (o_append (by (try simp only [List.map_cons, List.map_nil, rdF, rd_none, rd_same, rd_ne, ne_eq, Nat.reduceEqDiff, not_false_eq_true, Nat.reduceLT, g2, g3, g4, hk1v]) <;> rfl) happ.1) ?_
                    refine OpsG.cons (o_assign (by (try simp only [rdF, rd_none, rd_same, rd_ne, ne_eq, Nat.reduceEqDiff, not_false_eq_true, Nat.reduceLT, g2, g3, g4, hk1v]) <;> rfl)) ?_
                    refine OpsG.nil ?_
                    repeat (refine GoP.seq ?_)
                    refine GoP.goto ?_
                    exact ⟨_, rfl, rb, sb, rv6, _, bs.drop 3, _, ls ++ [.line (rnV 1 (bs.drop 1)) (rnV 1 (bs.drop 2))], _, (by (try simp only [rdF, rd_none, rd_same, rd_ne, ne_eq, Nat.reduceEqDiff, not_false_eq_true, Nat.reduceLT, g2, g3, g4, hk1v]) <;> rfl), (by (try simp only [rdF, rd_none, rd_same, rd_ne, ne_eq, Nat.reduceEqDiff, not_false_eq_true, Nat.reduceLT, g2, g3, g4, hk1v]) <;> rfl), (by (try simp only [rdF, rd_none, rd_same, rd_ne, ne_eq, Nat.reduceEqDiff, not_false_eq_true, Nat.reduceLT, g2, g3, g4, hk1v]) <;> rfl), (by rw [List.map_append]; exact happ.2), (by rw [← hL]; simp), (by simp only [List.length_append, List.length_cons, List.length_nil, List.length_drop]; omega), rfl, rfl⟩
                ·
                  have hk4 : (rnV 1 bs % 8) = 4 := by simp at hc1 hc2 hc3 hc5; omega
                  rw [hk4] at hd5
                  repeat (refine GoP.seq ?_)
                  refine GoP.skip ?_
                  repeat (refine GoP.seq ?_)
                  refine GoP.region ?_ ?_
                  · rfl
                  refine OpsG.cons (o_move (by (try simp only [rdF, rd_none, rd_same, rd_ne, ne_eq, Nat.reduceEqDiff, not_false_eq_true, Nat.reduceLT, g2, g3, g4, hk1v]) <;> rfl)) ?_
                  refine OpsG.cons (o_nil (by (try simp only [rdF, rd_none, rd_same, rd_ne, ne_eq, Nat.reduceEqDiff, not_false_eq_true, Nat.reduceLT, g2, g3, g4, hk1v]) <;> rfl)) ?_
                  refine OpsG.cons (o_field (by (try simp only [rdF, rd_none, rd_same, rd_ne, ne_eq, Nat.reduceEqDiff, not_false_eq_true, Nat.reduceLT, g2, g3, g4, hk1v]) <;> rfl) (fa_50_1 _ _)) ?_
                  refine OpsG.cons (o_load (by (try simp only [rdF, rd_none, rd_same, rd_ne, ne_eq, Nat.reduceEqDiff, not_false_eq_true, Nat.reduceLT, g2, g3, g4, hk1v]) <;> rfl) (by (try simp (disch := omega) only [St.get_room, St.get_at_eq, St.get_at_ne, St.get_put_eq, St.get_put_ne, St.get_add_eq, St.get_add_ne, St.get_del_ne, St.next_at, St.next_put', St.next_room, St.next_add', St.next_del', hd.rdo, hd.sbo, hd2.rdo, hd2.sbo, hd3.rdo, hd3.sbo, hd4.rdo, hd4.sbo, hd5.rdo, hd5.sbo]) <;> rfl) (by rw [p_4]; rfl)) ?_
                  refine OpsG.nil ?_
                  repeat (refine GoP.seq ?_)
                  refine GoP.cond (by rfl) (by (try simp only [rdF, rd_none, rd_same, rd_ne, ne_eq, Nat.reduceEqDiff, not_false_eq_true, Nat.reduceLT, g2, g3, g4, hk1v]) <;> rfl) (fun hs2 => ?_) (fun hs2 => ?_)
                  ·
                    simp only [Bool.or_eq_true, Bool.or_eq_false_iff, decide_eq_true_eq, decide_eq_false_iff_not, List.length_drop, Bool.false_or, Bool.false_eq_true, false_or] at hs2
                    have hbn : bodyS (rnV 1 bs % 8) (bs.drop 1) = none := by rw [hk4]; unfold bodyS; rw [if_neg (by decide), if_neg (by decide), if_neg (by decide), if_pos rfl, if_pos (by rw [List.length_drop]; omega)]
                    rw [decS_none hne (by omega) hbn, List.append_nil] at hL
                    repeat (refine GoP.seq ?_)
                    refine GoP.region ?_ ?_
                    · rfl
                    refine OpsG.cons (o_move (by (try simp only [rdF, rd_none, rd_same, rd_ne, ne_eq, Nat.reduceEqDiff, not_false_eq_true, Nat.reduceLT, g2, g3, g4, hk1v]) <;> rfl)) ?_
                    refine OpsG.cons (o_assign (by (try simp only [rdF, rd_none, rd_same, rd_ne, ne_eq, Nat.reduceEqDiff, not_false_eq_true, Nat.reduceLT, g2, g3, g4, hk1v]) <;> rfl)) ?_
                    refine OpsG.nil ?_
                    repeat (refine GoP.seq ?_)
                    refine GoP.ret ?_
                    refine ⟨.inl rfl, [vres], ?_, ?_⟩
                    · exact (by (try simp only [resAllF, resOneF, rdF, rd_none, rd_same, rd_ne, ne_eq, Nat.reduceEqDiff, not_false_eq_true, Nat.reduceLT, g2, g3, g4, hk1v]) <;> rfl)
                    · exact ⟨b, by rw [← hL]; exact hd5.row, hd5.but, fun h => by have := hd5.bn (by rw [← hL] at h; simpa using h); exact ⟨this.1, this.2.1⟩⟩
                  ·
                    have hs0 := hs2
                    simp only [Bool.or_eq_true, Bool.or_eq_false_iff, decide_eq_true_eq, decide_eq_false_iff_not, List.length_drop, Bool.false_or, Bool.false_eq_true, false_or] at hs2
                    simp only [List.drop_drop, Nat.reduceAdd] at hd5
                    try simp only [List.drop_drop, Nat.reduceAdd] at hs0
                    have hbn : bodyS (rnV 1 bs % 8) (bs.drop 1) = some (.tick (rnV 1 (bs.drop 1)), bs.drop 2) := by rw [hk4]; unfold bodyS; rw [if_neg (by decide), if_neg (by decide), if_neg (by decide), if_pos rfl, if_neg (by rw [List.length_drop]; omega)]; simp only [List.drop_drop, Nat.reduceAdd]
                    rw [decS_some hne (by omega) hbn] at hL
                    have hdx := hd5
                    rw [hs0] at hdx
                    have happ := hdx.app (x := (.tick (rnV 1 (bs.drop 1)) : Stp).cells) (by rfl) (by rfl) (by rw [List.length_map]; omega)
                    repeat (refine GoP.seq ?_)
                    refine GoP.skip ?_
                    repeat (refine GoP.seq ?_)
                    refine GoP.region ?_ ?_
                    · rfl
                    refine OpsG.cons (o_move (by (try simp only [rdF, rd_none, rd_same, rd_ne, ne_eq, Nat.reduceEqDiff, not_false_eq_true, Nat.reduceLT, g2, g3, g4, hk1v]) <;> rfl)) ?_
                    refine OpsG.cons (o_load (by (try simp only [rdF, rd_none, rd_same, rd_ne, ne_eq, Nat.reduceEqDiff, not_false_eq_true, Nat.reduceLT, g2, g3, g4, hk1v]) <;> rfl) (by (try simp (disch := omega) only [St.get_room, St.get_at_eq, St.get_at_ne, St.get_put_eq, St.get_put_ne, St.get_add_eq, St.get_add_ne, St.get_del_ne, St.next_at, St.next_put', St.next_room, St.next_add', St.next_del', hd.rdo, hd.sbo, hd2.rdo, hd2.sbo, hd3.rdo, hd3.sbo, hd4.rdo, hd4.sbo, hd5.rdo, hd5.sbo]) <;> rfl) (by rw [p_30]; simp only [List.length_cons, List.length_nil, List.drop_succ_cons, List.drop_zero, List.take_succ_cons, List.take_zero, Nat.reduceAdd, Nat.reduceLeDiff, Nat.zero_add, if_true]; rfl)) ?_
                    refine OpsG.cons (o_makesOf (fun _ => _) rfl (by intro x hx; have e : x = .tmp 79 := (by simpa [Op.operands] using hx); rw [e]; exact (by (try simp only [rdF, rd_none, rd_same, rd_ne, ne_eq, Nat.reduceEqDiff, not_false_eq_true, Nat.reduceLT, g2, g3, g4, hk1v]) <;> rfl)) (bs23 ..)) ?_
                    refine OpsG.cons (o_append (by (try simp only [List.map_cons, List.map_nil, rdF, rd_none, rd_same, rd_ne, ne_eq, Nat.reduceEqDiff, not_false_eq_true, Nat.reduceLT, g2, g3, g4, hk1v]) <;> rfl) happ.1) ?_
                    refine OpsG.cons (o_assign (by (try simp only [rdF, rd_none, rd_same, rd_ne, ne_eq, Nat.reduceEqDiff, not_false_eq_true, Nat.reduceLT, g2, g3, g4, hk1v]) <;> rfl)) ?_
                    refine OpsG.nil ?_
                    repeat (refine GoP.seq ?_)
                    refine GoP.goto ?_
                    exact ⟨_, rfl, rb, sb, rv4, _, bs.drop 2, _, ls ++ [.tick (rnV 1 (bs.drop 1))], _, (by (try simp only [rdF, rd_none, rd_same, rd_ne, ne_eq, Nat.reduceEqDiff, not_false_eq_true, Nat.reduceLT, g2, g3, g4, hk1v]) <;> rfl), (by (try simp only [rdF, rd_none, rd_same, rd_ne, ne_eq, Nat.reduceEqDiff, not_false_eq_true, Nat.reduceLT, g2, g3, g4, hk1v]) <;> rfl), (by (try simp only [rdF, rd_none, rd_same, rd_ne, ne_eq, Nat.reduceEqDiff, not_false_eq_true, Nat.reduceLT, g2, g3, g4, hk1v]) <;> rfl), (by rw [List.map_append]; exact happ.2), (by rw [← hL]; simp), (by simp only [List.length_append, List.length_cons, List.length_nil, List.length_drop]; omega), rfl, rfl⟩
end Go.Proofs.YtfffmmgmjlfkoaaGreat
