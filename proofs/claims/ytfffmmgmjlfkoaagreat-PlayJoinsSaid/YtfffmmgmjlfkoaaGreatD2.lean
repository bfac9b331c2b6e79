/- Slots that are written -/
import Derived.Test.YtfffmmgmjlfkoaaGreatD1
namespace Go.Proofs.YtfffmmgmjlfkoaaGreat
set_option linter.unusedSimpArgs false
set_option linter.unusedVariables false
open Go.As

noncomputable def code157 : Code := match Tryz.f157.body with | some c => c | none => .skip
theorem code157_eq : Tryz.f157.body = some code157 := by kernel_rfl
theorem ok157 : fnOk Tryz.f157 = true := by kernel_rfl
set_option maxRecDepth 8000 in
theorem sput_con {σ : St} {k f p : Int} (hk : (k = 0 ∧ f = 0 ∧ p = 0) ∨ k = 1 ∨ k = 2 ∨ k = 3) : Con Tryz.prog 157 [sl k f p] σ (fun v σ' => v = .int .u64 (putV k f p) ∧ But σ σ' fun _ => False) := by
  refine Con.of_goP (nt := 19) (rs := [.tmp 2]) Tryz.func157 code157_eq ok157 rfl rfl (by simp) ?_
  have f0 : rdT 19 (fill .nil 0 [sl k f p]) 0 = sl k f p := rfl
  generalize fill .nil 0 [sl k f p] = t at f0
  unfold code157 Tryz.f157
  repeat (refine GoP.seq ?_)
  refine GoP.region ?_ ?_
  · rfl
  refine OpsG.cons (o_box (by (try simp only [rdF, rd_none, rd_same, rd_ne, ne_eq, Nat.reduceEqDiff, not_false_eq_true, Nat.reduceLT, f0]) <;> rfl) (cl_3 ..)) ?_
  refine OpsG.cons (o_assign (by (try simp only [rdF, rd_none, rd_same, rd_ne, ne_eq, Nat.reduceEqDiff, not_false_eq_true, Nat.reduceLT, f0]) <;> rfl)) ?_
  refine OpsG.nil ?_
  repeat (refine GoP.seq ?_)
  refine GoP.region ?_ ?_
  · rfl
  refine OpsG.cons (o_load (by (try simp only [rdF, rd_none, rd_same, rd_ne, ne_eq, Nat.reduceEqDiff, not_false_eq_true, Nat.reduceLT, f0]) <;> rfl) (by (try simp (disch := omega) only [St.get_room, St.get_at_eq, St.get_at_ne, St.get_put_eq, St.get_put_ne, St.get_add_eq, St.get_add_ne, St.get_del_ne, St.next_at, St.next_put', St.next_room, St.next_add', St.next_del']) <;> rfl) (by rw [p_226]; simp only [List.length_cons, List.length_nil, List.drop_succ_cons, List.drop_zero, List.take_succ_cons, List.take_zero, Nat.reduceAdd, Nat.reduceLeDiff, Nat.zero_add, if_true]; rfl)) ?_
  refine OpsG.call (by (try simp only [List.map_cons, List.map_nil, rdF, rd_none, rd_same, rd_ne, ne_eq, Nat.reduceEqDiff, not_false_eq_true, Nat.reduceLT, f0]) <;> rfl) (Con.of_calls (may_ok hk)) ?_
  rintro v σ1 ⟨rfl, rfl⟩
  refine OpsG.cons (o_un (by (try simp only [rdF, rd_none, rd_same, rd_ne, ne_eq, Nat.reduceEqDiff, not_false_eq_true, Nat.reduceLT, f0]) <;> rfl) un_not) ?_
  refine OpsG.nil ?_
  repeat (refine GoP.seq ?_)
  refine GoP.cond (by rfl) (by (try simp only [rdF, rd_none, rd_same, rd_ne, ne_eq, Nat.reduceEqDiff, not_false_eq_true, Nat.reduceLT, f0]) <;> rfl) (fun hc => ?_) (fun hc => ?_)
  ·
    repeat (refine GoP.seq ?_)
    refine GoP.region ?_ ?_
    · rfl
    refine OpsG.cons (o_assign (by (try simp only [rdF, rd_none, rd_same, rd_ne, ne_eq, Nat.reduceEqDiff, not_false_eq_true, Nat.reduceLT, f0]) <;> rfl)) ?_
    refine OpsG.nil ?_
    repeat (refine GoP.seq ?_)
    refine GoP.ret ?_
    refine ⟨.inl rfl, [.int .u64 0], ?_, ?_⟩
    · exact (by (try simp only [resAllF, resOneF, rdF, rd_none, rd_same, rd_ne, ne_eq, Nat.reduceEqDiff, not_false_eq_true, Nat.reduceLT, f0]) <;> rfl)
    · exact ⟨by show _ = Value.int .u64 (putV k f p); unfold putV; rw [show mayV k f p = false by simpa using hc]; rfl, (But.refl _ _).at (Nat.le_refl _) (Nat.le_succ _)⟩
  ·
    repeat (refine GoP.seq ?_)
    refine GoP.skip ?_
    repeat (refine GoP.seq ?_)
    refine GoP.region ?_ ?_
    · rfl
    refine OpsG.cons (o_field (by (try simp only [rdF, rd_none, rd_same, rd_ne, ne_eq, Nat.reduceEqDiff, not_false_eq_true, Nat.reduceLT, f0]) <;> rfl) (fa_226_0 _ _)) ?_
    refine OpsG.cons (o_load (by (try simp only [rdF, rd_none, rd_same, rd_ne, ne_eq, Nat.reduceEqDiff, not_false_eq_true, Nat.reduceLT, f0]) <;> rfl) (by (try simp (disch := omega) only [St.get_room, St.get_at_eq, St.get_at_ne, St.get_put_eq, St.get_put_ne, St.get_add_eq, St.get_add_ne, St.get_del_ne, St.next_at, St.next_put', St.next_room, St.next_add', St.next_del']) <;> rfl) (by rw [p_3]; rfl)) ?_
    refine OpsG.cons (o_convert rfl (by (try simp only [rdF, rd_none, rd_same, rd_ne, ne_eq, Nat.reduceEqDiff, not_false_eq_true, Nat.reduceLT, f0]) <;> rfl) (cv_3_26 _)) ?_
    refine OpsG.cons (o_field (by (try simp only [rdF, rd_none, rd_same, rd_ne, ne_eq, Nat.reduceEqDiff, not_false_eq_true, Nat.reduceLT, f0]) <;> rfl) (fa_226_2 _ _)) ?_
    refine OpsG.cons (o_load (by (try simp only [rdF, rd_none, rd_same, rd_ne, ne_eq, Nat.reduceEqDiff, not_false_eq_true, Nat.reduceLT, f0]) <;> rfl) (by (try simp (disch := omega) only [St.get_room, St.get_at_eq, St.get_at_ne, St.get_put_eq, St.get_put_ne, St.get_add_eq, St.get_add_ne, St.get_del_ne, St.next_at, St.next_put', St.next_room, St.next_add', St.next_del']) <;> rfl) (by rw [p_3]; rfl)) ?_
    refine OpsG.cons (o_convert rfl (by (try simp only [rdF, rd_none, rd_same, rd_ne, ne_eq, Nat.reduceEqDiff, not_false_eq_true, Nat.reduceLT, f0]) <;> rfl) (cv_3_26 _)) ?_
    refine OpsG.cons (o_bin (by (try simp only [rdF, rd_none, rd_same, rd_ne, ne_eq, Nat.reduceEqDiff, not_false_eq_true, Nat.reduceLT, f0]) <;> rfl) (by (try simp only [rdF, rd_none, rd_same, rd_ne, ne_eq, Nat.reduceEqDiff, not_false_eq_true, Nat.reduceLT, f0]) <;> rfl) (b_shl (by omega))) ?_
    refine OpsG.cons (o_bin (by (try simp only [rdF, rd_none, rd_same, rd_ne, ne_eq, Nat.reduceEqDiff, not_false_eq_true, Nat.reduceLT, f0]) <;> rfl) (by (try simp only [rdF, rd_none, rd_same, rd_ne, ne_eq, Nat.reduceEqDiff, not_false_eq_true, Nat.reduceLT, f0]) <;> rfl) b_or) ?_
    refine OpsG.cons (o_field (by (try simp only [rdF, rd_none, rd_same, rd_ne, ne_eq, Nat.reduceEqDiff, not_false_eq_true, Nat.reduceLT, f0]) <;> rfl) (fa_226_1 _ _)) ?_
    refine OpsG.cons (o_load (by (try simp only [rdF, rd_none, rd_same, rd_ne, ne_eq, Nat.reduceEqDiff, not_false_eq_true, Nat.reduceLT, f0]) <;> rfl) (by (try simp (disch := omega) only [St.get_room, St.get_at_eq, St.get_at_ne, St.get_put_eq, St.get_put_ne, St.get_add_eq, St.get_add_ne, St.get_del_ne, St.next_at, St.next_put', St.next_room, St.next_add', St.next_del']) <;> rfl) (by rw [p_3]; rfl)) ?_
    refine OpsG.cons (o_convert rfl (by (try simp only [rdF, rd_none, rd_same, rd_ne, ne_eq, Nat.reduceEqDiff, not_false_eq_true, Nat.reduceLT, f0]) <;> rfl) (cv_3_26 _)) ?_
    refine OpsG.cons (o_bin (by (try simp only [rdF, rd_none, rd_same, rd_ne, ne_eq, Nat.reduceEqDiff, not_false_eq_true, Nat.reduceLT, f0]) <;> rfl) (by (try simp only [rdF, rd_none, rd_same, rd_ne, ne_eq, Nat.reduceEqDiff, not_false_eq_true, Nat.reduceLT, f0]) <;> rfl) (b_shl (by omega))) ?_
    refine OpsG.cons (o_bin (by (try simp only [rdF, rd_none, rd_same, rd_ne, ne_eq, Nat.reduceEqDiff, not_false_eq_true, Nat.reduceLT, f0]) <;> rfl) (by (try simp only [rdF, rd_none, rd_same, rd_ne, ne_eq, Nat.reduceEqDiff, not_false_eq_true, Nat.reduceLT, f0]) <;> rfl) b_or) ?_
    refine OpsG.cons (o_assign (by (try simp only [rdF, rd_none, rd_same, rd_ne, ne_eq, Nat.reduceEqDiff, not_false_eq_true, Nat.reduceLT, f0]) <;> rfl)) ?_
    refine OpsG.nil ?_
    repeat (refine GoP.seq ?_)
    refine GoP.ret ?_
    refine ⟨.inl rfl, [.int .u64 (orV (orV (IntKind.u64.wrap k) (shlV (IntKind.u64.wrap p) 2)) (shlV (IntKind.u64.wrap f) 12))], ?_, ?_⟩
    · exact (by (try simp only [resAllF, resOneF, rdF, rd_none, rd_same, rd_ne, ne_eq, Nat.reduceEqDiff, not_false_eq_true, Nat.reduceLT, f0]) <;> rfl)
    · exact ⟨by show _ = Value.int .u64 (putV k f p); unfold putV; rw [show mayV k f p = true by simpa using hc]; rfl, (But.refl _ _).at (Nat.le_refl _) (Nat.le_succ _)⟩
theorem closed_back {v : Value} (hc : closedV v = true) : ∀ (f f' : Inj) (v' : Value), Inj.le f f' → VRel f' v v' → VRel f v v' := fun f f' v' hl hv => (VRel.closed f hc).back hl hv
theorem sput_quiet {σ : St} {k f p : Int} (hk : (k = 0 ∧ f = 0 ∧ p = 0) ∨ k = 1 ∨ k = 2 ∨ k = 3) : Callable Tryz.prog 157 ∧ CallsA Tryz.prog 157 [sl k f p] σ (.int .u64 (putV k f p)) σ := (sput_con hk).quiet (disc_back rfl rfl)
theorem setw_quiet {σ : St} {mb rb nf bl : Nat} {fr n x sec : Int} {e : TypeId} {kd : Kd} (hm : σ.get mb = some (.cells [.slice (some ⟨rb, 0, none⟩) nf nf, .int .i64 sec] e kd)) (hr : σ.get rb = some (.blob bl)) (hbl : nf * 128 ≤ bl) (hrn : rb < σ.next)
    (hf0 : 0 ≤ fr) (hf : fr < nf) (h0 : 0 ≤ n) (h1 : n < 16) : Callable Tryz.prog 97 ∧ CallsA Tryz.prog 97 [.pointer (some ⟨mb, 0, none⟩), .bool true, .int .i64 fr, .int .i64 n, .int .u64 x] σ (.int .i64 0) σ := (setw_con hm hr hbl hrn hf0 hf h0 h1).quiet (disc_back rfl rfl)
noncomputable def code107 : Code := match Tryz.f107.body with | some c => c | none => .skip
theorem code107_eq : Tryz.f107.body = some code107 := by kernel_rfl
theorem ok107 : fnOk Tryz.f107 = true := by kernel_rfl
set_option maxRecDepth 8000 in
theorem tput_con {σ : St} {tb : Nat} {more : List Value} {e1 : TypeId} {kd1 : Kd} {mb rb nf bl : Nat} {sec : Int} {e : TypeId} {kd : Kd} (hm : σ.get mb = some (.cells [.slice (some ⟨rb, 0, none⟩) nf nf, .int .i64 sec] e kd)) (hr : σ.get rb = some (.blob bl)) (hbl : nf * 128 ≤ bl) (hrn : rb < σ.next) (hmn : mb < σ.next) (ht : σ.get tb = some (.cells (.pointer (some ⟨mb, 0, none⟩) :: more) e1 kd1)) (htn : tb < σ.next) {fr n k f p : Int} (hf0 : 0 ≤ fr) (hf : fr < nf) (h0 : 0 ≤ n) (h1 : n < 16) (hk : (k = 0 ∧ f = 0 ∧ p = 0) ∨ k = 1 ∨ k = 2 ∨ k = 3) : Con Tryz.prog 107 [.pointer (some ⟨tb, 0, none⟩), .int .i64 fr, .int .i64 n, sl k f p] σ (fun v σ' => v = .tuple #[] ∧ But σ σ' fun _ => False) := by
  refine Con.of_goP (nt := 17) (rs := []) Tryz.func107 code107_eq ok107 rfl rfl (by simp) ?_
  have f0 : rdT 17 (fill .nil 0 [.pointer (some ⟨tb, 0, none⟩), .int .i64 fr, .int .i64 n, sl k f p]) 0 = .pointer (some ⟨tb, 0, none⟩) := rfl
  have f1 : rdT 17 (fill .nil 0 [.pointer (some ⟨tb, 0, none⟩), .int .i64 fr, .int .i64 n, sl k f p]) 1 = .int .i64 fr := rfl
  have f2 : rdT 17 (fill .nil 0 [.pointer (some ⟨tb, 0, none⟩), .int .i64 fr, .int .i64 n, sl k f p]) 2 = .int .i64 n := rfl
  have f3 : rdT 17 (fill .nil 0 [.pointer (some ⟨tb, 0, none⟩), .int .i64 fr, .int .i64 n, sl k f p]) 3 = sl k f p := rfl
  generalize fill .nil 0 [.pointer (some ⟨tb, 0, none⟩), .int .i64 fr, .int .i64 n, sl k f p] = t at f0 f1 f2 f3
  unfold code107 Tryz.f107
  repeat (refine GoP.seq ?_)
  have hm2 : ((σ.at σ.next (.cells [.int .i64 k, .int .i64 f, .int .i64 p] 226 .ex) (σ.next + 1)).room 9).get mb = some (.cells [.slice (some ⟨rb, 0, none⟩) nf nf, .int .i64 sec] e kd) := by simp (disch := omega) only [St.get_room, St.get_at_ne, hm]
  have hr2 : ((σ.at σ.next (.cells [.int .i64 k, .int .i64 f, .int .i64 p] 226 .ex) (σ.next + 1)).room 9).get rb = some (.blob bl) := by simp (disch := omega) only [St.get_room, St.get_at_ne, hr]
  have c1 := sput_quiet (σ := ((σ.at σ.next (.cells [.int .i64 k, .int .i64 f, .int .i64 p] 226 .ex) (σ.next + 1)).room 9)) hk
  have c2 := setw_quiet (σ := ((σ.at σ.next (.cells [.int .i64 k, .int .i64 f, .int .i64 p] 226 .ex) (σ.next + 1)).room 9)) (x := putV k f p) hm2 hr2 hbl (by simp only [St.next_room, St.next_at]; omega) hf0 hf h0 h1
  refine GoP.region ?_ ?_
  · rfl
  refine OpsG.cons (o_box (by (try simp only [rdF, rd_none, rd_same, rd_ne, ne_eq, Nat.reduceEqDiff, not_false_eq_true, Nat.reduceLT, f0, f1, f2, f3]) <;> rfl) (cl_3 ..)) ?_
  refine OpsG.nil ?_
  repeat (refine GoP.seq ?_)
  refine GoP.drawn (kTwo_ok (kOne_ok c1) (kOne_ok c2)) mixed ?_ ?_ ?_
  · rfl
  · kernel_rfl
  refine TrP.cons (o_move (by (try simp only [rdF, rd_none, rd_same, rd_ne, ne_eq, Nat.reduceEqDiff, not_false_eq_true, Nat.reduceLT, f0, f1, f2, f3]) <;> rfl)) ?_
  refine TrP.cons (o_nil (by (try simp only [rdF, rd_none, rd_same, rd_ne, ne_eq, Nat.reduceEqDiff, not_false_eq_true, Nat.reduceLT, f0, f1, f2, f3]) <;> rfl)) ?_
  refine TrP.cons (o_field (by (try simp only [rdF, rd_none, rd_same, rd_ne, ne_eq, Nat.reduceEqDiff, not_false_eq_true, Nat.reduceLT, f0, f1, f2, f3]) <;> rfl) (fa_173_0 _ _)) ?_
  refine TrP.cons (o_load (by (try simp only [rdF, rd_none, rd_same, rd_ne, ne_eq, Nat.reduceEqDiff, not_false_eq_true, Nat.reduceLT, f0, f1, f2, f3]) <;> rfl) (by (try simp (disch := omega) only [St.get_room, St.get_at_eq, St.get_at_ne, St.get_put_eq, St.get_put_ne, St.get_add_eq, St.get_add_ne, St.get_del_ne, St.next_at, St.next_put', St.next_room, St.next_add', St.next_del', ht]) <;> rfl) (by rw [p_86]; rfl)) ?_
  refine TrP.cons (o_move (by (try simp only [rdF, rd_none, rd_same, rd_ne, ne_eq, Nat.reduceEqDiff, not_false_eq_true, Nat.reduceLT, f0, f1, f2, f3]) <;> rfl)) ?_
  refine TrP.cons (o_move (by (try simp only [rdF, rd_none, rd_same, rd_ne, ne_eq, Nat.reduceEqDiff, not_false_eq_true, Nat.reduceLT, f0, f1, f2, f3]) <;> rfl)) ?_
  refine TrP.cons (o_load (by (try simp only [rdF, rd_none, rd_same, rd_ne, ne_eq, Nat.reduceEqDiff, not_false_eq_true, Nat.reduceLT, f0, f1, f2, f3]) <;> rfl) (by (try simp (disch := omega) only [St.get_room, St.get_at_eq, St.get_at_ne, St.get_put_eq, St.get_put_ne, St.get_add_eq, St.get_add_ne, St.get_del_ne, St.next_at, St.next_put', St.next_room, St.next_add', St.next_del', ht]) <;> rfl) (by rw [p_226]; simp only [List.length_cons, List.length_nil, List.drop_succ_cons, List.drop_zero, List.take_succ_cons, List.take_zero, Nat.reduceAdd, Nat.reduceLeDiff, Nat.zero_add, if_true]; rfl)) ?_
  refine TrP.cons (o_call0 rfl (by (try simp only [List.map_cons, List.map_nil, rdF, rd_none, rd_same, rd_ne, ne_eq, Nat.reduceEqDiff, not_false_eq_true, Nat.reduceLT, f0, f1, f2, f3]) <;> rfl) (kTwo_fst kOne_at)) ?_
  refine TrP.cons (o_call0 rfl (by (try simp only [List.map_cons, List.map_nil, rdF, rd_none, rd_same, rd_ne, ne_eq, Nat.reduceEqDiff, not_false_eq_true, Nat.reduceLT, f0, f1, f2, f3]) <;> rfl) (kTwo_snd (by decide) kOne_at)) ?_
  refine TrP.nil ⟨ChecksG.of (l1 := [(3, 7)]) (l2 := []) (by kernel_rfl) (by kernel_rfl) ?_ ?_, ?_⟩
  · simp only [List.forall_mem_cons, List.not_mem_nil, false_implies, implies_true, and_true]
    repeat' apply And.intro
    all_goals exact fun _ _ _ => rfl
  · simp only [List.forall_mem_cons, List.not_mem_nil, false_implies, implies_true, and_true]; try trivial
  refine ⟨.inr rfl, [], ?_, ?_⟩
  · exact (by (try simp only [resAllF, resOneF, rdF, rd_none, rd_same, rd_ne, ne_eq, Nat.reduceEqDiff, not_false_eq_true, Nat.reduceLT, f0, f1, f2, f3]) <;> rfl)
  · exact ⟨rfl, ((But.refl _ _).at (Nat.le_refl _) (Nat.le_succ _)).room _⟩
theorem tput_quiet {σ : St} {tb : Nat} {more : List Value} {e1 : TypeId} {kd1 : Kd} {mb rb nf bl : Nat} {sec : Int} {e : TypeId} {kd : Kd} (hm : σ.get mb = some (.cells [.slice (some ⟨rb, 0, none⟩) nf nf, .int .i64 sec] e kd)) (hr : σ.get rb = some (.blob bl)) (hbl : nf * 128 ≤ bl) (hrn : rb < σ.next) (hmn : mb < σ.next) (ht : σ.get tb = some (.cells (.pointer (some ⟨mb, 0, none⟩) :: more) e1 kd1)) (htn : tb < σ.next) {fr n k f p : Int} (hf0 : 0 ≤ fr) (hf : fr < nf) (h0 : 0 ≤ n) (h1 : n < 16) (hk : (k = 0 ∧ f = 0 ∧ p = 0) ∨ k = 1 ∨ k = 2 ∨ k = 3) :
    Callable Tryz.prog 107 ∧ CallsA Tryz.prog 107 [.pointer (some ⟨tb, 0, none⟩), .int .i64 fr, .int .i64 n, sl k f p] σ (.tuple #[]) σ := (tput_con hm hr hbl hrn hmn ht htn hf0 hf h0 h1 hk).quiet (closed_back rfl)
end Go.Proofs.YtfffmmgmjlfkoaaGreat
