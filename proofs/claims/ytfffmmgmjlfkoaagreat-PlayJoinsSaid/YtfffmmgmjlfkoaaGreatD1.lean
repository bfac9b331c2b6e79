/- Words of frames -/
import Derived.Test.YtfffmmgmjlfkoaaGreatC15
import Derived.Test.YtfffmmgmjlfkoaaGreatT1
namespace Go.Proofs.YtfffmmgmjlfkoaaGreat
set_option linter.unusedSimpArgs false
set_option linter.unusedVariables false
open Go.As

noncomputable def code149 : Code := match Tryz.f149.body with | some c => c | none => .skip
theorem code149_eq : Tryz.f149.body = some code149 := by kernel_rfl
theorem ok149 : fnOk Tryz.f149 = true := by kernel_rfl
set_option maxRecDepth 8000 in
theorem word_con {σ : St} {n : Int} (h0 : 0 ≤ n) (h1 : n < 16) : Con Tryz.prog 149 [.int .i64 n] σ (fun v σ' => v = .int .i64 (n * 8) ∧ σ' = σ) := by
  refine Con.of_goP (nt := 11) (rs := [.tmp 2]) Tryz.func149 code149_eq ok149 rfl rfl (by simp) ?_
  have f0 : rdT 11 (fill .nil 0 [.int .i64 n]) 0 = .int .i64 n := rfl
  generalize fill .nil 0 [.int .i64 n] = t at f0
  unfold code149 Tryz.f149
  repeat (refine GoP.seq ?_)
  have q1 : decide (n < 0) = false := by simp; omega
  have q2 : decide (n ≥ 16) = false := by simp; omega
  refine GoP.region ?_ ?_
  · rfl
  refine OpsG.cons (o_assign (by (try simp only [rdF, rd_none, rd_same, rd_ne, ne_eq, Nat.reduceEqDiff, not_false_eq_true, Nat.reduceLT, f0, q1, q2]) <;> rfl)) ?_
  refine OpsG.nil ?_
  repeat (refine GoP.seq ?_)
  refine GoP.region ?_ ?_
  · rfl
  refine OpsG.cons (o_move (by (try simp only [rdF, rd_none, rd_same, rd_ne, ne_eq, Nat.reduceEqDiff, not_false_eq_true, Nat.reduceLT, f0, q1, q2]) <;> rfl)) ?_
  refine OpsG.cons (o_bin (by (try simp only [rdF, rd_none, rd_same, rd_ne, ne_eq, Nat.reduceEqDiff, not_false_eq_true, Nat.reduceLT, f0, q1, q2]) <;> rfl) (by (try simp only [rdF, rd_none, rd_same, rd_ne, ne_eq, Nat.reduceEqDiff, not_false_eq_true, Nat.reduceLT, f0, q1, q2]) <;> rfl) binA_lss) ?_
  refine OpsG.cons (o_move (by (try simp only [rdF, rd_none, rd_same, rd_ne, ne_eq, Nat.reduceEqDiff, not_false_eq_true, Nat.reduceLT, f0, q1, q2]) <;> rfl)) ?_
  refine OpsG.want (by rfl) (by rfl) (by (try simp only [rdF, rd_none, rd_same, rd_ne, ne_eq, Nat.reduceEqDiff, not_false_eq_true, Nat.reduceLT, f0, q1, q2]) <;> rfl) (o_move (by (try simp only [rdF, rd_none, rd_same, rd_ne, ne_eq, Nat.reduceEqDiff, not_false_eq_true, Nat.reduceLT, f0, q1, q2]) <;> rfl)) ?_
  refine OpsG.want (by rfl) (by rfl) (by (try simp only [rdF, rd_none, rd_same, rd_ne, ne_eq, Nat.reduceEqDiff, not_false_eq_true, Nat.reduceLT, f0, q1, q2]) <;> rfl) (o_bin (by (try simp only [rdF, rd_none, rd_same, rd_ne, ne_eq, Nat.reduceEqDiff, not_false_eq_true, Nat.reduceLT, f0, q1, q2]) <;> rfl) (by (try simp only [rdF, rd_none, rd_same, rd_ne, ne_eq, Nat.reduceEqDiff, not_false_eq_true, Nat.reduceLT, f0, q1, q2]) <;> rfl) binA_geq) ?_
  refine OpsG.cons (o_pickF (by (try simp only [rdF, rd_none, rd_same, rd_ne, ne_eq, Nat.reduceEqDiff, not_false_eq_true, Nat.reduceLT, f0, q1, q2]) <;> rfl) (by (try simp only [rdF, rd_none, rd_same, rd_ne, ne_eq, Nat.reduceEqDiff, not_false_eq_true, Nat.reduceLT, f0, q1, q2]) <;> rfl)) ?_
  refine OpsG.nil ?_
  repeat (refine GoP.seq ?_)
  refine GoP.cond_false (by rfl) (by (try simp only [rdF, rd_none, rd_same, rd_ne, ne_eq, Nat.reduceEqDiff, not_false_eq_true, Nat.reduceLT, f0, q1, q2]) <;> rfl) ?_
  repeat (refine GoP.seq ?_)
  refine GoP.skip ?_
  repeat (refine GoP.seq ?_)
  refine GoP.region ?_ ?_
  · rfl
  refine OpsG.cons (o_move (by (try simp only [rdF, rd_none, rd_same, rd_ne, ne_eq, Nat.reduceEqDiff, not_false_eq_true, Nat.reduceLT, f0, q1, q2]) <;> rfl)) ?_
  refine OpsG.cons (o_bin (by (try simp only [rdF, rd_none, rd_same, rd_ne, ne_eq, Nat.reduceEqDiff, not_false_eq_true, Nat.reduceLT, f0, q1, q2]) <;> rfl) (by (try simp only [rdF, rd_none, rd_same, rd_ne, ne_eq, Nat.reduceEqDiff, not_false_eq_true, Nat.reduceLT, f0, q1, q2]) <;> rfl) (by first | (refine b_mul64 ?_ ?_ <;> omega) | exact binA_mul)) ?_
  refine OpsG.cons (o_assign (by (try simp only [rdF, rd_none, rd_same, rd_ne, ne_eq, Nat.reduceEqDiff, not_false_eq_true, Nat.reduceLT, f0, q1, q2]) <;> rfl)) ?_
  refine OpsG.nil ?_
  repeat (refine GoP.seq ?_)
  refine GoP.ret ?_
  refine ⟨.inl rfl, [.int .i64 (n * 8)], ?_, ?_⟩
  · exact (by (try simp only [resAllF, resOneF, rdF, rd_none, rd_same, rd_ne, ne_eq, Nat.reduceEqDiff, not_false_eq_true, Nat.reduceLT, f0, q1, q2]) <;> rfl)
  · exact ⟨rfl, rfl⟩
noncomputable def code97 : Code := match Tryz.f97.body with | some c => c | none => .skip
theorem code97_eq : Tryz.f97.body = some code97 := by kernel_rfl
theorem ok97 : fnOk Tryz.f97 = true := by kernel_rfl
theorem at_con {σ : St} {mb rb nf : Nat} {fr o n sec : Int} {e : TypeId} {kd : Kd} (hm : σ.get mb = some (.cells [.slice (some ⟨rb, 0, none⟩) nf nf, .int .i64 sec] e kd)) (hf0 : 0 ≤ fr) (hf : fr < nf) (hn0 : 0 < n) (ho : 0 ≤ o) (hn : o + n ≤ 128) :
    Con Tryz.prog 100 [.pointer (some ⟨mb, 0, none⟩), .bool true, .int .i64 fr, .int .i64 o, .int .i64 n] σ (fun v σ' => v = .slice (some ⟨rb, fr.toNat * 128 + o.toNat, none⟩) n.toNat n.toNat ∧ σ' = σ) := by
  obtain ⟨fr, rfl⟩ := Int.eq_ofNat_of_zero_le hf0
  obtain ⟨o, rfl⟩ := Int.eq_ofNat_of_zero_le ho
  obtain ⟨n, rfl⟩ := Int.eq_ofNat_of_zero_le (Int.le_of_lt hn0)
  have h := call_of_evP (noK_ok _) mixed (fn := Tryz.f100) (n := 3) (args := [.pointer (some ⟨mb, 0, none⟩), .bool true, .int .i64 (fr : Int), .int .i64 (o : Int), .int .i64 (n : Int)]) (R := fun v σ' => v = .slice (some ⟨rb, fr * 128 + o, none⟩) n n ∧ σ' = σ) Tryz.func100 atCode_eq (by kernel_rfl) (by show 5 ≤ 68; omega)
    ((at_walk (σ := σ) hm (by omega) (by omega) (by omega)).mono fun e t σ' ⟨h1, h2, h3⟩ => ⟨.inl h1, [.slice (some ⟨rb, fr * 128 + o, none⟩) n n], by rw [← h3]; rfl, rfl, h2⟩)
  obtain ⟨v, σ', ⟨rfl, rfl⟩, h1, h2⟩ := h
  exact ⟨_, _, ⟨h1, h2⟩, by simp, rfl⟩

set_option maxRecDepth 8000 in
theorem setw_con {σ : St} {mb rb nf bl : Nat} {fr n x sec : Int} {e : TypeId} {kd : Kd} (hm : σ.get mb = some (.cells [.slice (some ⟨rb, 0, none⟩) nf nf, .int .i64 sec] e kd)) (hr : σ.get rb = some (.blob bl)) (hbl : nf * 128 ≤ bl) (hrn : rb < σ.next)
    (hf0 : 0 ≤ fr) (hf : fr < nf) (h0 : 0 ≤ n) (h1 : n < 16) : Con Tryz.prog 97 [.pointer (some ⟨mb, 0, none⟩), .bool true, .int .i64 fr, .int .i64 n, .int .u64 x] σ (fun v σ' => v = .int .i64 0 ∧ But σ σ' fun _ => False) := by
  refine Con.of_goP (nt := 35) (rs := [.tmp 10]) Tryz.func97 code97_eq ok97 rfl rfl (by simp) ?_
  have f0 : rdT 35 (fill .nil 0 [.pointer (some ⟨mb, 0, none⟩), .bool true, .int .i64 fr, .int .i64 n, .int .u64 x]) 0 = .pointer (some ⟨mb, 0, none⟩) := rfl
  have f1 : rdT 35 (fill .nil 0 [.pointer (some ⟨mb, 0, none⟩), .bool true, .int .i64 fr, .int .i64 n, .int .u64 x]) 1 = .bool true := rfl
  have f2 : rdT 35 (fill .nil 0 [.pointer (some ⟨mb, 0, none⟩), .bool true, .int .i64 fr, .int .i64 n, .int .u64 x]) 2 = .int .i64 fr := rfl
  have f3 : rdT 35 (fill .nil 0 [.pointer (some ⟨mb, 0, none⟩), .bool true, .int .i64 fr, .int .i64 n, .int .u64 x]) 3 = .int .i64 n := rfl
  have f4 : rdT 35 (fill .nil 0 [.pointer (some ⟨mb, 0, none⟩), .bool true, .int .i64 fr, .int .i64 n, .int .u64 x]) 4 = .int .u64 x := rfl
  generalize fill .nil 0 [.pointer (some ⟨mb, 0, none⟩), .bool true, .int .i64 fr, .int .i64 n, .int .u64 x] = t at f0 f1 f2 f3 f4
  unfold code97 Tryz.f97
  repeat (refine GoP.seq ?_)
  refine GoP.region ?_ ?_
  · rfl
  refine OpsG.cons (o_assign (by (try simp only [rdF, rd_none, rd_same, rd_ne, ne_eq, Nat.reduceEqDiff, not_false_eq_true, Nat.reduceLT, f0, f1, f2, f3, f4]) <;> rfl)) ?_
  refine OpsG.nil ?_
  repeat (refine GoP.seq ?_)
  refine GoP.region ?_ ?_
  · rfl
  refine OpsG.cons (o_move (by (try simp only [rdF, rd_none, rd_same, rd_ne, ne_eq, Nat.reduceEqDiff, not_false_eq_true, Nat.reduceLT, f0, f1, f2, f3, f4]) <;> rfl)) ?_
  refine OpsG.cons (o_move (by (try simp only [rdF, rd_none, rd_same, rd_ne, ne_eq, Nat.reduceEqDiff, not_false_eq_true, Nat.reduceLT, f0, f1, f2, f3, f4]) <;> rfl)) ?_
  refine OpsG.cons (o_move (by (try simp only [rdF, rd_none, rd_same, rd_ne, ne_eq, Nat.reduceEqDiff, not_false_eq_true, Nat.reduceLT, f0, f1, f2, f3, f4]) <;> rfl)) ?_
  refine OpsG.cons (o_move (by (try simp only [rdF, rd_none, rd_same, rd_ne, ne_eq, Nat.reduceEqDiff, not_false_eq_true, Nat.reduceLT, f0, f1, f2, f3, f4]) <;> rfl)) ?_
  refine OpsG.call (by (try simp only [List.map_cons, List.map_nil, rdF, rd_none, rd_same, rd_ne, ne_eq, Nat.reduceEqDiff, not_false_eq_true, Nat.reduceLT, f0, f1, f2, f3, f4]) <;> rfl) (word_con h0 h1) ?_
  rintro v σ1 ⟨rfl, rfl⟩
  refine OpsG.call (by (try simp only [List.map_cons, List.map_nil, rdF, rd_none, rd_same, rd_ne, ne_eq, Nat.reduceEqDiff, not_false_eq_true, Nat.reduceLT, f0, f1, f2, f3, f4]) <;> rfl) (at_con hm hf0 hf (by omega) (by omega) (by omega)) ?_
  rintro v σ1 ⟨rfl, rfl⟩
  refine OpsG.cons (o_assign (by (try simp only [rdF, rd_none, rd_same, rd_ne, ne_eq, Nat.reduceEqDiff, not_false_eq_true, Nat.reduceLT, f0, f1, f2, f3, f4]) <;> rfl)) ?_
  refine OpsG.nil ?_
  repeat (refine GoP.seq ?_)
  refine GoP.region ?_ ?_
  · rfl
  refine OpsG.cons (o_move (by (try simp only [rdF, rd_none, rd_same, rd_ne, ne_eq, Nat.reduceEqDiff, not_false_eq_true, Nat.reduceLT, f0, f1, f2, f3, f4]) <;> rfl)) ?_
  refine OpsG.cons (o_bin (by (try simp only [rdF, rd_none, rd_same, rd_ne, ne_eq, Nat.reduceEqDiff, not_false_eq_true, Nat.reduceLT, f0, f1, f2, f3, f4]) <;> rfl) (by (try simp only [rdF, rd_none, rd_same, rd_ne, ne_eq, Nat.reduceEqDiff, not_false_eq_true, Nat.reduceLT, f0, f1, f2, f3, f4]) <;> rfl) (ne_25 ..)) ?_
  refine OpsG.nil ?_
  repeat (refine GoP.seq ?_)
  refine GoP.cond_false (by rfl) (by (try simp only [rdF, rd_none, rd_same, rd_ne, ne_eq, Nat.reduceEqDiff, not_false_eq_true, Nat.reduceLT, f0, f1, f2, f3, f4]) <;> rfl) ?_
  repeat (refine GoP.seq ?_)
  refine GoP.skip ?_
  repeat (refine GoP.seq ?_)
  refine GoP.region ?_ ?_
  · rfl
  refine OpsG.cons (o_move (by (try simp only [rdF, rd_none, rd_same, rd_ne, ne_eq, Nat.reduceEqDiff, not_false_eq_true, Nat.reduceLT, f0, f1, f2, f3, f4]) <;> rfl)) ?_
  refine OpsG.cons (o_builtin rfl (by (try simp only [List.map_cons, List.map_nil, rdF, rd_none, rd_same, rd_ne, ne_eq, Nat.reduceEqDiff, not_false_eq_true, Nat.reduceLT, f0, f1, f2, f3, f4]) <;> rfl) (len_25 ..)) ?_
  refine OpsG.cons (o_move (by (try simp only [rdF, rd_none, rd_same, rd_ne, ne_eq, Nat.reduceEqDiff, not_false_eq_true, Nat.reduceLT, f0, f1, f2, f3, f4]) <;> rfl)) ?_
  refine OpsG.nil ?_
  repeat (refine GoP.seq ?_)
  refine GoP.block ?_
  repeat (refine GoP.seq ?_)
  refine GoP.loop (fun m t σ => ∃ (i : Nat), rdT 35 t 4 = .int .u64 x ∧ rdT 35 t 11 = .slice (some ⟨rb, fr.toNat * 128 + (n * 8).toNat, none⟩) 8 8 ∧ rdT 35 t 22 = .int .i64 8 ∧ rdT 35 t 23 = .int .i64 (i : Int) ∧ (i ≤ 8) ∧ (But σ1 σ fun _ => False) ∧ (σ.get rb = some (.blob bl)) ∧ (rb < σ1.next) ∧ (σ1.get rb = some (.blob bl)) ∧ (fr.toNat * 128 + (n * 8).toNat + 8 ≤ bl) ∧ m = 8 - i) ?_ (m := 8) ?_
  ·
    rintro m t σ ⟨i, g4, g11, g22, g23, hi, hb, hr, hrn2, hr1, hff, rfl⟩
    repeat (refine GoP.seq ?_)
    refine GoP.region ?_ ?_
    · rfl
    refine OpsG.cons (o_bin (by (try simp only [rdF, rd_none, rd_same, rd_ne, ne_eq, Nat.reduceEqDiff, not_false_eq_true, Nat.reduceLT, g4, g11, g22, g23]) <;> rfl) (by (try simp only [rdF, rd_none, rd_same, rd_ne, ne_eq, Nat.reduceEqDiff, not_false_eq_true, Nat.reduceLT, g4, g11, g22, g23]) <;> rfl) binA_lss) ?_
    refine OpsG.nil ?_
    repeat (refine GoP.seq ?_)
    refine GoP.cond (by rfl) (by (try simp only [rdF, rd_none, rd_same, rd_ne, ne_eq, Nat.reduceEqDiff, not_false_eq_true, Nat.reduceLT, g4, g11, g22, g23]) <;> rfl) (fun hc => ?_) (fun hc => ?_)
    ·
      have hi8 : i < 8 := by have := of_decide_eq_true hc; omega
      repeat (refine GoP.seq ?_)
      refine GoP.skip ?_
      repeat (refine GoP.seq ?_)
      refine GoP.block ?_
      repeat (refine GoP.seq ?_)
      refine GoP.region ?_ ?_
      · rfl
      refine OpsG.cons (o_move (by (try simp only [rdF, rd_none, rd_same, rd_ne, ne_eq, Nat.reduceEqDiff, not_false_eq_true, Nat.reduceLT, g4, g11, g22, g23]) <;> rfl)) ?_
      refine OpsG.cons (o_assign (by (try simp only [rdF, rd_none, rd_same, rd_ne, ne_eq, Nat.reduceEqDiff, not_false_eq_true, Nat.reduceLT, g4, g11, g22, g23]) <;> rfl)) ?_
      refine OpsG.nil ?_
      repeat (refine GoP.seq ?_)
      refine GoP.region ?_ ?_
      · rfl
      refine OpsG.cons (o_move (by (try simp only [rdF, rd_none, rd_same, rd_ne, ne_eq, Nat.reduceEqDiff, not_false_eq_true, Nat.reduceLT, g4, g11, g22, g23]) <;> rfl)) ?_
      refine OpsG.cons (o_move (by (try simp only [rdF, rd_none, rd_same, rd_ne, ne_eq, Nat.reduceEqDiff, not_false_eq_true, Nat.reduceLT, g4, g11, g22, g23]) <;> rfl)) ?_
      refine OpsG.cons (o_move (by (try simp only [rdF, rd_none, rd_same, rd_ne, ne_eq, Nat.reduceEqDiff, not_false_eq_true, Nat.reduceLT, g4, g11, g22, g23]) <;> rfl)) ?_
      refine OpsG.cons (o_move (by (try simp only [rdF, rd_none, rd_same, rd_ne, ne_eq, Nat.reduceEqDiff, not_false_eq_true, Nat.reduceLT, g4, g11, g22, g23]) <;> rfl)) ?_
      refine OpsG.cons (o_bin (by (try simp only [rdF, rd_none, rd_same, rd_ne, ne_eq, Nat.reduceEqDiff, not_false_eq_true, Nat.reduceLT, g4, g11, g22, g23]) <;> rfl) (by (try simp only [rdF, rd_none, rd_same, rd_ne, ne_eq, Nat.reduceEqDiff, not_false_eq_true, Nat.reduceLT, g4, g11, g22, g23]) <;> rfl) (by first | (refine b_mul64 ?_ ?_ <;> omega) | exact binA_mul)) ?_
      refine OpsG.cons (o_bin (by (try simp only [rdF, rd_none, rd_same, rd_ne, ne_eq, Nat.reduceEqDiff, not_false_eq_true, Nat.reduceLT, g4, g11, g22, g23]) <;> rfl) (by (try simp only [rdF, rd_none, rd_same, rd_ne, ne_eq, Nat.reduceEqDiff, not_false_eq_true, Nat.reduceLT, g4, g11, g22, g23]) <;> rfl) (b_shr (by omega))) ?_
      refine OpsG.cons (o_convert rfl (by (try simp only [rdF, rd_none, rd_same, rd_ne, ne_eq, Nat.reduceEqDiff, not_false_eq_true, Nat.reduceLT, g4, g11, g22, g23]) <;> rfl) (cv_26_5 _)) ?_
      refine OpsG.cons (o_indexAddr (by (try simp only [rdF, rd_none, rd_same, rd_ne, ne_eq, Nat.reduceEqDiff, not_false_eq_true, Nat.reduceLT, g4, g11, g22, g23]) <;> rfl) (by (try simp only [rdF, rd_none, rd_same, rd_ne, ne_eq, Nat.reduceEqDiff, not_false_eq_true, Nat.reduceLT, g4, g11, g22, g23]) <;> rfl) (by first | (refine ixn_25 ?_; omega) | (refine ixi_25 ?_ ?_ <;> omega))) ?_
      refine OpsG.cons (o_storeBlob (by (try simp only [rdF, rd_none, rd_same, rd_ne, ne_eq, Nat.reduceEqDiff, not_false_eq_true, Nat.reduceLT, g4, g11, g22, g23]) <;> rfl) (by (try simp only [rdF, rd_none, rd_same, rd_ne, ne_eq, Nat.reduceEqDiff, not_false_eq_true, Nat.reduceLT, g4, g11, g22, g23]) <;> rfl) (by (try simp (disch := omega) only [St.get_room, St.get_at_eq, St.get_at_ne, St.get_put_eq, St.get_put_ne, St.get_add_eq, St.get_add_ne, St.get_del_ne, St.next_at, St.next_put', St.next_room, St.next_add', St.next_del', hr]) <;> rfl) s_5 rfl rfl (by omega)) ?_
      refine OpsG.nil ?_
      repeat (refine GoP.seq ?_)
      refine GoP.region ?_ ?_
      · rfl
      refine OpsG.cons (o_bin (by (try simp only [rdF, rd_none, rd_same, rd_ne, ne_eq, Nat.reduceEqDiff, not_false_eq_true, Nat.reduceLT, g4, g11, g22, g23]) <;> rfl) (by (try simp only [rdF, rd_none, rd_same, rd_ne, ne_eq, Nat.reduceEqDiff, not_false_eq_true, Nat.reduceLT, g4, g11, g22, g23]) <;> rfl) (by first | (refine b_add64 ?_ ?_ <;> omega) | exact binA_add)) ?_
      refine OpsG.cons (o_move (by (try simp only [rdF, rd_none, rd_same, rd_ne, ne_eq, Nat.reduceEqDiff, not_false_eq_true, Nat.reduceLT, g4, g11, g22, g23]) <;> rfl)) ?_
      refine OpsG.nil ?_
      refine ⟨_, ?_, i + 1, (by (try simp only [rdF, rd_none, rd_same, rd_ne, ne_eq, Nat.reduceEqDiff, not_false_eq_true, Nat.reduceLT, g4, g11, g22, g23]) <;> rfl), (by (try simp only [rdF, rd_none, rd_same, rd_ne, ne_eq, Nat.reduceEqDiff, not_false_eq_true, Nat.reduceLT, g4, g11, g22, g23]) <;> rfl), (by (try simp only [rdF, rd_none, rd_same, rd_ne, ne_eq, Nat.reduceEqDiff, not_false_eq_true, Nat.reduceLT, g4, g11, g22, g23]) <;> rfl), (by (try simp only [rdF, rd_none, rd_same, rd_ne, ne_eq, Nat.reduceEqDiff, not_false_eq_true, Nat.reduceLT, g4, g11, g22, g23]) <;> rfl), by omega, hb.putSame hrn2 hr1, by rw [St.get_put_eq rfl], hrn2, hr1, hff, rfl⟩
      omega
    ·
      repeat (refine GoP.seq ?_)
      refine GoP.exit ?_
      refine Eq.mpr (if_pos rfl) ?_
      repeat (refine GoP.seq ?_)
      refine GoP.region ?_ ?_
      · rfl
      refine OpsG.cons (o_assign (by (try simp only [rdF, rd_none, rd_same, rd_ne, ne_eq, Nat.reduceEqDiff, not_false_eq_true, Nat.reduceLT, g4, g11, g22, g23]) <;> rfl)) ?_
      refine OpsG.nil ?_
      repeat (refine GoP.seq ?_)
      refine GoP.ret ?_
      refine ⟨.inl rfl, [.int .i64 0], ?_, ?_⟩
      · exact (by (try simp only [resAllF, resOneF, rdF, rd_none, rd_same, rd_ne, ne_eq, Nat.reduceEqDiff, not_false_eq_true, Nat.reduceLT, g4, g11, g22, g23]) <;> rfl)
      · exact ⟨rfl, hb⟩
  ·
    exact ⟨0, (by (try simp only [rdF, rd_none, rd_same, rd_ne, ne_eq, Nat.reduceEqDiff, not_false_eq_true, Nat.reduceLT, f0, f1, f2, f3, f4]) <;> rfl), (by (try simp only [rdF, rd_none, rd_same, rd_ne, ne_eq, Nat.reduceEqDiff, not_false_eq_true, Nat.reduceLT, f0, f1, f2, f3, f4]) <;> rfl), (by (try simp only [rdF, rd_none, rd_same, rd_ne, ne_eq, Nat.reduceEqDiff, not_false_eq_true, Nat.reduceLT, f0, f1, f2, f3, f4]) <;> rfl), (by (try simp only [rdF, rd_none, rd_same, rd_ne, ne_eq, Nat.reduceEqDiff, not_false_eq_true, Nat.reduceLT, f0, f1, f2, f3, f4]) <;> rfl), by omega, But.refl _ _, hr, hrn, hr, by omega, rfl⟩
end Go.Proofs.YtfffmmgmjlfkoaaGreat
