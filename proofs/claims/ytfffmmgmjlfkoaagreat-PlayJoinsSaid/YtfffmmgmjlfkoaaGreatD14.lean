/- play.Encode, SameSteps -/
import Derived.Test.YtfffmmgmjlfkoaaGreatD13
namespace Go.Proofs.YtfffmmgmjlfkoaaGreat
set_option linter.unusedSimpArgs false
set_option linter.unusedVariables false
open Go.As

/-- A slice that says such steps. -/
def StA (S : Nat → Prop) (σ : St) (v : Value) (ls : List Stp) : Prop :=
  ∃ a c, v = .slice a ls.length c ∧ (ls ≠ [] → ∃ b off cs e kd, a = some ⟨b, off, none⟩ ∧ S b ∧ σ.get b = some (.cells cs e kd) ∧ ∀ (i : Nat) (h : i < ls.length), (cs.drop (off + i * 14)).take 14 = ls[i].cells)
theorem StA.keep {S : Nat → Prop} {σ σ' : St} {v : Value} {ls : List Stp} (h : StA S σ v ls) (hk : ∀ b, S b → σ'.get b = σ.get b) : StA S σ' v ls := by
  obtain ⟨a, c, rfl, h2⟩ := h
  refine ⟨a, c, rfl, fun hb => ?_⟩
  obtain ⟨b, off, cs, e, kd, rfl, hs, h3, h4⟩ := h2 hb
  exact ⟨b, off, cs, e, kd, rfl, hs, by rw [hk b hs]; exact h3, h4⟩
theorem cells_length {s : Stp} (h : s.ok) : s.cells.length = 14 := by
  cases s with
  | call c r => simp [Stp.cells, h.2.1]
  | _ => rfl
theorem cells_one {s : Stp} (h : s.ok) : s.cells.all Value.oneCell' = true := by
  cases s with
  | call c r =>
    obtain ⟨a, b, c, d, e, f, g, k, rfl⟩ := eight h.2.1
    rfl
  | _ => rfl
theorem StA.of_row {S : Nat → Prop} {σ : St} {v : Value} {ls : List Stp} {b : Nat} (h : RowN σ 30 14 v (ls.map Stp.cells) b) (hS : ls ≠ [] → S b) : StA S σ v ls := by
  obtain ⟨hall, h⟩ := h
  rcases h with ⟨h1, rfl⟩ | ⟨h1, rfl, h3⟩
  · have : ls = [] := by simpa using h1
    subst this
    exact ⟨none, 0, rfl, fun h => absurd rfl h⟩
  · have hne : ls ≠ [] := by simpa using h1
    refine ⟨_, unk, by rw [List.length_map], fun _ => ⟨b, 0, _, _, _, rfl, hS hne, h3, fun i hi => ?_⟩⟩
    have := flatten_at hall (i := i) (by simpa using hi)
    rw [Nat.zero_add, this]
    simp
def Stp.kind : Stp → Int
  | .call .. => 1
  | .load .. => 2
  | .store .. => 3
  | .tick .. => 4
  | .line .. => 5
def Stp.cpu : Stp → Int
  | .call c _ => c
  | .load c _ _ => c
  | .store c _ _ _ => c
  | .tick c => c
  | .line c _ => c
theorem kind_at (s : Stp) : s.cells[0]? = some (.int .i64 s.kind) := by cases s <;> rfl
theorem cpu_at (s : Stp) : s.cells[0 + 1]? = some (.int .i64 s.cpu) := by cases s <;> rfl
theorem kind_in (s : Stp) : 1 ≤ s.kind ∧ s.kind ≤ 5 := by cases s <;> simp [Stp.kind]
theorem cpu_in {s : Stp} (h : s.ok) : 0 ≤ s.cpu ∧ s.cpu < 256 := by
  cases s with
  | tick c => exact h
  | _ => exact h.1
theorem part30 {cs : List Value} {off : Nat} {l : List Value} (h : (cs.drop off).take 14 = l) (hl : l.length = 14) : partL Tryz.prog 30 cs off = some (.agg l.toArray) := by
  rw [p_30, h, if_pos]
  rw [← h, List.length_take, List.length_drop] at hl
  omega
theorem eq30 {s : Stp} (h : s.ok) (xo yo : Operand) : binA Tryz.prog .eql 30 xo yo (.agg s.cells.toArray) (.agg s.cells.toArray) = some (.bool true) ∧ binA Tryz.prog .neq 30 xo yo (.agg s.cells.toArray) (.agg s.cells.toArray) = some (.bool false) := by
  have hg : Tryz.prog.eqGuardType Tryz.prog.depth 30 = false := by kernel_rfl
  cases s with
  | call c r =>
    obtain ⟨a, b, c, d, e, f, g, k, rfl⟩ := eight h.2.1
    exact eq_self (d := 9) (by omega) (by kernel_rfl) (by kernel_rfl) hg
  | load c p w => exact eq_self (d := 9) (by omega) (by kernel_rfl) (by kernel_rfl) hg
  | store c p w v => exact eq_self (d := 9) (by omega) (by kernel_rfl) (by kernel_rfl) hg
  | tick c => exact eq_self (d := 9) (by omega) (by kernel_rfl) (by kernel_rfl) hg
  | line c n => exact eq_self (d := 9) (by omega) (by kernel_rfl) (by kernel_rfl) hg
theorem BX.news {σ : St} {sv : Value} {bs : List Int} {b : Nat} (h : BX σ sv bs b) (hne : bs ≠ []) : newsA σ 1 sv = some (bs.length, bv bs) := by
  rcases h with ⟨h1, _⟩ | ⟨_, c, kd, rfl, hb, _⟩
  · exact absurd h1 hne
  · have hl : bs.length ≠ 0 := fun e => hne (List.eq_nil_of_length_eq_zero e)
    simp [newsA, hl, hb]
    rw [List.take_of_length_le (by simp)]
theorem enc_take {ls : List Stp} {i : Nat} (h : i < ls.length) : encS (ls.take (i + 1)) = encS (ls.take i) ++ (ls[i]).bytes := by
  rw [List.take_succ_eq_append_getElem h, encS_append]
  simp [encS]

noncomputable def code8 : Code := match Tryz.f8.body with | some c => c | none => .skip
theorem code8_eq : Tryz.f8.body = some code8 := by kernel_rfl
theorem ok8 : fnOk Tryz.f8 = true := by kernel_rfl
set_option maxRecDepth 8000 in
theorem same_con {S S2 : Nat → Prop} {σ : St} {v w : Value} {ls : List Stp} (hv : StA S σ v ls) (hw : StA S2 σ w ls) (hok : ∀ s ∈ ls, s.ok) (hlen : ls.length ≤ 1000000) : Con Tryz.prog 8 [v, w] σ (fun r σ' => r = .bool true ∧ But σ σ' (fun _ => False)) := by
  refine Con.of_goP (nt := 26) (rs := [.tmp 4]) Tryz.func8 code8_eq ok8 rfl rfl (by simp) ?_
  have f0 : rdT 26 (fill .nil 0 [v, w]) 0 = v := rfl
  have f1 : rdT 26 (fill .nil 0 [v, w]) 1 = w := rfl
  generalize fill .nil 0 [v, w] = t at f0 f1
  unfold code8 Tryz.f8
  repeat (refine GoP.seq ?_)
  obtain ⟨a, c, rfl, hv2⟩ := hv
  obtain ⟨a2, c2, rfl, hw2⟩ := hw
  have hnn : ((ls.length : Int) != (ls.length : Int)) = false := by simp
  refine GoP.region ?_ ?_
  · rfl
  refine OpsG.cons (o_assign (by (try simp only [rdF, rd_none, rd_same, rd_ne, ne_eq, Nat.reduceEqDiff, not_false_eq_true, Nat.reduceLT, f0, f1, hnn]) <;> rfl)) ?_
  refine OpsG.nil ?_
  repeat (refine GoP.seq ?_)
  refine GoP.region ?_ ?_
  · rfl
  refine OpsG.cons (o_move (by (try simp only [rdF, rd_none, rd_same, rd_ne, ne_eq, Nat.reduceEqDiff, not_false_eq_true, Nat.reduceLT, f0, f1, hnn]) <;> rfl)) ?_
  refine OpsG.cons (o_builtin rfl (by (try simp only [List.map_cons, List.map_nil, rdF, rd_none, rd_same, rd_ne, ne_eq, Nat.reduceEqDiff, not_false_eq_true, Nat.reduceLT, f0, f1, hnn]) <;> rfl) (len_23 ..)) ?_
  refine OpsG.cons (o_move (by (try simp only [rdF, rd_none, rd_same, rd_ne, ne_eq, Nat.reduceEqDiff, not_false_eq_true, Nat.reduceLT, f0, f1, hnn]) <;> rfl)) ?_
  refine OpsG.cons (o_builtin rfl (by (try simp only [List.map_cons, List.map_nil, rdF, rd_none, rd_same, rd_ne, ne_eq, Nat.reduceEqDiff, not_false_eq_true, Nat.reduceLT, f0, f1, hnn]) <;> rfl) (len_23 ..)) ?_
  refine OpsG.cons (o_bin (by (try simp only [rdF, rd_none, rd_same, rd_ne, ne_eq, Nat.reduceEqDiff, not_false_eq_true, Nat.reduceLT, f0, f1, hnn]) <;> rfl) (by (try simp only [rdF, rd_none, rd_same, rd_ne, ne_eq, Nat.reduceEqDiff, not_false_eq_true, Nat.reduceLT, f0, f1, hnn]) <;> rfl) binA_neq) ?_
  refine OpsG.nil ?_
  repeat (refine GoP.seq ?_)
  refine GoP.cond_false (by rfl) (by (try simp only [rdF, rd_none, rd_same, rd_ne, ne_eq, Nat.reduceEqDiff, not_false_eq_true, Nat.reduceLT, f0, f1, hnn]) <;> rfl) ?_
  repeat (refine GoP.seq ?_)
  refine GoP.name ?_
  rintro σ1 rfl
  refine GoP.skip ?_
  repeat (refine GoP.seq ?_)
  refine GoP.region ?_ ?_
  · rfl
  refine OpsG.cons (o_assign (by (try simp only [rdF, rd_none, rd_same, rd_ne, ne_eq, Nat.reduceEqDiff, not_false_eq_true, Nat.reduceLT, f0, f1, hnn]) <;> rfl)) ?_
  refine OpsG.nil ?_
  repeat (refine GoP.seq ?_)
  refine GoP.block ?_
  repeat (refine GoP.seq ?_)
  refine GoP.loop (fun m t σ => ∃ (i : Nat), rdT 26 t 0 = .slice a ls.length c ∧ rdT 26 t 1 = .slice a2 ls.length c2 ∧ rdT 26 t 5 = .int .i64 (i : Int) ∧ (i ≤ ls.length) ∧ (But σ1 σ (fun _ => False)) ∧ (∀ q : Nat, σ.get q = σ1.get q) ∧ m = ls.length - i) ?_ (m := ls.length) ?_
  ·
    rintro m t σ ⟨i, g0, g1, g5, hi, hb, hge, rfl⟩
    repeat (refine GoP.seq ?_)
    refine GoP.region ?_ ?_
    · rfl
    refine OpsG.cons (o_move (by (try simp only [rdF, rd_none, rd_same, rd_ne, ne_eq, Nat.reduceEqDiff, not_false_eq_true, Nat.reduceLT, g0, g1, g5]) <;> rfl)) ?_
    refine OpsG.cons (o_move (by (try simp only [rdF, rd_none, rd_same, rd_ne, ne_eq, Nat.reduceEqDiff, not_false_eq_true, Nat.reduceLT, g0, g1, g5]) <;> rfl)) ?_
    refine OpsG.cons (o_builtin rfl (by (try simp only [List.map_cons, List.map_nil, rdF, rd_none, rd_same, rd_ne, ne_eq, Nat.reduceEqDiff, not_false_eq_true, Nat.reduceLT, g0, g1, g5]) <;> rfl) (len_23 ..)) ?_
    refine OpsG.cons (o_bin (by (try simp only [rdF, rd_none, rd_same, rd_ne, ne_eq, Nat.reduceEqDiff, not_false_eq_true, Nat.reduceLT, g0, g1, g5]) <;> rfl) (by (try simp only [rdF, rd_none, rd_same, rd_ne, ne_eq, Nat.reduceEqDiff, not_false_eq_true, Nat.reduceLT, g0, g1, g5]) <;> rfl) binA_lss) ?_
    refine OpsG.nil ?_
    repeat (refine GoP.seq ?_)
    refine GoP.cond (by rfl) (by (try simp only [rdF, rd_none, rd_same, rd_ne, ne_eq, Nat.reduceEqDiff, not_false_eq_true, Nat.reduceLT, g0, g1, g5]) <;> rfl) (fun hc => ?_) (fun hc => ?_)
    ·
      have hlt : i < ls.length := by have := of_decide_eq_true hc; omega
      obtain ⟨b, off, cs, e, kd, rfl, -, hcs, hat⟩ := hv2 (List.ne_nil_of_length_pos (by omega))
      obtain ⟨b2, off2, cs2, e2, kd2, rfl, -, hcs2, hat2⟩ := hw2 (List.ne_nil_of_length_pos (by omega))
      have hcs3 := (hge b).trans hcs
      have hcs4 := (hge b2).trans hcs2
      repeat (refine GoP.seq ?_)
      refine GoP.skip ?_
      repeat (refine GoP.seq ?_)
      refine GoP.block ?_
      repeat (refine GoP.seq ?_)
      refine GoP.drawn (noK_ok _) mixed ?_ ?_ ?_
      · rfl
      · kernel_rfl
      refine TrP.cons (o_move (by (try simp only [rdF, rd_none, rd_same, rd_ne, ne_eq, Nat.reduceEqDiff, not_false_eq_true, Nat.reduceLT, g0, g1, g5]) <;> rfl)) ?_
      refine TrP.cons (o_move (by (try simp only [rdF, rd_none, rd_same, rd_ne, ne_eq, Nat.reduceEqDiff, not_false_eq_true, Nat.reduceLT, g0, g1, g5]) <;> rfl)) ?_
      refine TrP.cons (o_indexAddr (by (try simp only [rdF, rd_none, rd_same, rd_ne, ne_eq, Nat.reduceEqDiff, not_false_eq_true, Nat.reduceLT, g0, g1, g5]) <;> rfl) (by (try simp only [rdF, rd_none, rd_same, rd_ne, ne_eq, Nat.reduceEqDiff, not_false_eq_true, Nat.reduceLT, g0, g1, g5]) <;> rfl) (ixn_23 (by omega))) ?_
      refine TrP.cons (o_load (by (try simp only [rdF, rd_none, rd_same, rd_ne, ne_eq, Nat.reduceEqDiff, not_false_eq_true, Nat.reduceLT, g0, g1, g5]) <;> rfl) (by (try simp (disch := omega) only [St.get_room, St.get_at_eq, St.get_at_ne, St.get_put_eq, St.get_put_ne, St.get_add_eq, St.get_add_ne, St.get_del_ne, St.next_at, St.next_put', St.next_room, St.next_add', St.next_del', hcs3, hcs4]) <;> rfl) (part30 (hat i hlt) (cells_length (hok _ (List.getElem_mem hlt))))) ?_
      refine TrP.cons (o_move (by (try simp only [rdF, rd_none, rd_same, rd_ne, ne_eq, Nat.reduceEqDiff, not_false_eq_true, Nat.reduceLT, g0, g1, g5]) <;> rfl)) ?_
      refine TrP.cons (o_move (by (try simp only [rdF, rd_none, rd_same, rd_ne, ne_eq, Nat.reduceEqDiff, not_false_eq_true, Nat.reduceLT, g0, g1, g5]) <;> rfl)) ?_
      refine TrP.cons (o_indexAddr (by (try simp only [rdF, rd_none, rd_same, rd_ne, ne_eq, Nat.reduceEqDiff, not_false_eq_true, Nat.reduceLT, g0, g1, g5]) <;> rfl) (by (try simp only [rdF, rd_none, rd_same, rd_ne, ne_eq, Nat.reduceEqDiff, not_false_eq_true, Nat.reduceLT, g0, g1, g5]) <;> rfl) (ixn_23 (by omega))) ?_
      refine TrP.cons (o_load (by (try simp only [rdF, rd_none, rd_same, rd_ne, ne_eq, Nat.reduceEqDiff, not_false_eq_true, Nat.reduceLT, g0, g1, g5]) <;> rfl) (by (try simp (disch := omega) only [St.get_room, St.get_at_eq, St.get_at_ne, St.get_put_eq, St.get_put_ne, St.get_add_eq, St.get_add_ne, St.get_del_ne, St.next_at, St.next_put', St.next_room, St.next_add', St.next_del', hcs3, hcs4]) <;> rfl) (part30 (hat2 i hlt) (cells_length (hok _ (List.getElem_mem hlt))))) ?_
      refine TrP.cons (o_bin (by (try simp only [rdF, rd_none, rd_same, rd_ne, ne_eq, Nat.reduceEqDiff, not_false_eq_true, Nat.reduceLT, g0, g1, g5]) <;> rfl) (by (try simp only [rdF, rd_none, rd_same, rd_ne, ne_eq, Nat.reduceEqDiff, not_false_eq_true, Nat.reduceLT, g0, g1, g5]) <;> rfl) (eq30 (hok _ (List.getElem_mem hlt)) _ _).2) ?_
      refine TrP.nil ⟨ChecksG.of (l1 := []) (l2 := []) (by kernel_rfl) (by kernel_rfl) ?_ ?_, ?_⟩
      · all_goals (simp only [List.forall_mem_cons, List.not_mem_nil, false_implies, implies_true, and_true]; try trivial)
      · simp only [List.forall_mem_cons, List.not_mem_nil, false_implies, implies_true, and_true]; try trivial
      repeat (refine GoP.seq ?_)
      refine GoP.cond_false (by rfl) (by (try simp only [rdF, rd_none, rd_same, rd_ne, ne_eq, Nat.reduceEqDiff, not_false_eq_true, Nat.reduceLT, g0, g1, g5]) <;> rfl) ?_
      repeat (refine GoP.seq ?_)
      refine GoP.skip ?_
      repeat (refine GoP.seq ?_)
      refine GoP.region ?_ ?_
      · rfl
      refine OpsG.cons (o_move (by (try simp only [rdF, rd_none, rd_same, rd_ne, ne_eq, Nat.reduceEqDiff, not_false_eq_true, Nat.reduceLT, g0, g1, g5]) <;> rfl)) ?_
      refine OpsG.cons (o_bin (by (try simp only [rdF, rd_none, rd_same, rd_ne, ne_eq, Nat.reduceEqDiff, not_false_eq_true, Nat.reduceLT, g0, g1, g5]) <;> rfl) (by (try simp only [rdF, rd_none, rd_same, rd_ne, ne_eq, Nat.reduceEqDiff, not_false_eq_true, Nat.reduceLT, g0, g1, g5]) <;> rfl) (by first | (refine b_add64 ?_ ?_ <;> omega) | exact binA_add)) ?_
      refine OpsG.cons (o_assign (by (try simp only [rdF, rd_none, rd_same, rd_ne, ne_eq, Nat.reduceEqDiff, not_false_eq_true, Nat.reduceLT, g0, g1, g5]) <;> rfl)) ?_
      refine OpsG.nil ?_
      refine ⟨_, ?_, i + 1, (by (try simp only [rdF, rd_none, rd_same, rd_ne, ne_eq, Nat.reduceEqDiff, not_false_eq_true, Nat.reduceLT, g0, g1, g5]) <;> rfl), (by (try simp only [rdF, rd_none, rd_same, rd_ne, ne_eq, Nat.reduceEqDiff, not_false_eq_true, Nat.reduceLT, g0, g1, g5]) <;> rfl), (by (try simp only [rdF, rd_none, rd_same, rd_ne, ne_eq, Nat.reduceEqDiff, not_false_eq_true, Nat.reduceLT, g0, g1, g5]) <;> rfl), by omega, hb.room _, (fun q => hge q), rfl⟩
      omega
    ·
      repeat (refine GoP.seq ?_)
      refine GoP.exit ?_
      refine Eq.mpr (if_pos rfl) ?_
      repeat (refine GoP.seq ?_)
      refine GoP.region ?_ ?_
      · rfl
      refine OpsG.cons (o_assign (by (try simp only [rdF, rd_none, rd_same, rd_ne, ne_eq, Nat.reduceEqDiff, not_false_eq_true, Nat.reduceLT, g0, g1, g5]) <;> rfl)) ?_
      refine OpsG.nil ?_
      repeat (refine GoP.seq ?_)
      refine GoP.ret ?_
      refine ⟨.inl rfl, [.bool true], ?_, ?_⟩
      · exact (by (try simp only [resAllF, resOneF, rdF, rd_none, rd_same, rd_ne, ne_eq, Nat.reduceEqDiff, not_false_eq_true, Nat.reduceLT, g0, g1, g5]) <;> rfl)
      · exact ⟨rfl, hb⟩
  ·
    exact ⟨0, (by (try simp only [rdF, rd_none, rd_same, rd_ne, ne_eq, Nat.reduceEqDiff, not_false_eq_true, Nat.reduceLT, f0, f1, hnn]) <;> rfl), (by (try simp only [rdF, rd_none, rd_same, rd_ne, ne_eq, Nat.reduceEqDiff, not_false_eq_true, Nat.reduceLT, f0, f1, hnn]) <;> rfl), (by (try simp only [rdF, rd_none, rd_same, rd_ne, ne_eq, Nat.reduceEqDiff, not_false_eq_true, Nat.reduceLT, f0, f1, hnn]) <;> rfl), by omega, But.refl _ _, (fun _ => rfl), rfl⟩
noncomputable def code9 : Code := match Tryz.f9.body with | some c => c | none => .skip
theorem code9_eq : Tryz.f9.body = some code9 := by kernel_rfl
theorem ok9 : fnOk Tryz.f9 = true := by kernel_rfl
set_option maxRecDepth 8000 in
theorem enc_con {σ : St} {v : Value} {ls : List Stp} (hv : StA (· < σ.next) σ v ls) (hok : ∀ s ∈ ls, s.ok) (hlen : ls.length ≤ 1000) : Con Tryz.prog 9 [v] σ (fun rv σ' => ∃ b, BX σ' rv (encS ls) b ∧ But σ σ' (fun _ => False) ∧ (encS ls ≠ [] → σ.next ≤ b ∧ b < σ'.next)) := by
  refine Con.of_goP (nt := 50) (rs := [.tmp 2]) Tryz.func9 code9_eq ok9 rfl rfl (by simp) ?_
  have f0 : rdT 50 (fill .nil 0 [v]) 0 = v := rfl
  generalize fill .nil 0 [v] = t at f0
  unfold code9 Tryz.f9
  repeat (refine GoP.seq ?_)
  have hv' := hv
  obtain ⟨a, c, rfl, -⟩ := hv'
  refine GoP.name ?_
  rintro σ1 rfl
  refine GoP.region ?_ ?_
  · rfl
  refine OpsG.cons (o_assign (by (try simp only [rdF, rd_none, rd_same, rd_ne, ne_eq, Nat.reduceEqDiff, not_false_eq_true, Nat.reduceLT, f0]) <;> rfl)) ?_
  refine OpsG.nil ?_
  repeat (refine GoP.seq ?_)
  refine GoP.region ?_ ?_
  · rfl
  refine OpsG.cons (o_move (by (try simp only [rdF, rd_none, rd_same, rd_ne, ne_eq, Nat.reduceEqDiff, not_false_eq_true, Nat.reduceLT, f0]) <;> rfl)) ?_
  refine OpsG.cons (o_builtin rfl (by (try simp only [List.map_cons, List.map_nil, rdF, rd_none, rd_same, rd_ne, ne_eq, Nat.reduceEqDiff, not_false_eq_true, Nat.reduceLT, f0]) <;> rfl) (len_23 ..)) ?_
  refine OpsG.cons (o_move (by (try simp only [rdF, rd_none, rd_same, rd_ne, ne_eq, Nat.reduceEqDiff, not_false_eq_true, Nat.reduceLT, f0]) <;> rfl)) ?_
  refine OpsG.nil ?_
  repeat (refine GoP.seq ?_)
  refine GoP.block ?_
  repeat (refine GoP.seq ?_)
  refine GoP.loop (fun m t σ => ∃ (i b : Nat) (rv : Value), rdT 50 t 2 = rv ∧ rdT 50 t 7 = .slice a ls.length c ∧ rdT 50 t 8 = .int .i64 (ls.length : Int) ∧ rdT 50 t 9 = .int .i64 (i : Int) ∧ (i ≤ ls.length) ∧ (BX σ rv (encS (ls.take i)) b) ∧ (encS (ls.take i) ≠ [] → σ1.next ≤ b ∧ b < σ.next) ∧ (But σ1 σ (fun _ => False)) ∧ m = ls.length - i) ?_ (m := ls.length) ?_
  ·
    rintro m t σ ⟨i, b, rv, g2, g7, g8, g9, hi, hbx, hbn, hbut, rfl⟩
    repeat (refine GoP.seq ?_)
    refine GoP.region ?_ ?_
    · rfl
    refine OpsG.cons (o_bin (by (try simp only [rdF, rd_none, rd_same, rd_ne, ne_eq, Nat.reduceEqDiff, not_false_eq_true, Nat.reduceLT, g2, g7, g8, g9]) <;> rfl) (by (try simp only [rdF, rd_none, rd_same, rd_ne, ne_eq, Nat.reduceEqDiff, not_false_eq_true, Nat.reduceLT, g2, g7, g8, g9]) <;> rfl) binA_lss) ?_
    refine OpsG.nil ?_
    repeat (refine GoP.seq ?_)
    refine GoP.cond (by rfl) (by (try simp only [rdF, rd_none, rd_same, rd_ne, ne_eq, Nat.reduceEqDiff, not_false_eq_true, Nat.reduceLT, g2, g7, g8, g9]) <;> rfl) (fun hc => ?_) (fun hc => ?_)
    ·
      have hlt : i < ls.length := by have := of_decide_eq_true hc; omega
      have hsok := hok _ (List.getElem_mem hlt)
      have hlen14 := cells_length hsok
      have hone := cells_one hsok
      have hbn0 := hbut.next
      obtain ⟨a1, c1, hve, hv2⟩ := hv.keep (σ' := σ) (fun q hq => hbut.get q hq id)
      cases hve
      obtain ⟨b0, off, cs, e, kd, rfl, hb0, hcs, hat⟩ := hv2 (List.ne_nil_of_length_pos (by omega))
      have hki := kind_in ls[i]
      have hci := cpu_in hsok
      have hq1 : decide ((ls[i]).kind < 1) = false := by simp; omega
      have hq2 : decide ((ls[i]).kind > 5) = false := by simp; omega
      have hq3 : decide ((ls[i]).cpu < 0) = false := by simp; omega
      have hq4 : decide ((ls[i]).cpu > 255) = false := by simp; omega
      repeat (refine GoP.seq ?_)
      refine GoP.skip ?_
      repeat (refine GoP.seq ?_)
      refine GoP.block ?_
      repeat (refine GoP.seq ?_)
      refine GoP.region ?_ ?_
      · rfl
      refine OpsG.cons (o_indexAddr (by (try simp only [rdF, rd_none, rd_same, rd_ne, ne_eq, Nat.reduceEqDiff, not_false_eq_true, Nat.reduceLT, g2, g7, g8, g9, hq1, hq2, hq3, hq4]) <;> rfl) (by (try simp only [rdF, rd_none, rd_same, rd_ne, ne_eq, Nat.reduceEqDiff, not_false_eq_true, Nat.reduceLT, g2, g7, g8, g9, hq1, hq2, hq3, hq4]) <;> rfl) (ixn_23 (by omega))) ?_
      refine OpsG.cons (o_load (by (try simp only [rdF, rd_none, rd_same, rd_ne, ne_eq, Nat.reduceEqDiff, not_false_eq_true, Nat.reduceLT, g2, g7, g8, g9, hq1, hq2, hq3, hq4]) <;> rfl) (by (try simp (disch := omega) only [St.get_room, St.get_at_eq, St.get_at_ne, St.get_put_eq, St.get_put_ne, St.get_add_eq, St.get_add_ne, St.get_del_ne, St.next_at, St.next_put', St.next_room, St.next_add', St.next_del', hcs]) <;> rfl) (part30 (hat i hlt) hlen14)) ?_
      refine OpsG.cons (o_alloc z_30 (cl_14 ..)) ?_
      refine OpsG.cons (o_store (by (try simp only [rdF, rd_none, rd_same, rd_ne, ne_eq, Nat.reduceEqDiff, not_false_eq_true, Nat.reduceLT, g2, g7, g8, g9, hq1, hq2, hq3, hq4]) <;> rfl) (by (try simp only [rdF, rd_none, rd_same, rd_ne, ne_eq, Nat.reduceEqDiff, not_false_eq_true, Nat.reduceLT, g2, g7, g8, g9, hq1, hq2, hq3, hq4]) <;> rfl) (by (try simp (disch := omega) only [St.get_room, St.get_at_eq, St.get_at_ne, St.get_put_eq, St.get_put_ne, St.get_add_eq, St.get_add_ne, St.get_del_ne, St.next_at, St.next_put', St.next_room, St.next_add', St.next_del', hcs]) <;> rfl) (by simp) s_30 (vs := (ls[i]).cells) rfl hlen14 hone (by simp) (splice_all (by rw [hlen14]; rfl))) ?_
      refine OpsG.nil ?_
      repeat (refine GoP.seq ?_)
      refine GoP.region ?_ ?_
      · rfl
      refine OpsG.cons (o_field (by (try simp only [rdF, rd_none, rd_same, rd_ne, ne_eq, Nat.reduceEqDiff, not_false_eq_true, Nat.reduceLT, g2, g7, g8, g9, hq1, hq2, hq3, hq4]) <;> rfl) (fa_30_0 _ _)) ?_
      refine OpsG.cons (o_load (by (try simp only [rdF, rd_none, rd_same, rd_ne, ne_eq, Nat.reduceEqDiff, not_false_eq_true, Nat.reduceLT, g2, g7, g8, g9, hq1, hq2, hq3, hq4]) <;> rfl) (by (try simp (disch := omega) only [St.get_room, St.get_at_eq, St.get_at_ne, St.get_put_eq, St.get_put_ne, St.get_add_eq, St.get_add_ne, St.get_del_ne, St.next_at, St.next_put', St.next_room, St.next_add', St.next_del', hcs]) <;> rfl) (by rw [p_3]; exact kind_at _)) ?_
      refine OpsG.cons (o_bin (by (try simp only [rdF, rd_none, rd_same, rd_ne, ne_eq, Nat.reduceEqDiff, not_false_eq_true, Nat.reduceLT, g2, g7, g8, g9, hq1, hq2, hq3, hq4]) <;> rfl) (by (try simp only [rdF, rd_none, rd_same, rd_ne, ne_eq, Nat.reduceEqDiff, not_false_eq_true, Nat.reduceLT, g2, g7, g8, g9, hq1, hq2, hq3, hq4]) <;> rfl) binA_lss) ?_
      refine OpsG.cons (o_move (by (try simp only [rdF, rd_none, rd_same, rd_ne, ne_eq, Nat.reduceEqDiff, not_false_eq_true, Nat.reduceLT, g2, g7, g8, g9, hq1, hq2, hq3, hq4]) <;> rfl)) ?_
      refine OpsG.want (by rfl) (by rfl) (by (try simp only [rdF, rd_none, rd_same, rd_ne, ne_eq, Nat.reduceEqDiff, not_false_eq_true, Nat.reduceLT, g2, g7, g8, g9, hq1, hq2, hq3, hq4]) <;> rfl) (o_field (by (try simp only [rdF, rd_none, rd_same, rd_ne, ne_eq, Nat.reduceEqDiff, not_false_eq_true, Nat.reduceLT, g2, g7, g8, g9, hq1, hq2, hq3, hq4]) <;> rfl) (fa_30_0 _ _)) ?_
      refine OpsG.want (by rfl) (by rfl) (by (try simp only [rdF, rd_none, rd_same, rd_ne, ne_eq, Nat.reduceEqDiff, not_false_eq_true, Nat.reduceLT, g2, g7, g8, g9, hq1, hq2, hq3, hq4]) <;> rfl) (o_load (by (try simp only [rdF, rd_none, rd_same, rd_ne, ne_eq, Nat.reduceEqDiff, not_false_eq_true, Nat.reduceLT, g2, g7, g8, g9, hq1, hq2, hq3, hq4]) <;> rfl) (by (try simp (disch := omega) only [St.get_room, St.get_at_eq, St.get_at_ne, St.get_put_eq, St.get_put_ne, St.get_add_eq, St.get_add_ne, St.get_del_ne, St.next_at, St.next_put', St.next_room, St.next_add', St.next_del', hcs]) <;> rfl) (by rw [p_3]; exact kind_at _)) ?_
      refine OpsG.want (by rfl) (by rfl) (by (try simp only [rdF, rd_none, rd_same, rd_ne, ne_eq, Nat.reduceEqDiff, not_false_eq_true, Nat.reduceLT, g2, g7, g8, g9, hq1, hq2, hq3, hq4]) <;> rfl) (o_bin (by (try simp only [rdF, rd_none, rd_same, rd_ne, ne_eq, Nat.reduceEqDiff, not_false_eq_true, Nat.reduceLT, g2, g7, g8, g9, hq1, hq2, hq3, hq4]) <;> rfl) (by (try simp only [rdF, rd_none, rd_same, rd_ne, ne_eq, Nat.reduceEqDiff, not_false_eq_true, Nat.reduceLT, g2, g7, g8, g9, hq1, hq2, hq3, hq4]) <;> rfl) binA_gtr) ?_
      refine OpsG.cons (o_pickF (by (try simp only [rdF, rd_none, rd_same, rd_ne, ne_eq, Nat.reduceEqDiff, not_false_eq_true, Nat.reduceLT, g2, g7, g8, g9, hq1, hq2, hq3, hq4]) <;> rfl) (by (try simp only [rdF, rd_none, rd_same, rd_ne, ne_eq, Nat.reduceEqDiff, not_false_eq_true, Nat.reduceLT, g2, g7, g8, g9, hq1, hq2, hq3, hq4]) <;> rfl)) ?_
      refine OpsG.cons (o_move (by (try simp only [rdF, rd_none, rd_same, rd_ne, ne_eq, Nat.reduceEqDiff, not_false_eq_true, Nat.reduceLT, g2, g7, g8, g9, hq1, hq2, hq3, hq4]) <;> rfl)) ?_
      refine OpsG.want (by rfl) (by rfl) (by (try simp only [rdF, rd_none, rd_same, rd_ne, ne_eq, Nat.reduceEqDiff, not_false_eq_true, Nat.reduceLT, g2, g7, g8, g9, hq1, hq2, hq3, hq4]) <;> rfl) (o_field (by (try simp only [rdF, rd_none, rd_same, rd_ne, ne_eq, Nat.reduceEqDiff, not_false_eq_true, Nat.reduceLT, g2, g7, g8, g9, hq1, hq2, hq3, hq4]) <;> rfl) (fa_30_1 _ _)) ?_
      refine OpsG.want (by rfl) (by rfl) (by (try simp only [rdF, rd_none, rd_same, rd_ne, ne_eq, Nat.reduceEqDiff, not_false_eq_true, Nat.reduceLT, g2, g7, g8, g9, hq1, hq2, hq3, hq4]) <;> rfl) (o_load (by (try simp only [rdF, rd_none, rd_same, rd_ne, ne_eq, Nat.reduceEqDiff, not_false_eq_true, Nat.reduceLT, g2, g7, g8, g9, hq1, hq2, hq3, hq4]) <;> rfl) (by (try simp (disch := omega) only [St.get_room, St.get_at_eq, St.get_at_ne, St.get_put_eq, St.get_put_ne, St.get_add_eq, St.get_add_ne, St.get_del_ne, St.next_at, St.next_put', St.next_room, St.next_add', St.next_del', hcs]) <;> rfl) (by rw [p_3]; exact cpu_at _)) ?_
      refine OpsG.want (by rfl) (by rfl) (by (try simp only [rdF, rd_none, rd_same, rd_ne, ne_eq, Nat.reduceEqDiff, not_false_eq_true, Nat.reduceLT, g2, g7, g8, g9, hq1, hq2, hq3, hq4]) <;> rfl) (o_bin (by (try simp only [rdF, rd_none, rd_same, rd_ne, ne_eq, Nat.reduceEqDiff, not_false_eq_true, Nat.reduceLT, g2, g7, g8, g9, hq1, hq2, hq3, hq4]) <;> rfl) (by (try simp only [rdF, rd_none, rd_same, rd_ne, ne_eq, Nat.reduceEqDiff, not_false_eq_true, Nat.reduceLT, g2, g7, g8, g9, hq1, hq2, hq3, hq4]) <;> rfl) binA_lss) ?_
      refine OpsG.cons (o_pickF (by (try simp only [rdF, rd_none, rd_same, rd_ne, ne_eq, Nat.reduceEqDiff, not_false_eq_true, Nat.reduceLT, g2, g7, g8, g9, hq1, hq2, hq3, hq4]) <;> rfl) (by (try simp only [rdF, rd_none, rd_same, rd_ne, ne_eq, Nat.reduceEqDiff, not_false_eq_true, Nat.reduceLT, g2, g7, g8, g9, hq1, hq2, hq3, hq4]) <;> rfl)) ?_
      refine OpsG.cons (o_move (by (try simp only [rdF, rd_none, rd_same, rd_ne, ne_eq, Nat.reduceEqDiff, not_false_eq_true, Nat.reduceLT, g2, g7, g8, g9, hq1, hq2, hq3, hq4]) <;> rfl)) ?_
      refine OpsG.want (by rfl) (by rfl) (by (try simp only [rdF, rd_none, rd_same, rd_ne, ne_eq, Nat.reduceEqDiff, not_false_eq_true, Nat.reduceLT, g2, g7, g8, g9, hq1, hq2, hq3, hq4]) <;> rfl) (o_field (by (try simp only [rdF, rd_none, rd_same, rd_ne, ne_eq, Nat.reduceEqDiff, not_false_eq_true, Nat.reduceLT, g2, g7, g8, g9, hq1, hq2, hq3, hq4]) <;> rfl) (fa_30_1 _ _)) ?_
      refine OpsG.want (by rfl) (by rfl) (by (try simp only [rdF, rd_none, rd_same, rd_ne, ne_eq, Nat.reduceEqDiff, not_false_eq_true, Nat.reduceLT, g2, g7, g8, g9, hq1, hq2, hq3, hq4]) <;> rfl) (o_load (by (try simp only [rdF, rd_none, rd_same, rd_ne, ne_eq, Nat.reduceEqDiff, not_false_eq_true, Nat.reduceLT, g2, g7, g8, g9, hq1, hq2, hq3, hq4]) <;> rfl) (by (try simp (disch := omega) only [St.get_room, St.get_at_eq, St.get_at_ne, St.get_put_eq, St.get_put_ne, St.get_add_eq, St.get_add_ne, St.get_del_ne, St.next_at, St.next_put', St.next_room, St.next_add', St.next_del', hcs]) <;> rfl) (by rw [p_3]; exact cpu_at _)) ?_
      refine OpsG.want (by rfl) (by rfl) (by (try simp only [rdF, rd_none, rd_same, rd_ne, ne_eq, Nat.reduceEqDiff, not_false_eq_true, Nat.reduceLT, g2, g7, g8, g9, hq1, hq2, hq3, hq4]) <;> rfl) (o_bin (by (try simp only [rdF, rd_none, rd_same, rd_ne, ne_eq, Nat.reduceEqDiff, not_false_eq_true, Nat.reduceLT, g2, g7, g8, g9, hq1, hq2, hq3, hq4]) <;> rfl) (by (try simp only [rdF, rd_none, rd_same, rd_ne, ne_eq, Nat.reduceEqDiff, not_false_eq_true, Nat.reduceLT, g2, g7, g8, g9, hq1, hq2, hq3, hq4]) <;> rfl) binA_gtr) ?_
      refine OpsG.cons (o_pickF (by (try simp only [rdF, rd_none, rd_same, rd_ne, ne_eq, Nat.reduceEqDiff, not_false_eq_true, Nat.reduceLT, g2, g7, g8, g9, hq1, hq2, hq3, hq4]) <;> rfl) (by (try simp only [rdF, rd_none, rd_same, rd_ne, ne_eq, Nat.reduceEqDiff, not_false_eq_true, Nat.reduceLT, g2, g7, g8, g9, hq1, hq2, hq3, hq4]) <;> rfl)) ?_
      refine OpsG.nil ?_
      repeat (refine GoP.seq ?_)
      refine GoP.cond_false (by rfl) (by (try simp only [rdF, rd_none, rd_same, rd_ne, ne_eq, Nat.reduceEqDiff, not_false_eq_true, Nat.reduceLT, g2, g7, g8, g9, hq1, hq2, hq3, hq4]) <;> rfl) ?_
      repeat (refine GoP.seq ?_)
      refine GoP.skip ?_
      repeat (refine GoP.seq ?_)
      refine GoP.name ?_
      rintro σ2 hσ2
      have hx2 : σ2.get σ.next = some (.cells (ls[i]).cells 30 .ex) := by rw [hσ2, St.get_put_eq rfl]
      have hbut2 : But σ σ2 (fun _ => False) := by rw [hσ2]; exact ((But.refl _ _).at (Nat.le_refl _) (Nat.le_succ _)).putNew (Nat.le_refl _)
      have hn2 : σ2.next = σ.next + 1 := by rw [hσ2]; rfl
      refine GoP.region ?_ ?_
      · rfl
      refine OpsG.cons (o_load (by (try simp only [rdF, rd_none, rd_same, rd_ne, ne_eq, Nat.reduceEqDiff, not_false_eq_true, Nat.reduceLT, g2, g7, g8, g9, hq1, hq2, hq3, hq4]) <;> rfl) (by (try simp (disch := omega) only [St.get_room, St.get_at_eq, St.get_at_ne, St.get_put_eq, St.get_put_ne, St.get_add_eq, St.get_add_ne, St.get_del_ne, St.next_at, St.next_put', St.next_room, St.next_add', St.next_del', hcs, hx2]) <;> rfl) (by rw [p_30, if_pos (by rw [hlen14]; omega), List.drop_zero, List.take_of_length_le (by rw [hlen14]; omega)])) ?_
      refine OpsG.call (by (try simp only [List.map_cons, List.map_nil, rdF, rd_none, rd_same, rd_ne, ne_eq, Nat.reduceEqDiff, not_false_eq_true, Nat.reduceLT, g2, g7, g8, g9, hq1, hq2, hq3, hq4]) <;> rfl) (one_con hsok) ?_
      rintro rvb σ3 ⟨b3, hb3, hbut3, hb3a, hb3b⟩
      refine OpsG.cons (o_assign (by (try simp only [rdF, rd_none, rd_same, rd_ne, ne_eq, Nat.reduceEqDiff, not_false_eq_true, Nat.reduceLT, g2, g7, g8, g9, hq1, hq2, hq3, hq4]) <;> rfl)) ?_
      refine OpsG.nil ?_
      repeat (refine GoP.seq ?_)
      refine GoP.region ?_ ?_
      · rfl
      refine OpsG.cons (o_move (by (try simp only [rdF, rd_none, rd_same, rd_ne, ne_eq, Nat.reduceEqDiff, not_false_eq_true, Nat.reduceLT, g2, g7, g8, g9, hq1, hq2, hq3, hq4]) <;> rfl)) ?_
      refine OpsG.call (by (try simp only [List.map_cons, List.map_nil, rdF, rd_none, rd_same, rd_ne, ne_eq, Nat.reduceEqDiff, not_false_eq_true, Nat.reduceLT, g2, g7, g8, g9, hq1, hq2, hq3, hq4]) <;> rfl) (decode_con (hb3.bts (fun _ => hb3b)) (byt_bytes hsok) (by have := bytes_length hsok; omega)) ?_
      rintro rvd σ4 ⟨b4, hrow, hbut4, hb4n⟩
      have hds : decS (ls[i]).bytes = [ls[i]] := by have := dec_bytes hsok []; rw [decS_nil, List.append_nil] at this; exact this
      rw [hds] at hrow hb4n
      have hb4 := hb4n (by simp)
      have hn3 := hbut3.next
      have hn4 := hbut4.next
      have hx4 : σ4.get σ.next = some (.cells (ls[i]).cells 30 .ex) := by rw [hbut4.get _ (by omega) id, hbut3.get _ (by omega) id]; exact hx2
      have hx4r := hx4
      obtain ⟨hrA, hrB⟩ := hrow
      rcases hrB with ⟨hrB, -⟩ | ⟨-, rfl, hb4g⟩
      · simp at hrB
      simp only [List.map_cons, List.map_nil, List.flatten_cons, List.flatten_nil, List.append_nil, List.length_cons, List.length_nil, Nat.zero_add] at hb4g
      refine OpsG.cons (o_assign (by (try simp only [rdF, rd_none, rd_same, rd_ne, ne_eq, Nat.reduceEqDiff, not_false_eq_true, Nat.reduceLT, g2, g7, g8, g9, hq1, hq2, hq3, hq4]) <;> rfl)) ?_
      refine OpsG.nil ?_
      repeat (refine GoP.seq ?_)
      refine GoP.drawn (noK_ok _) mixed ?_ ?_ ?_
      · rfl
      · kernel_rfl
      refine TrP.cons (o_move (by (try simp only [rdF, rd_none, rd_same, rd_ne, ne_eq, Nat.reduceEqDiff, not_false_eq_true, Nat.reduceLT, g2, g7, g8, g9, hq1, hq2, hq3, hq4]) <;> rfl)) ?_
      refine TrP.cons (o_builtin rfl (by (try simp only [List.map_cons, List.map_nil, rdF, rd_none, rd_same, rd_ne, ne_eq, Nat.reduceEqDiff, not_false_eq_true, Nat.reduceLT, g2, g7, g8, g9, hq1, hq2, hq3, hq4]) <;> rfl) (len_23 ..)) ?_
      refine TrP.cons (o_bin (by (try simp only [rdF, rd_none, rd_same, rd_ne, ne_eq, Nat.reduceEqDiff, not_false_eq_true, Nat.reduceLT, g2, g7, g8, g9, hq1, hq2, hq3, hq4]) <;> rfl) (by (try simp only [rdF, rd_none, rd_same, rd_ne, ne_eq, Nat.reduceEqDiff, not_false_eq_true, Nat.reduceLT, g2, g7, g8, g9, hq1, hq2, hq3, hq4]) <;> rfl) binA_eql) ?_
      refine TrP.cons (o_move (by (try simp only [rdF, rd_none, rd_same, rd_ne, ne_eq, Nat.reduceEqDiff, not_false_eq_true, Nat.reduceLT, g2, g7, g8, g9, hq1, hq2, hq3, hq4]) <;> rfl)) ?_
      refine TrP.want (by rfl) (by rfl) (by (try simp only [rdF, rd_none, rd_same, rd_ne, ne_eq, Nat.reduceEqDiff, not_false_eq_true, Nat.reduceLT, g2, g7, g8, g9, hq1, hq2, hq3, hq4]) <;> rfl) (o_move (by (try simp only [rdF, rd_none, rd_same, rd_ne, ne_eq, Nat.reduceEqDiff, not_false_eq_true, Nat.reduceLT, g2, g7, g8, g9, hq1, hq2, hq3, hq4]) <;> rfl)) ?_
      refine TrP.want (by rfl) (by rfl) (by (try simp only [rdF, rd_none, rd_same, rd_ne, ne_eq, Nat.reduceEqDiff, not_false_eq_true, Nat.reduceLT, g2, g7, g8, g9, hq1, hq2, hq3, hq4]) <;> rfl) (o_indexAddr (by (try simp only [rdF, rd_none, rd_same, rd_ne, ne_eq, Nat.reduceEqDiff, not_false_eq_true, Nat.reduceLT, g2, g7, g8, g9, hq1, hq2, hq3, hq4]) <;> rfl) (by (try simp only [rdF, rd_none, rd_same, rd_ne, ne_eq, Nat.reduceEqDiff, not_false_eq_true, Nat.reduceLT, g2, g7, g8, g9, hq1, hq2, hq3, hq4]) <;> rfl) (v := .pointer (some ⟨b4, 0, none⟩)) (by rw [ixi_23 (by omega) (by simp)]; rfl)) ?_
      refine TrP.want (by rfl) (by rfl) (by (try simp only [rdF, rd_none, rd_same, rd_ne, ne_eq, Nat.reduceEqDiff, not_false_eq_true, Nat.reduceLT, g2, g7, g8, g9, hq1, hq2, hq3, hq4]) <;> rfl) (o_load (by (try simp only [rdF, rd_none, rd_same, rd_ne, ne_eq, Nat.reduceEqDiff, not_false_eq_true, Nat.reduceLT, g2, g7, g8, g9, hq1, hq2, hq3, hq4]) <;> rfl) (by (try simp (disch := omega) only [St.get_room, St.get_at_eq, St.get_at_ne, St.get_put_eq, St.get_put_ne, St.get_add_eq, St.get_add_ne, St.get_del_ne, St.next_at, St.next_put', St.next_room, St.next_add', St.next_del', hcs, hx2, hx4, hb4g]) <;> rfl) (by rw [p_30, if_pos (by rw [hlen14]; omega), List.drop_zero, List.take_of_length_le (by rw [hlen14]; omega)])) ?_
      refine TrP.want (by rfl) (by rfl) (by (try simp only [rdF, rd_none, rd_same, rd_ne, ne_eq, Nat.reduceEqDiff, not_false_eq_true, Nat.reduceLT, g2, g7, g8, g9, hq1, hq2, hq3, hq4]) <;> rfl) (o_load (by (try simp only [rdF, rd_none, rd_same, rd_ne, ne_eq, Nat.reduceEqDiff, not_false_eq_true, Nat.reduceLT, g2, g7, g8, g9, hq1, hq2, hq3, hq4]) <;> rfl) (by (try simp (disch := omega) only [St.get_room, St.get_at_eq, St.get_at_ne, St.get_put_eq, St.get_put_ne, St.get_add_eq, St.get_add_ne, St.get_del_ne, St.next_at, St.next_put', St.next_room, St.next_add', St.next_del', hcs, hx2, hx4, hb4g]) <;> rfl) (by rw [p_30, if_pos (by rw [hlen14]; omega), List.drop_zero, List.take_of_length_le (by rw [hlen14]; omega)])) ?_
      refine TrP.want (by rfl) (by rfl) (by (try simp only [rdF, rd_none, rd_same, rd_ne, ne_eq, Nat.reduceEqDiff, not_false_eq_true, Nat.reduceLT, g2, g7, g8, g9, hq1, hq2, hq3, hq4]) <;> rfl) (o_bin (by (try simp only [rdF, rd_none, rd_same, rd_ne, ne_eq, Nat.reduceEqDiff, not_false_eq_true, Nat.reduceLT, g2, g7, g8, g9, hq1, hq2, hq3, hq4]) <;> rfl) (by (try simp only [rdF, rd_none, rd_same, rd_ne, ne_eq, Nat.reduceEqDiff, not_false_eq_true, Nat.reduceLT, g2, g7, g8, g9, hq1, hq2, hq3, hq4]) <;> rfl) (eq30 hsok _ _).1) ?_
      refine TrP.cons (o_pickT (by (try simp only [rdF, rd_none, rd_same, rd_ne, ne_eq, Nat.reduceEqDiff, not_false_eq_true, Nat.reduceLT, g2, g7, g8, g9, hq1, hq2, hq3, hq4]) <;> rfl) (by (try simp only [rdF, rd_none, rd_same, rd_ne, ne_eq, Nat.reduceEqDiff, not_false_eq_true, Nat.reduceLT, g2, g7, g8, g9, hq1, hq2, hq3, hq4]) <;> rfl)) ?_
      refine TrP.nil ⟨ChecksG.of (l1 := []) (l2 := []) (by kernel_rfl) (by kernel_rfl) ?_ ?_, ?_⟩
      · all_goals (simp only [List.forall_mem_cons, List.not_mem_nil, false_implies, implies_true, and_true]; try trivial)
      · simp only [List.forall_mem_cons, List.not_mem_nil, false_implies, implies_true, and_true]; try trivial
      repeat (refine GoP.seq ?_)
      refine GoP.cond_true (by rfl) (by (try simp only [rdF, rd_none, rd_same, rd_ne, ne_eq, Nat.reduceEqDiff, not_false_eq_true, Nat.reduceLT, g2, g7, g8, g9, hq1, hq2, hq3, hq4]) <;> rfl) ?_
      repeat (refine GoP.seq ?_)
      refine GoP.name ?_
      rintro σ5 hσ5
      have hk5 : ∀ q, σ5.get q = σ4.get q := fun q => by rw [hσ5, St.get_room]
      have hn5 : σ5.next = σ4.next + 10 := by rw [hσ5]; rfl
      have hbx5 : BX σ5 rv (encS (ls.take i)) b := hbx.keep (fun hne => by have := hbn hne; rw [hk5, hbut4.get _ (by omega) id, hbut3.get _ (by omega) id, hbut2.get _ (by omega) id])
      have hb35 : BX σ5 rvb (ls[i]).bytes b3 := hb3.keep (fun hne => by rw [hk5, hbut4.get _ (by omega) id])
      have hel : (encS (ls.take i)).length ≤ 67 * 1000 := by have := enc_length (l := ls.take i) (fun s hs => hok s (List.mem_of_mem_take hs)); rw [List.length_take] at this; omega
      have hbl := bytes_length hsok
      obtain ⟨σ6, hap, hg, hn6, hoth⟩ := hbx5.append (hb35.news (bytes_ne _)) (bytes_ne _) (by omega)
      refine GoP.region ?_ ?_
      · rfl
      refine OpsG.cons (o_move (by (try simp only [rdF, rd_none, rd_same, rd_ne, ne_eq, Nat.reduceEqDiff, not_false_eq_true, Nat.reduceLT, g2, g7, g8, g9, hq1, hq2, hq3, hq4]) <;> rfl)) ?_
      refine OpsG.cons (o_move (by (try simp only [rdF, rd_none, rd_same, rd_ne, ne_eq, Nat.reduceEqDiff, not_false_eq_true, Nat.reduceLT, g2, g7, g8, g9, hq1, hq2, hq3, hq4]) <;> rfl)) ?_
      refine OpsG.cons (o_append (by (try simp only [List.map_cons, List.map_nil, rdF, rd_none, rd_same, rd_ne, ne_eq, Nat.reduceEqDiff, not_false_eq_true, Nat.reduceLT, g2, g7, g8, g9, hq1, hq2, hq3, hq4]) <;> rfl) hap) ?_
      refine OpsG.cons (o_assign (by (try simp only [rdF, rd_none, rd_same, rd_ne, ne_eq, Nat.reduceEqDiff, not_false_eq_true, Nat.reduceLT, g2, g7, g8, g9, hq1, hq2, hq3, hq4]) <;> rfl)) ?_
      refine OpsG.nil ?_
      repeat (refine GoP.seq ?_)
      refine GoP.region ?_ ?_
      · rfl
      refine OpsG.cons (o_bin (by (try simp only [rdF, rd_none, rd_same, rd_ne, ne_eq, Nat.reduceEqDiff, not_false_eq_true, Nat.reduceLT, g2, g7, g8, g9, hq1, hq2, hq3, hq4]) <;> rfl) (by (try simp only [rdF, rd_none, rd_same, rd_ne, ne_eq, Nat.reduceEqDiff, not_false_eq_true, Nat.reduceLT, g2, g7, g8, g9, hq1, hq2, hq3, hq4]) <;> rfl) (by first | (refine b_add64 ?_ ?_ <;> omega) | exact binA_add)) ?_
      refine OpsG.cons (o_move (by (try simp only [rdF, rd_none, rd_same, rd_ne, ne_eq, Nat.reduceEqDiff, not_false_eq_true, Nat.reduceLT, g2, g7, g8, g9, hq1, hq2, hq3, hq4]) <;> rfl)) ?_
      refine OpsG.nil ?_
      refine ⟨_, ?_, i + 1, σ5.next, .slice (some ⟨σ5.next, 0, none⟩) ((encS (ls.take i)).length + (ls[i]).bytes.length) unk, (by (try simp only [rdF, rd_none, rd_same, rd_ne, ne_eq, Nat.reduceEqDiff, not_false_eq_true, Nat.reduceLT, g2, g7, g8, g9, hq1, hq2, hq3, hq4]) <;> rfl), (by (try simp only [rdF, rd_none, rd_same, rd_ne, ne_eq, Nat.reduceEqDiff, not_false_eq_true, Nat.reduceLT, g2, g7, g8, g9, hq1, hq2, hq3, hq4]) <;> rfl), (by (try simp only [rdF, rd_none, rd_same, rd_ne, ne_eq, Nat.reduceEqDiff, not_false_eq_true, Nat.reduceLT, g2, g7, g8, g9, hq1, hq2, hq3, hq4]) <;> rfl), (by (try simp only [rdF, rd_none, rd_same, rd_ne, ne_eq, Nat.reduceEqDiff, not_false_eq_true, Nat.reduceLT, g2, g7, g8, g9, hq1, hq2, hq3, hq4]) <;> rfl), by omega, (.inr ⟨by rw [enc_take hlt]; simp [bytes_ne], unk, .vec 1, by rw [enc_take hlt, List.length_append], by rw [enc_take hlt]; exact hg, .inl ⟨rfl, rfl⟩⟩), (fun _ => by omega), ⟨fun q hq _ => by rw [hoth q (by omega) (fun hne => by have := hbn hne; omega), hk5, hbut4.get q (by omega) id, hbut3.get q (by omega) id, hbut2.get q (by omega) id]; exact hbut.get q hq id, by omega⟩, rfl⟩
      omega
    ·
      have hie : i = ls.length := by have := of_decide_eq_false hc; omega
      rw [hie, List.take_length] at hbx hbn
      repeat (refine GoP.seq ?_)
      refine GoP.exit ?_
      refine Eq.mpr (if_pos rfl) ?_
      repeat (refine GoP.seq ?_)
      refine GoP.region ?_ ?_
      · rfl
      refine OpsG.cons (o_move (by (try simp only [rdF, rd_none, rd_same, rd_ne, ne_eq, Nat.reduceEqDiff, not_false_eq_true, Nat.reduceLT, g2, g7, g8, g9]) <;> rfl)) ?_
      refine OpsG.cons (o_assign (by (try simp only [rdF, rd_none, rd_same, rd_ne, ne_eq, Nat.reduceEqDiff, not_false_eq_true, Nat.reduceLT, g2, g7, g8, g9]) <;> rfl)) ?_
      refine OpsG.nil ?_
      repeat (refine GoP.seq ?_)
      refine GoP.ret ?_
      refine ⟨.inl rfl, [rv], ?_, ?_⟩
      · exact (by (try simp only [resAllF, resOneF, rdF, rd_none, rd_same, rd_ne, ne_eq, Nat.reduceEqDiff, not_false_eq_true, Nat.reduceLT, g2, g7, g8, g9]) <;> rfl)
      · exact ⟨b, hbx, hbut, hbn⟩
  ·
    exact ⟨0, 0, .slice none 0 0, (by (try simp only [rdF, rd_none, rd_same, rd_ne, ne_eq, Nat.reduceEqDiff, not_false_eq_true, Nat.reduceLT, f0]) <;> rfl), (by (try simp only [rdF, rd_none, rd_same, rd_ne, ne_eq, Nat.reduceEqDiff, not_false_eq_true, Nat.reduceLT, f0]) <;> rfl), (by (try simp only [rdF, rd_none, rd_same, rd_ne, ne_eq, Nat.reduceEqDiff, not_false_eq_true, Nat.reduceLT, f0]) <;> rfl), (by (try simp only [rdF, rd_none, rd_same, rd_ne, ne_eq, Nat.reduceEqDiff, not_false_eq_true, Nat.reduceLT, f0]) <;> rfl), by omega, .inl ⟨rfl, rfl⟩, (fun h => absurd rfl h), But.refl _ _, rfl⟩
end Go.Proofs.YtfffmmgmjlfkoaaGreat
