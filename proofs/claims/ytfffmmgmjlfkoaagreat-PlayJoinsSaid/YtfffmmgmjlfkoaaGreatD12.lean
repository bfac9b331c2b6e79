/- play.one -/
import Derived.Test.YtfffmmgmjlfkoaaGreatD11
namespace Go.Proofs.YtfffmmgmjlfkoaaGreat
set_option linter.unusedSimpArgs false
set_option linter.unusedVariables false
open Go.As

/-- The bytes of a step. -/
def Stp.bytes : Stp → List Int
  | .call c r => [1, c, 8] ++ (r.map (low · 8)).flatten
  | .load c p w => [2, c] ++ low p 2 ++ low w 1
  | .store c p w v => [3, c] ++ low p 2 ++ low w 1 ++ low v 8
  | .tick c => [4, c]
  | .line c n => [5, c] ++ low n 1
def u64r (v : Int) : Prop := 0 ≤ v ∧ v < 18446744073709551616
/-- Steps as bytes can say them. -/
def Stp.ok : Stp → Prop
  | .call c r => (0 ≤ c ∧ c < 256) ∧ r.length = 8 ∧ ∀ v ∈ r, u64r v
  | .load c p w => (0 ≤ c ∧ c < 256) ∧ (0 ≤ p ∧ p < 65536) ∧ (0 ≤ w ∧ w < 256)
  | .store c p w v => (0 ≤ c ∧ c < 256) ∧ (0 ≤ p ∧ p < 65536) ∧ (0 ≤ w ∧ w < 256) ∧ u64r v
  | .tick c => 0 ≤ c ∧ c < 256
  | .line c n => (0 ≤ c ∧ c < 256) ∧ (0 ≤ n ∧ n < 256)

structure OInv (σ1 σ : St) (xb cb : Nat) (xs : List Value) (sv : Value) (bs : List Int) (b : Nat) : Prop where
  but : But σ1 σ fun _ => False
  xo : σ.get xb = some (.cells xs 30 .ex)
  co : σ.get cb = some (.cells [sv] 25 .ex)
  bx : BX σ sv bs b
  ne : bs ≠ []
  xn : σ1.next ≤ xb ∧ xb < σ.next
  cn : σ1.next ≤ cb ∧ cb < σ.next
  bn : σ1.next ≤ b ∧ b < σ.next
  d : xb ≠ cb ∧ xb ≠ b ∧ cb ≠ b

theorem OInv.num {σ1 σ : St} {xb cb b n : Nat} {xs : List Value} {sv : Value} {bs : List Int} {v : Int} (h : OInv σ1 σ xb cb xs sv bs b) (hv : 0 ≤ v) (hn : n ≤ 8) (hl : bs.length ≤ 1000) :
    Con Tryz.prog 20 [.int .u64 v, .int .i64 (n : Int), .pointer (some ⟨cb, 0, none⟩)] σ (fun r σ' => r = .tuple #[] ∧ ∃ sv' b', OInv σ1 σ' xb cb xs sv' (bs ++ low v n) b') := by
  have hx := h.xn
  have hc := h.cn
  have hb := h.bn
  refine (num20_con h.co hc.2 h.bx h.ne ⟨hb.2, Ne.symm h.d.2.2⟩ hv hn hl).mono ?_
  rintro r σ' ⟨rfl, sv', b', h1, h2, h3, h4⟩
  have hn1 := h.but.next
  have hn2 := h4.next
  refine ⟨rfl, sv', b', ⟨⟨fun c hcc _ => ?_, by omega⟩, ?_, h1, h2, by simp [h.ne], by omega, by omega, by omega, h.d.1, ?_, Ne.symm h3.2.1⟩⟩
  · rw [h4.get c (by omega) (by omega)]; exact h.but.get c hcc id
  · rw [h4.get xb hx.2 (by have := h.d; omega)]; exact h.xo
  · have := h.d; omega

theorem bs25_2 (a c : Int) (dst : Option Tmp) (ty : TypeId) (pos : String) (af : Array Edge) : allocA Tryz.prog (fun x => match x with | .tmp 9 => .int .u8 a | _ => .int .u8 c) ⟨dst, .buildSlice 25 2 #[(0, .tmp 9), (1, .tmp 12)], ty, pos, af, none⟩ = some (.cells [.int .u8 a, .int .u8 c] 5 .ex, fun b => .slice (some ⟨b, 0, none⟩) 2 2) := by kernel_rfl
theorem idx28 (r0 r1 r2 r3 r4 r5 r6 r7 : Int) {j : Nat} (h : j < 8) : indexA Tryz.prog 28 (.agg #[.int .u64 r0, .int .u64 r1, .int .u64 r2, .int .u64 r3, .int .u64 r4, .int .u64 r5, .int .u64 r6, .int .u64 r7]) (.int .i64 (j : Int)) = some (.int .u64 ([r0, r1, r2, r3, r4, r5, r6, r7].getD j 0)) := by
  rcases (by omega : j = 0 ∨ j = 1 ∨ j = 2 ∨ j = 3 ∨ j = 4 ∨ j = 5 ∨ j = 6 ∨ j = 7) with rfl | rfl | rfl | rfl | rfl | rfl | rfl | rfl <;> kernel_rfl

noncomputable def code15 : Code := match Tryz.f15.body with | some c => c | none => .skip
theorem code15_eq : Tryz.f15.body = some code15 := by kernel_rfl
theorem ok15 : fnOk Tryz.f15 = true := by kernel_rfl
set_option maxRecDepth 8000 in
theorem one_tick {σ : St} {c  : Int} (hc : 0 ≤ c ∧ c < 256)  : Con Tryz.prog 15 [.agg #[.int .i64 4, .int .i64 c, .int .u64 0, .int .u64 0, .int .u64 0, .int .u64 0, .int .u64 0, .int .u64 0, .int .u64 0, .int .u64 0, .int .i64 0, .int .i64 0, .int .u64 0, .int .i64 0]] σ (fun rv σ' => ∃ b, BX σ' rv (.tick c : Stp).bytes b ∧ But σ σ' (fun _ => False) ∧ σ.next ≤ b ∧ b < σ'.next) := by
  refine Con.of_goP (nt := 58) (rs := [.tmp 2]) Tryz.func15 code15_eq ok15 rfl rfl (by simp) ?_
  have f0 : rdT 58 (fill .nil 0 [.agg #[.int .i64 4, .int .i64 c, .int .u64 0, .int .u64 0, .int .u64 0, .int .u64 0, .int .u64 0, .int .u64 0, .int .u64 0, .int .u64 0, .int .i64 0, .int .i64 0, .int .u64 0, .int .i64 0]]) 0 = .agg #[.int .i64 4, .int .i64 c, .int .u64 0, .int .u64 0, .int .u64 0, .int .u64 0, .int .u64 0, .int .u64 0, .int .u64 0, .int .u64 0, .int .i64 0, .int .i64 0, .int .u64 0, .int .i64 0] := rfl
  generalize fill .nil 0 [.agg #[.int .i64 4, .int .i64 c, .int .u64 0, .int .u64 0, .int .u64 0, .int .u64 0, .int .u64 0, .int .u64 0, .int .u64 0, .int .u64 0, .int .i64 0, .int .i64 0, .int .u64 0, .int .i64 0]] = t at f0
  unfold code15 Tryz.f15
  repeat (refine GoP.seq ?_)
  refine GoP.name ?_
  rintro σ1 rfl
  refine GoP.region ?_ ?_
  · rfl
  refine OpsG.cons (o_box (by (try simp only [rdF, rd_none, rd_same, rd_ne, ne_eq, Nat.reduceEqDiff, not_false_eq_true, Nat.reduceLT, f0]) <;> rfl) (cl_14 ..)) ?_
  refine OpsG.cons (o_assign (by (try simp only [rdF, rd_none, rd_same, rd_ne, ne_eq, Nat.reduceEqDiff, not_false_eq_true, Nat.reduceLT, f0]) <;> rfl)) ?_
  refine OpsG.nil ?_
  repeat (refine GoP.seq ?_)
  refine GoP.region ?_ ?_
  · rfl
  refine OpsG.cons (o_field (by (try simp only [rdF, rd_none, rd_same, rd_ne, ne_eq, Nat.reduceEqDiff, not_false_eq_true, Nat.reduceLT, f0]) <;> rfl) (fa_30_0 _ _)) ?_
  refine OpsG.cons (o_load (by (try simp only [rdF, rd_none, rd_same, rd_ne, ne_eq, Nat.reduceEqDiff, not_false_eq_true, Nat.reduceLT, f0]) <;> rfl) (by (try simp (disch := omega) only [St.get_room, St.get_at_eq, St.get_at_ne, St.get_put_eq, St.get_put_ne, St.get_add_eq, St.get_add_ne, St.get_del_ne, St.next_at, St.next_put', St.next_room, St.next_add', St.next_del']) <;> rfl) (by rw [p_3]; rfl)) ?_
  refine OpsG.cons (o_convert rfl (by (try simp only [rdF, rd_none, rd_same, rd_ne, ne_eq, Nat.reduceEqDiff, not_false_eq_true, Nat.reduceLT, f0]) <;> rfl) ((cv_3_5 _).trans (congrArg (fun z => some (Value.int .u8 z)) (wrapu8 (by omega) (by omega))))) ?_
  refine OpsG.cons (o_field (by (try simp only [rdF, rd_none, rd_same, rd_ne, ne_eq, Nat.reduceEqDiff, not_false_eq_true, Nat.reduceLT, f0]) <;> rfl) (fa_30_1 _ _)) ?_
  refine OpsG.cons (o_load (by (try simp only [rdF, rd_none, rd_same, rd_ne, ne_eq, Nat.reduceEqDiff, not_false_eq_true, Nat.reduceLT, f0]) <;> rfl) (by (try simp (disch := omega) only [St.get_room, St.get_at_eq, St.get_at_ne, St.get_put_eq, St.get_put_ne, St.get_add_eq, St.get_add_ne, St.get_del_ne, St.next_at, St.next_put', St.next_room, St.next_add', St.next_del']) <;> rfl) (by rw [p_3]; rfl)) ?_
  refine OpsG.cons (o_convert rfl (by (try simp only [rdF, rd_none, rd_same, rd_ne, ne_eq, Nat.reduceEqDiff, not_false_eq_true, Nat.reduceLT, f0]) <;> rfl) ((cv_3_5 _).trans (congrArg (fun z => some (Value.int .u8 z)) (wrapu8 (by omega) (by omega))))) ?_
  refine OpsG.cons (o_makesOf (fun x => match x with | .tmp 9 => .int .u8 4 | _ => .int .u8 c) rfl (by intro x hx; have e : x = .tmp 9 ∨ x = .tmp 12 := (by simpa [Op.operands] using hx); rcases e with e | e <;> rw [e] <;> exact (by (try simp only [rdF, rd_none, rd_same, rd_ne, ne_eq, Nat.reduceEqDiff, not_false_eq_true, Nat.reduceLT, f0]) <;> rfl)) (bs25_2 ..)) ?_
  refine OpsG.cons (o_alloc z_25 (cl1 rfl)) ?_
  refine OpsG.cons (o_store (by (try simp only [rdF, rd_none, rd_same, rd_ne, ne_eq, Nat.reduceEqDiff, not_false_eq_true, Nat.reduceLT, f0]) <;> rfl) (by (try simp only [rdF, rd_none, rd_same, rd_ne, ne_eq, Nat.reduceEqDiff, not_false_eq_true, Nat.reduceLT, f0]) <;> rfl) (by (try simp (disch := omega) only [St.get_room, St.get_at_eq, St.get_at_ne, St.get_put_eq, St.get_put_ne, St.get_add_eq, St.get_add_ne, St.get_del_ne, St.next_at, St.next_put', St.next_room, St.next_add', St.next_del']) <;> rfl) (by simp) s_25 (cl1 rfl) rfl rfl (by simp) (by simp only [splice, List.length_cons, List.length_nil, List.drop_succ_cons, List.drop_zero, List.take_succ_cons, List.take_zero, Nat.reduceAdd, Nat.reduceLeDiff, Nat.zero_add, List.append_nil, List.nil_append, List.cons_append]; rfl)) ?_
  refine OpsG.nil ?_
  repeat (refine GoP.seq ?_)
  refine GoP.name ?_
  rintro σ hσ
  obtain ⟨xb, hxb⟩ : ∃ x, x = σ1.next := ⟨_, rfl⟩
  obtain ⟨cb, hcb⟩ : ∃ x, x = σ1.next + 2 := ⟨_, rfl⟩
  have ho : OInv σ1 σ xb cb [.int .i64 4, .int .i64 c, .int .u64 0, .int .u64 0, .int .u64 0, .int .u64 0, .int .u64 0, .int .u64 0, .int .u64 0, .int .u64 0, .int .i64 0, .int .i64 0, .int .u64 0, .int .i64 0] (.slice (some ⟨σ1.next + 1, 0, none⟩) 2 2) [4, c] (σ1.next + 1) := by
    subst hxb hcb
    rw [hσ]
    refine ⟨?_, ?_, ?_, .inr ⟨by simp, 2, .ex, rfl, ?_, .inr ⟨rfl, rfl⟩⟩, by simp, ?_, ?_, ?_, by omega⟩
    · repeat (first | exact But.refl _ _ | refine But.putNew ?_ ?_ | refine But.at ?_ ?_ ?_)
      all_goals ((try simp only [St.next_at, St.next_put']); omega)
    all_goals first
      | (simp only [St.next_put', St.next_at]; omega)
      | ((simp (disch := omega) only [St.get_room, St.get_at_eq, St.get_at_ne, St.get_put_eq, St.get_put_ne, St.get_add_eq, St.get_add_ne, St.get_del_ne, St.next_at, St.next_put', St.next_room, St.next_add', St.next_del']); done)
      | ((simp (disch := omega) only [St.get_room, St.get_at_eq, St.get_at_ne, St.get_put_eq, St.get_put_ne, St.get_add_eq, St.get_add_ne, St.get_del_ne, St.next_at, St.next_put', St.next_room, St.next_add', St.next_del']); rfl)
  refine GoP.nameT ?_
  rintro t hT
  have g1 : rdT 58 t 1 = .pointer (some ⟨xb, 0, none⟩) := by rw [hT, hxb]; exact (by (try simp only [rdF, rd_none, rd_same, rd_ne, ne_eq, Nat.reduceEqDiff, not_false_eq_true, Nat.reduceLT, f0]) <;> rfl)
  have g3 : rdT 58 t 3 = .pointer (some ⟨cb, 0, none⟩) := by rw [hT, hcb]; exact (by (try simp only [rdF, rd_none, rd_same, rd_ne, ne_eq, Nat.reduceEqDiff, not_false_eq_true, Nat.reduceLT, f0]) <;> rfl)
  refine GoP.region ?_ ?_
  · rfl
  refine OpsG.cons (o_makeFunc (vs := #[.pointer (some ⟨cb, 0, none⟩)]) (by simp only [List.map_toArray, List.map_cons, List.map_nil, rdF, rd_none, rd_same, rd_ne, ne_eq, Nat.reduceEqDiff, not_false_eq_true, Nat.reduceLT, g1, g3])) ?_
  refine OpsG.cons (o_assign (by (try simp only [rdF, rd_none, rd_same, rd_ne, ne_eq, Nat.reduceEqDiff, not_false_eq_true, Nat.reduceLT, g1, g3]) <;> rfl)) ?_
  refine OpsG.nil ?_
  repeat (refine GoP.seq ?_)
  refine GoP.region ?_ ?_
  · rfl
  refine OpsG.cons (o_field (by (try simp only [rdF, rd_none, rd_same, rd_ne, ne_eq, Nat.reduceEqDiff, not_false_eq_true, Nat.reduceLT, g1, g3]) <;> rfl) (fa_30_0 _ _)) ?_
  refine OpsG.cons (o_load (by (try simp only [rdF, rd_none, rd_same, rd_ne, ne_eq, Nat.reduceEqDiff, not_false_eq_true, Nat.reduceLT, g1, g3]) <;> rfl) (by (try simp (disch := omega) only [St.get_room, St.get_at_eq, St.get_at_ne, St.get_put_eq, St.get_put_ne, St.get_add_eq, St.get_add_ne, St.get_del_ne, St.next_at, St.next_put', St.next_room, St.next_add', St.next_del', ho.xo, ho.co]) <;> rfl) (by rw [p_3]; rfl)) ?_
  refine OpsG.nil ?_
  repeat (refine GoP.seq ?_)
  refine GoP.block ?_
  repeat (refine GoP.seq ?_)
  refine GoP.region ?_ ?_
  · rfl
  refine OpsG.cons (o_bin (by (try simp only [rdF, rd_none, rd_same, rd_ne, ne_eq, Nat.reduceEqDiff, not_false_eq_true, Nat.reduceLT, g1, g3]) <;> rfl) (by (try simp only [rdF, rd_none, rd_same, rd_ne, ne_eq, Nat.reduceEqDiff, not_false_eq_true, Nat.reduceLT, g1, g3]) <;> rfl) binA_eql) ?_
  refine OpsG.cons (o_assign (by (try simp only [rdF, rd_none, rd_same, rd_ne, ne_eq, Nat.reduceEqDiff, not_false_eq_true, Nat.reduceLT, g1, g3]) <;> rfl)) ?_
  refine OpsG.nil ?_
  repeat (refine GoP.seq ?_)
  refine GoP.cond_false (by rfl) (by (try simp only [rdF, rd_none, rd_same, rd_ne, ne_eq, Nat.reduceEqDiff, not_false_eq_true, Nat.reduceLT, g1, g3]) <;> rfl) ?_
  repeat (refine GoP.seq ?_)
  refine GoP.region ?_ ?_
  · rfl
  refine OpsG.cons (o_bin (by (try simp only [rdF, rd_none, rd_same, rd_ne, ne_eq, Nat.reduceEqDiff, not_false_eq_true, Nat.reduceLT, g1, g3]) <;> rfl) (by (try simp only [rdF, rd_none, rd_same, rd_ne, ne_eq, Nat.reduceEqDiff, not_false_eq_true, Nat.reduceLT, g1, g3]) <;> rfl) binA_eql) ?_
  refine OpsG.cons (o_assign (by (try simp only [rdF, rd_none, rd_same, rd_ne, ne_eq, Nat.reduceEqDiff, not_false_eq_true, Nat.reduceLT, g1, g3]) <;> rfl)) ?_
  refine OpsG.nil ?_
  repeat (refine GoP.seq ?_)
  refine GoP.cond_false (by rfl) (by (try simp only [rdF, rd_none, rd_same, rd_ne, ne_eq, Nat.reduceEqDiff, not_false_eq_true, Nat.reduceLT, g1, g3]) <;> rfl) ?_
  repeat (refine GoP.seq ?_)
  refine GoP.region ?_ ?_
  · rfl
  refine OpsG.cons (o_bin (by (try simp only [rdF, rd_none, rd_same, rd_ne, ne_eq, Nat.reduceEqDiff, not_false_eq_true, Nat.reduceLT, g1, g3]) <;> rfl) (by (try simp only [rdF, rd_none, rd_same, rd_ne, ne_eq, Nat.reduceEqDiff, not_false_eq_true, Nat.reduceLT, g1, g3]) <;> rfl) binA_eql) ?_
  refine OpsG.cons (o_assign (by (try simp only [rdF, rd_none, rd_same, rd_ne, ne_eq, Nat.reduceEqDiff, not_false_eq_true, Nat.reduceLT, g1, g3]) <;> rfl)) ?_
  refine OpsG.nil ?_
  repeat (refine GoP.seq ?_)
  refine GoP.cond_false (by rfl) (by (try simp only [rdF, rd_none, rd_same, rd_ne, ne_eq, Nat.reduceEqDiff, not_false_eq_true, Nat.reduceLT, g1, g3]) <;> rfl) ?_
  repeat (refine GoP.seq ?_)
  refine GoP.region ?_ ?_
  · rfl
  refine OpsG.cons (o_bin (by (try simp only [rdF, rd_none, rd_same, rd_ne, ne_eq, Nat.reduceEqDiff, not_false_eq_true, Nat.reduceLT, g1, g3]) <;> rfl) (by (try simp only [rdF, rd_none, rd_same, rd_ne, ne_eq, Nat.reduceEqDiff, not_false_eq_true, Nat.reduceLT, g1, g3]) <;> rfl) binA_eql) ?_
  refine OpsG.cons (o_assign (by (try simp only [rdF, rd_none, rd_same, rd_ne, ne_eq, Nat.reduceEqDiff, not_false_eq_true, Nat.reduceLT, g1, g3]) <;> rfl)) ?_
  refine OpsG.nil ?_
  repeat (refine GoP.seq ?_)
  refine GoP.cond_false (by rfl) (by (try simp only [rdF, rd_none, rd_same, rd_ne, ne_eq, Nat.reduceEqDiff, not_false_eq_true, Nat.reduceLT, g1, g3]) <;> rfl) ?_
  repeat (refine GoP.seq ?_)
  refine GoP.skip ?_
  repeat (refine GoP.seq ?_)
  refine GoP.region ?_ ?_
  · rfl
  refine OpsG.cons (o_load (by (try simp only [rdF, rd_none, rd_same, rd_ne, ne_eq, Nat.reduceEqDiff, not_false_eq_true, Nat.reduceLT, g1, g3]) <;> rfl) (by (try simp (disch := omega) only [St.get_room, St.get_at_eq, St.get_at_ne, St.get_put_eq, St.get_put_ne, St.get_add_eq, St.get_add_ne, St.get_del_ne, St.next_at, St.next_put', St.next_room, St.next_add', St.next_del', ho.xo, ho.co]) <;> rfl) (by rw [p_25]; rfl)) ?_
  refine OpsG.cons (o_assign (by (try simp only [rdF, rd_none, rd_same, rd_ne, ne_eq, Nat.reduceEqDiff, not_false_eq_true, Nat.reduceLT, g1, g3]) <;> rfl)) ?_
  refine OpsG.nil ?_
  repeat (refine GoP.seq ?_)
  refine GoP.ret ?_
  refine ⟨.inl rfl, [.slice (some ⟨σ1.next + 1, 0, none⟩) 2 2], ?_, ?_⟩
  · exact (by (try simp only [resAllF, resOneF, rdF, rd_none, rd_same, rd_ne, ne_eq, Nat.reduceEqDiff, not_false_eq_true, Nat.reduceLT, g1, g3]) <;> rfl)
  · exact ⟨σ1.next + 1, (by have := ho.bx; exact this), ho.but, ho.bn.1, ho.bn.2⟩
set_option maxRecDepth 8000 in
theorem one_line {σ : St} {c n : Int} (hc : 0 ≤ c ∧ c < 256) (hn : 0 ≤ n ∧ n < 256) : Con Tryz.prog 15 [.agg #[.int .i64 5, .int .i64 c, .int .u64 0, .int .u64 0, .int .u64 0, .int .u64 0, .int .u64 0, .int .u64 0, .int .u64 0, .int .u64 0, .int .i64 0, .int .i64 0, .int .u64 0, .int .i64 n]] σ (fun rv σ' => ∃ b, BX σ' rv (.line c n : Stp).bytes b ∧ But σ σ' (fun _ => False) ∧ σ.next ≤ b ∧ b < σ'.next) := by
  refine Con.of_goP (nt := 58) (rs := [.tmp 2]) Tryz.func15 code15_eq ok15 rfl rfl (by simp) ?_
  have f0 : rdT 58 (fill .nil 0 [.agg #[.int .i64 5, .int .i64 c, .int .u64 0, .int .u64 0, .int .u64 0, .int .u64 0, .int .u64 0, .int .u64 0, .int .u64 0, .int .u64 0, .int .i64 0, .int .i64 0, .int .u64 0, .int .i64 n]]) 0 = .agg #[.int .i64 5, .int .i64 c, .int .u64 0, .int .u64 0, .int .u64 0, .int .u64 0, .int .u64 0, .int .u64 0, .int .u64 0, .int .u64 0, .int .i64 0, .int .i64 0, .int .u64 0, .int .i64 n] := rfl
  generalize fill .nil 0 [.agg #[.int .i64 5, .int .i64 c, .int .u64 0, .int .u64 0, .int .u64 0, .int .u64 0, .int .u64 0, .int .u64 0, .int .u64 0, .int .u64 0, .int .i64 0, .int .i64 0, .int .u64 0, .int .i64 n]] = t at f0
  unfold code15 Tryz.f15
  repeat (refine GoP.seq ?_)
  refine GoP.name ?_
  rintro σ1 rfl
  refine GoP.region ?_ ?_
  · rfl
  refine OpsG.cons (o_box (by (try simp only [rdF, rd_none, rd_same, rd_ne, ne_eq, Nat.reduceEqDiff, not_false_eq_true, Nat.reduceLT, f0]) <;> rfl) (cl_14 ..)) ?_
  refine OpsG.cons (o_assign (by (try simp only [rdF, rd_none, rd_same, rd_ne, ne_eq, Nat.reduceEqDiff, not_false_eq_true, Nat.reduceLT, f0]) <;> rfl)) ?_
  refine OpsG.nil ?_
  repeat (refine GoP.seq ?_)
  refine GoP.region ?_ ?_
  · rfl
  refine OpsG.cons (o_field (by (try simp only [rdF, rd_none, rd_same, rd_ne, ne_eq, Nat.reduceEqDiff, not_false_eq_true, Nat.reduceLT, f0]) <;> rfl) (fa_30_0 _ _)) ?_
  refine OpsG.cons (o_load (by (try simp only [rdF, rd_none, rd_same, rd_ne, ne_eq, Nat.reduceEqDiff, not_false_eq_true, Nat.reduceLT, f0]) <;> rfl) (by (try simp (disch := omega) only [St.get_room, St.get_at_eq, St.get_at_ne, St.get_put_eq, St.get_put_ne, St.get_add_eq, St.get_add_ne, St.get_del_ne, St.next_at, St.next_put', St.next_room, St.next_add', St.next_del']) <;> rfl) (by rw [p_3]; rfl)) ?_
  refine OpsG.cons (o_convert rfl (by (try simp only [rdF, rd_none, rd_same, rd_ne, ne_eq, Nat.reduceEqDiff, not_false_eq_true, Nat.reduceLT, f0]) <;> rfl) ((cv_3_5 _).trans (congrArg (fun z => some (Value.int .u8 z)) (wrapu8 (by omega) (by omega))))) ?_
  refine OpsG.cons (o_field (by (try simp only [rdF, rd_none, rd_same, rd_ne, ne_eq, Nat.reduceEqDiff, not_false_eq_true, Nat.reduceLT, f0]) <;> rfl) (fa_30_1 _ _)) ?_
  refine OpsG.cons (o_load (by (try simp only [rdF, rd_none, rd_same, rd_ne, ne_eq, Nat.reduceEqDiff, not_false_eq_true, Nat.reduceLT, f0]) <;> rfl) (by (try simp (disch := omega) only [St.get_room, St.get_at_eq, St.get_at_ne, St.get_put_eq, St.get_put_ne, St.get_add_eq, St.get_add_ne, St.get_del_ne, St.next_at, St.next_put', St.next_room, St.next_add', St.next_del']) <;> rfl) (by rw [p_3]; rfl)) ?_
  refine OpsG.cons (o_convert rfl (by (try simp only [rdF, rd_none, rd_same, rd_ne, ne_eq, Nat.reduceEqDiff, not_false_eq_true, Nat.reduceLT, f0]) <;> rfl) ((cv_3_5 _).trans (congrArg (fun z => some (Value.int .u8 z)) (wrapu8 (by omega) (by omega))))) ?_
  refine OpsG.cons (o_makesOf (fun x => match x with | .tmp 9 => .int .u8 5 | _ => .int .u8 c) rfl (by intro x hx; have e : x = .tmp 9 ∨ x = .tmp 12 := (by simpa [Op.operands] using hx); rcases e with e | e <;> rw [e] <;> exact (by (try simp only [rdF, rd_none, rd_same, rd_ne, ne_eq, Nat.reduceEqDiff, not_false_eq_true, Nat.reduceLT, f0]) <;> rfl)) (bs25_2 ..)) ?_
  refine OpsG.cons (o_alloc z_25 (cl1 rfl)) ?_
  refine OpsG.cons (o_store (by (try simp only [rdF, rd_none, rd_same, rd_ne, ne_eq, Nat.reduceEqDiff, not_false_eq_true, Nat.reduceLT, f0]) <;> rfl) (by (try simp only [rdF, rd_none, rd_same, rd_ne, ne_eq, Nat.reduceEqDiff, not_false_eq_true, Nat.reduceLT, f0]) <;> rfl) (by (try simp (disch := omega) only [St.get_room, St.get_at_eq, St.get_at_ne, St.get_put_eq, St.get_put_ne, St.get_add_eq, St.get_add_ne, St.get_del_ne, St.next_at, St.next_put', St.next_room, St.next_add', St.next_del']) <;> rfl) (by simp) s_25 (cl1 rfl) rfl rfl (by simp) (by simp only [splice, List.length_cons, List.length_nil, List.drop_succ_cons, List.drop_zero, List.take_succ_cons, List.take_zero, Nat.reduceAdd, Nat.reduceLeDiff, Nat.zero_add, List.append_nil, List.nil_append, List.cons_append]; rfl)) ?_
  refine OpsG.nil ?_
  repeat (refine GoP.seq ?_)
  refine GoP.name ?_
  rintro σ hσ
  obtain ⟨xb, hxb⟩ : ∃ x, x = σ1.next := ⟨_, rfl⟩
  obtain ⟨cb, hcb⟩ : ∃ x, x = σ1.next + 2 := ⟨_, rfl⟩
  have ho : OInv σ1 σ xb cb [.int .i64 5, .int .i64 c, .int .u64 0, .int .u64 0, .int .u64 0, .int .u64 0, .int .u64 0, .int .u64 0, .int .u64 0, .int .u64 0, .int .i64 0, .int .i64 0, .int .u64 0, .int .i64 n] (.slice (some ⟨σ1.next + 1, 0, none⟩) 2 2) [5, c] (σ1.next + 1) := by
    subst hxb hcb
    rw [hσ]
    refine ⟨?_, ?_, ?_, .inr ⟨by simp, 2, .ex, rfl, ?_, .inr ⟨rfl, rfl⟩⟩, by simp, ?_, ?_, ?_, by omega⟩
    · repeat (first | exact But.refl _ _ | refine But.putNew ?_ ?_ | refine But.at ?_ ?_ ?_)
      all_goals ((try simp only [St.next_at, St.next_put']); omega)
    all_goals first
      | (simp only [St.next_put', St.next_at]; omega)
      | ((simp (disch := omega) only [St.get_room, St.get_at_eq, St.get_at_ne, St.get_put_eq, St.get_put_ne, St.get_add_eq, St.get_add_ne, St.get_del_ne, St.next_at, St.next_put', St.next_room, St.next_add', St.next_del']); done)
      | ((simp (disch := omega) only [St.get_room, St.get_at_eq, St.get_at_ne, St.get_put_eq, St.get_put_ne, St.get_add_eq, St.get_add_ne, St.get_del_ne, St.next_at, St.next_put', St.next_room, St.next_add', St.next_del']); rfl)
  refine GoP.nameT ?_
  rintro t hT
  have g1 : rdT 58 t 1 = .pointer (some ⟨xb, 0, none⟩) := by rw [hT, hxb]; exact (by (try simp only [rdF, rd_none, rd_same, rd_ne, ne_eq, Nat.reduceEqDiff, not_false_eq_true, Nat.reduceLT, f0]) <;> rfl)
  have g3 : rdT 58 t 3 = .pointer (some ⟨cb, 0, none⟩) := by rw [hT, hcb]; exact (by (try simp only [rdF, rd_none, rd_same, rd_ne, ne_eq, Nat.reduceEqDiff, not_false_eq_true, Nat.reduceLT, f0]) <;> rfl)
  refine GoP.region ?_ ?_
  · rfl
  refine OpsG.cons (o_makeFunc (vs := #[.pointer (some ⟨cb, 0, none⟩)]) (by simp only [List.map_toArray, List.map_cons, List.map_nil, rdF, rd_none, rd_same, rd_ne, ne_eq, Nat.reduceEqDiff, not_false_eq_true, Nat.reduceLT, g1, g3])) ?_
  refine OpsG.cons (o_assign (by (try simp only [rdF, rd_none, rd_same, rd_ne, ne_eq, Nat.reduceEqDiff, not_false_eq_true, Nat.reduceLT, g1, g3]) <;> rfl)) ?_
  refine OpsG.nil ?_
  repeat (refine GoP.seq ?_)
  refine GoP.region ?_ ?_
  · rfl
  refine OpsG.cons (o_field (by (try simp only [rdF, rd_none, rd_same, rd_ne, ne_eq, Nat.reduceEqDiff, not_false_eq_true, Nat.reduceLT, g1, g3]) <;> rfl) (fa_30_0 _ _)) ?_
  refine OpsG.cons (o_load (by (try simp only [rdF, rd_none, rd_same, rd_ne, ne_eq, Nat.reduceEqDiff, not_false_eq_true, Nat.reduceLT, g1, g3]) <;> rfl) (by (try simp (disch := omega) only [St.get_room, St.get_at_eq, St.get_at_ne, St.get_put_eq, St.get_put_ne, St.get_add_eq, St.get_add_ne, St.get_del_ne, St.next_at, St.next_put', St.next_room, St.next_add', St.next_del', ho.xo, ho.co]) <;> rfl) (by rw [p_3]; rfl)) ?_
  refine OpsG.nil ?_
  repeat (refine GoP.seq ?_)
  refine GoP.block ?_
  repeat (refine GoP.seq ?_)
  refine GoP.region ?_ ?_
  · rfl
  refine OpsG.cons (o_bin (by (try simp only [rdF, rd_none, rd_same, rd_ne, ne_eq, Nat.reduceEqDiff, not_false_eq_true, Nat.reduceLT, g1, g3]) <;> rfl) (by (try simp only [rdF, rd_none, rd_same, rd_ne, ne_eq, Nat.reduceEqDiff, not_false_eq_true, Nat.reduceLT, g1, g3]) <;> rfl) binA_eql) ?_
  refine OpsG.cons (o_assign (by (try simp only [rdF, rd_none, rd_same, rd_ne, ne_eq, Nat.reduceEqDiff, not_false_eq_true, Nat.reduceLT, g1, g3]) <;> rfl)) ?_
  refine OpsG.nil ?_
  repeat (refine GoP.seq ?_)
  refine GoP.cond_false (by rfl) (by (try simp only [rdF, rd_none, rd_same, rd_ne, ne_eq, Nat.reduceEqDiff, not_false_eq_true, Nat.reduceLT, g1, g3]) <;> rfl) ?_
  repeat (refine GoP.seq ?_)
  refine GoP.region ?_ ?_
  · rfl
  refine OpsG.cons (o_bin (by (try simp only [rdF, rd_none, rd_same, rd_ne, ne_eq, Nat.reduceEqDiff, not_false_eq_true, Nat.reduceLT, g1, g3]) <;> rfl) (by (try simp only [rdF, rd_none, rd_same, rd_ne, ne_eq, Nat.reduceEqDiff, not_false_eq_true, Nat.reduceLT, g1, g3]) <;> rfl) binA_eql) ?_
  refine OpsG.cons (o_assign (by (try simp only [rdF, rd_none, rd_same, rd_ne, ne_eq, Nat.reduceEqDiff, not_false_eq_true, Nat.reduceLT, g1, g3]) <;> rfl)) ?_
  refine OpsG.nil ?_
  repeat (refine GoP.seq ?_)
  refine GoP.cond_false (by rfl) (by (try simp only [rdF, rd_none, rd_same, rd_ne, ne_eq, Nat.reduceEqDiff, not_false_eq_true, Nat.reduceLT, g1, g3]) <;> rfl) ?_
  repeat (refine GoP.seq ?_)
  refine GoP.region ?_ ?_
  · rfl
  refine OpsG.cons (o_bin (by (try simp only [rdF, rd_none, rd_same, rd_ne, ne_eq, Nat.reduceEqDiff, not_false_eq_true, Nat.reduceLT, g1, g3]) <;> rfl) (by (try simp only [rdF, rd_none, rd_same, rd_ne, ne_eq, Nat.reduceEqDiff, not_false_eq_true, Nat.reduceLT, g1, g3]) <;> rfl) binA_eql) ?_
  refine OpsG.cons (o_assign (by (try simp only [rdF, rd_none, rd_same, rd_ne, ne_eq, Nat.reduceEqDiff, not_false_eq_true, Nat.reduceLT, g1, g3]) <;> rfl)) ?_
  refine OpsG.nil ?_
  repeat (refine GoP.seq ?_)
  refine GoP.cond_false (by rfl) (by (try simp only [rdF, rd_none, rd_same, rd_ne, ne_eq, Nat.reduceEqDiff, not_false_eq_true, Nat.reduceLT, g1, g3]) <;> rfl) ?_
  repeat (refine GoP.seq ?_)
  refine GoP.region ?_ ?_
  · rfl
  refine OpsG.cons (o_bin (by (try simp only [rdF, rd_none, rd_same, rd_ne, ne_eq, Nat.reduceEqDiff, not_false_eq_true, Nat.reduceLT, g1, g3]) <;> rfl) (by (try simp only [rdF, rd_none, rd_same, rd_ne, ne_eq, Nat.reduceEqDiff, not_false_eq_true, Nat.reduceLT, g1, g3]) <;> rfl) binA_eql) ?_
  refine OpsG.cons (o_assign (by (try simp only [rdF, rd_none, rd_same, rd_ne, ne_eq, Nat.reduceEqDiff, not_false_eq_true, Nat.reduceLT, g1, g3]) <;> rfl)) ?_
  refine OpsG.nil ?_
  repeat (refine GoP.seq ?_)
  refine GoP.cond_true (by rfl) (by (try simp only [rdF, rd_none, rd_same, rd_ne, ne_eq, Nat.reduceEqDiff, not_false_eq_true, Nat.reduceLT, g1, g3]) <;> rfl) ?_
  repeat (refine GoP.seq ?_)
  refine GoP.region ?_ ?_
  · rfl
  refine OpsG.cons (o_move (by (try simp only [rdF, rd_none, rd_same, rd_ne, ne_eq, Nat.reduceEqDiff, not_false_eq_true, Nat.reduceLT, g1, g3]) <;> rfl)) ?_
  refine OpsG.cons (o_field (by (try simp only [rdF, rd_none, rd_same, rd_ne, ne_eq, Nat.reduceEqDiff, not_false_eq_true, Nat.reduceLT, g1, g3]) <;> rfl) (fa_30_6 _ _)) ?_
  refine OpsG.cons (o_load (by (try simp only [rdF, rd_none, rd_same, rd_ne, ne_eq, Nat.reduceEqDiff, not_false_eq_true, Nat.reduceLT, g1, g3]) <;> rfl) (by (try simp (disch := omega) only [St.get_room, St.get_at_eq, St.get_at_ne, St.get_put_eq, St.get_put_ne, St.get_add_eq, St.get_add_ne, St.get_del_ne, St.next_at, St.next_put', St.next_room, St.next_add', St.next_del', ho.xo, ho.co]) <;> rfl) (by rw [p_3]; rfl)) ?_
  refine OpsG.cons (o_convert rfl (by (try simp only [rdF, rd_none, rd_same, rd_ne, ne_eq, Nat.reduceEqDiff, not_false_eq_true, Nat.reduceLT, g1, g3]) <;> rfl) ((cv_3_26 _).trans (congrArg (fun z => some (Value.int .u64 z)) (wrapu64 (by omega) (by omega))))) ?_
  refine OpsG.callV (by (try simp only [rdF, rd_none, rd_same, rd_ne, ne_eq, Nat.reduceEqDiff, not_false_eq_true, Nat.reduceLT, g1, g3]) <;> rfl) (by (try simp only [List.map_cons, List.map_nil, rdF, rd_none, rd_same, rd_ne, ne_eq, Nat.reduceEqDiff, not_false_eq_true, Nat.reduceLT, g1, g3]) <;> rfl) (ho.num (v := n) (n := 1) (by omega) (by omega) (by simp [low_length])) ?_
  rintro r σ2 ⟨rfl, sv2, b2, ho2⟩
  refine OpsG.nil ?_
  repeat (refine GoP.seq ?_)
  refine GoP.region ?_ ?_
  · rfl
  refine OpsG.cons (o_load (by (try simp only [rdF, rd_none, rd_same, rd_ne, ne_eq, Nat.reduceEqDiff, not_false_eq_true, Nat.reduceLT, g1, g3]) <;> rfl) (by (try simp (disch := omega) only [St.get_room, St.get_at_eq, St.get_at_ne, St.get_put_eq, St.get_put_ne, St.get_add_eq, St.get_add_ne, St.get_del_ne, St.next_at, St.next_put', St.next_room, St.next_add', St.next_del', ho.xo, ho.co, ho2.xo, ho2.co]) <;> rfl) (by rw [p_25]; rfl)) ?_
  refine OpsG.cons (o_assign (by (try simp only [rdF, rd_none, rd_same, rd_ne, ne_eq, Nat.reduceEqDiff, not_false_eq_true, Nat.reduceLT, g1, g3]) <;> rfl)) ?_
  refine OpsG.nil ?_
  repeat (refine GoP.seq ?_)
  refine GoP.ret ?_
  refine ⟨.inl rfl, [sv2], ?_, ?_⟩
  · exact (by (try simp only [resAllF, resOneF, rdF, rd_none, rd_same, rd_ne, ne_eq, Nat.reduceEqDiff, not_false_eq_true, Nat.reduceLT, g1, g3]) <;> rfl)
  · exact ⟨b2, (by have := ho2.bx; exact this), ho2.but, ho2.bn.1, ho2.bn.2⟩
set_option maxRecDepth 8000 in
theorem one_load {σ : St} {c p w : Int} (hc : 0 ≤ c ∧ c < 256) (hp : 0 ≤ p ∧ p < 65536) (hw : 0 ≤ w ∧ w < 256) : Con Tryz.prog 15 [.agg #[.int .i64 2, .int .i64 c, .int .u64 0, .int .u64 0, .int .u64 0, .int .u64 0, .int .u64 0, .int .u64 0, .int .u64 0, .int .u64 0, .int .i64 p, .int .i64 w, .int .u64 0, .int .i64 0]] σ (fun rv σ' => ∃ b, BX σ' rv (.load c p w : Stp).bytes b ∧ But σ σ' (fun _ => False) ∧ σ.next ≤ b ∧ b < σ'.next) := by
  refine Con.of_goP (nt := 58) (rs := [.tmp 2]) Tryz.func15 code15_eq ok15 rfl rfl (by simp) ?_
  have f0 : rdT 58 (fill .nil 0 [.agg #[.int .i64 2, .int .i64 c, .int .u64 0, .int .u64 0, .int .u64 0, .int .u64 0, .int .u64 0, .int .u64 0, .int .u64 0, .int .u64 0, .int .i64 p, .int .i64 w, .int .u64 0, .int .i64 0]]) 0 = .agg #[.int .i64 2, .int .i64 c, .int .u64 0, .int .u64 0, .int .u64 0, .int .u64 0, .int .u64 0, .int .u64 0, .int .u64 0, .int .u64 0, .int .i64 p, .int .i64 w, .int .u64 0, .int .i64 0] := rfl
  generalize fill .nil 0 [.agg #[.int .i64 2, .int .i64 c, .int .u64 0, .int .u64 0, .int .u64 0, .int .u64 0, .int .u64 0, .int .u64 0, .int .u64 0, .int .u64 0, .int .i64 p, .int .i64 w, .int .u64 0, .int .i64 0]] = t at f0
  unfold code15 Tryz.f15
  repeat (refine GoP.seq ?_)
  refine GoP.name ?_
  rintro σ1 rfl
  refine GoP.region ?_ ?_
  · rfl
  refine OpsG.cons (o_box (by (try simp only [rdF, rd_none, rd_same, rd_ne, ne_eq, Nat.reduceEqDiff, not_false_eq_true, Nat.reduceLT, f0]) <;> rfl) (cl_14 ..)) ?_
  refine OpsG.cons (o_assign (by (try simp only [rdF, rd_none, rd_same, rd_ne, ne_eq, Nat.reduceEqDiff, not_false_eq_true, Nat.reduceLT, f0]) <;> rfl)) ?_
  refine OpsG.nil ?_
  repeat (refine GoP.seq ?_)
  refine GoP.region ?_ ?_
  · rfl
  refine OpsG.cons (o_field (by (try simp only [rdF, rd_none, rd_same, rd_ne, ne_eq, Nat.reduceEqDiff, not_false_eq_true, Nat.reduceLT, f0]) <;> rfl) (fa_30_0 _ _)) ?_
  refine OpsG.cons (o_load (by (try simp only [rdF, rd_none, rd_same, rd_ne, ne_eq, Nat.reduceEqDiff, not_false_eq_true, Nat.reduceLT, f0]) <;> rfl) (by (try simp (disch := omega) only [St.get_room, St.get_at_eq, St.get_at_ne, St.get_put_eq, St.get_put_ne, St.get_add_eq, St.get_add_ne, St.get_del_ne, St.next_at, St.next_put', St.next_room, St.next_add', St.next_del']) <;> rfl) (by rw [p_3]; rfl)) ?_
  refine OpsG.cons (o_convert rfl (by (try simp only [rdF, rd_none, rd_same, rd_ne, ne_eq, Nat.reduceEqDiff, not_false_eq_true, Nat.reduceLT, f0]) <;> rfl) ((cv_3_5 _).trans (congrArg (fun z => some (Value.int .u8 z)) (wrapu8 (by omega) (by omega))))) ?_
  refine OpsG.cons (o_field (by (try simp only [rdF, rd_none, rd_same, rd_ne, ne_eq, Nat.reduceEqDiff, not_false_eq_true, Nat.reduceLT, f0]) <;> rfl) (fa_30_1 _ _)) ?_
  refine OpsG.cons (o_load (by (try simp only [rdF, rd_none, rd_same, rd_ne, ne_eq, Nat.reduceEqDiff, not_false_eq_true, Nat.reduceLT, f0]) <;> rfl) (by (try simp (disch := omega) only [St.get_room, St.get_at_eq, St.get_at_ne, St.get_put_eq, St.get_put_ne, St.get_add_eq, St.get_add_ne, St.get_del_ne, St.next_at, St.next_put', St.next_room, St.next_add', St.next_del']) <;> rfl) (by rw [p_3]; rfl)) ?_
  refine OpsG.cons (o_convert rfl (by (try simp only [rdF, rd_none, rd_same, rd_ne, ne_eq, Nat.reduceEqDiff, not_false_eq_true, Nat.reduceLT, f0]) <;> rfl) ((cv_3_5 _).trans (congrArg (fun z => some (Value.int .u8 z)) (wrapu8 (by omega) (by omega))))) ?_
  refine OpsG.cons (o_makesOf (fun x => match x with | .tmp 9 => .int .u8 2 | _ => .int .u8 c) rfl (by intro x hx; have e : x = .tmp 9 ∨ x = .tmp 12 := (by simpa [Op.operands] using hx); rcases e with e | e <;> rw [e] <;> exact (by (try simp only [rdF, rd_none, rd_same, rd_ne, ne_eq, Nat.reduceEqDiff, not_false_eq_true, Nat.reduceLT, f0]) <;> rfl)) (bs25_2 ..)) ?_
  refine OpsG.cons (o_alloc z_25 (cl1 rfl)) ?_
  refine OpsG.cons (o_store (by (try simp only [rdF, rd_none, rd_same, rd_ne, ne_eq, Nat.reduceEqDiff, not_false_eq_true, Nat.reduceLT, f0]) <;> rfl) (by (try simp only [rdF, rd_none, rd_same, rd_ne, ne_eq, Nat.reduceEqDiff, not_false_eq_true, Nat.reduceLT, f0]) <;> rfl) (by (try simp (disch := omega) only [St.get_room, St.get_at_eq, St.get_at_ne, St.get_put_eq, St.get_put_ne, St.get_add_eq, St.get_add_ne, St.get_del_ne, St.next_at, St.next_put', St.next_room, St.next_add', St.next_del']) <;> rfl) (by simp) s_25 (cl1 rfl) rfl rfl (by simp) (by simp only [splice, List.length_cons, List.length_nil, List.drop_succ_cons, List.drop_zero, List.take_succ_cons, List.take_zero, Nat.reduceAdd, Nat.reduceLeDiff, Nat.zero_add, List.append_nil, List.nil_append, List.cons_append]; rfl)) ?_
  refine OpsG.nil ?_
  repeat (refine GoP.seq ?_)
  refine GoP.name ?_
  rintro σ hσ
  obtain ⟨xb, hxb⟩ : ∃ x, x = σ1.next := ⟨_, rfl⟩
  obtain ⟨cb, hcb⟩ : ∃ x, x = σ1.next + 2 := ⟨_, rfl⟩
  have ho : OInv σ1 σ xb cb [.int .i64 2, .int .i64 c, .int .u64 0, .int .u64 0, .int .u64 0, .int .u64 0, .int .u64 0, .int .u64 0, .int .u64 0, .int .u64 0, .int .i64 p, .int .i64 w, .int .u64 0, .int .i64 0] (.slice (some ⟨σ1.next + 1, 0, none⟩) 2 2) [2, c] (σ1.next + 1) := by
    subst hxb hcb
    rw [hσ]
    refine ⟨?_, ?_, ?_, .inr ⟨by simp, 2, .ex, rfl, ?_, .inr ⟨rfl, rfl⟩⟩, by simp, ?_, ?_, ?_, by omega⟩
    · repeat (first | exact But.refl _ _ | refine But.putNew ?_ ?_ | refine But.at ?_ ?_ ?_)
      all_goals ((try simp only [St.next_at, St.next_put']); omega)
    all_goals first
      | (simp only [St.next_put', St.next_at]; omega)
      | ((simp (disch := omega) only [St.get_room, St.get_at_eq, St.get_at_ne, St.get_put_eq, St.get_put_ne, St.get_add_eq, St.get_add_ne, St.get_del_ne, St.next_at, St.next_put', St.next_room, St.next_add', St.next_del']); done)
      | ((simp (disch := omega) only [St.get_room, St.get_at_eq, St.get_at_ne, St.get_put_eq, St.get_put_ne, St.get_add_eq, St.get_add_ne, St.get_del_ne, St.next_at, St.next_put', St.next_room, St.next_add', St.next_del']); rfl)
  refine GoP.nameT ?_
  rintro t hT
  have g1 : rdT 58 t 1 = .pointer (some ⟨xb, 0, none⟩) := by rw [hT, hxb]; exact (by (try simp only [rdF, rd_none, rd_same, rd_ne, ne_eq, Nat.reduceEqDiff, not_false_eq_true, Nat.reduceLT, f0]) <;> rfl)
  have g3 : rdT 58 t 3 = .pointer (some ⟨cb, 0, none⟩) := by rw [hT, hcb]; exact (by (try simp only [rdF, rd_none, rd_same, rd_ne, ne_eq, Nat.reduceEqDiff, not_false_eq_true, Nat.reduceLT, f0]) <;> rfl)
  refine GoP.region ?_ ?_
  · rfl
  refine OpsG.cons (o_makeFunc (vs := #[.pointer (some ⟨cb, 0, none⟩)]) (by simp only [List.map_toArray, List.map_cons, List.map_nil, rdF, rd_none, rd_same, rd_ne, ne_eq, Nat.reduceEqDiff, not_false_eq_true, Nat.reduceLT, g1, g3])) ?_
  refine OpsG.cons (o_assign (by (try simp only [rdF, rd_none, rd_same, rd_ne, ne_eq, Nat.reduceEqDiff, not_false_eq_true, Nat.reduceLT, g1, g3]) <;> rfl)) ?_
  refine OpsG.nil ?_
  repeat (refine GoP.seq ?_)
  refine GoP.region ?_ ?_
  · rfl
  refine OpsG.cons (o_field (by (try simp only [rdF, rd_none, rd_same, rd_ne, ne_eq, Nat.reduceEqDiff, not_false_eq_true, Nat.reduceLT, g1, g3]) <;> rfl) (fa_30_0 _ _)) ?_
  refine OpsG.cons (o_load (by (try simp only [rdF, rd_none, rd_same, rd_ne, ne_eq, Nat.reduceEqDiff, not_false_eq_true, Nat.reduceLT, g1, g3]) <;> rfl) (by (try simp (disch := omega) only [St.get_room, St.get_at_eq, St.get_at_ne, St.get_put_eq, St.get_put_ne, St.get_add_eq, St.get_add_ne, St.get_del_ne, St.next_at, St.next_put', St.next_room, St.next_add', St.next_del', ho.xo, ho.co]) <;> rfl) (by rw [p_3]; rfl)) ?_
  refine OpsG.nil ?_
  repeat (refine GoP.seq ?_)
  refine GoP.block ?_
  repeat (refine GoP.seq ?_)
  refine GoP.region ?_ ?_
  · rfl
  refine OpsG.cons (o_bin (by (try simp only [rdF, rd_none, rd_same, rd_ne, ne_eq, Nat.reduceEqDiff, not_false_eq_true, Nat.reduceLT, g1, g3]) <;> rfl) (by (try simp only [rdF, rd_none, rd_same, rd_ne, ne_eq, Nat.reduceEqDiff, not_false_eq_true, Nat.reduceLT, g1, g3]) <;> rfl) binA_eql) ?_
  refine OpsG.cons (o_assign (by (try simp only [rdF, rd_none, rd_same, rd_ne, ne_eq, Nat.reduceEqDiff, not_false_eq_true, Nat.reduceLT, g1, g3]) <;> rfl)) ?_
  refine OpsG.nil ?_
  repeat (refine GoP.seq ?_)
  refine GoP.cond_false (by rfl) (by (try simp only [rdF, rd_none, rd_same, rd_ne, ne_eq, Nat.reduceEqDiff, not_false_eq_true, Nat.reduceLT, g1, g3]) <;> rfl) ?_
  repeat (refine GoP.seq ?_)
  refine GoP.region ?_ ?_
  · rfl
  refine OpsG.cons (o_bin (by (try simp only [rdF, rd_none, rd_same, rd_ne, ne_eq, Nat.reduceEqDiff, not_false_eq_true, Nat.reduceLT, g1, g3]) <;> rfl) (by (try simp only [rdF, rd_none, rd_same, rd_ne, ne_eq, Nat.reduceEqDiff, not_false_eq_true, Nat.reduceLT, g1, g3]) <;> rfl) binA_eql) ?_
  refine OpsG.cons (o_assign (by (try simp only [rdF, rd_none, rd_same, rd_ne, ne_eq, Nat.reduceEqDiff, not_false_eq_true, Nat.reduceLT, g1, g3]) <;> rfl)) ?_
  refine OpsG.nil ?_
  repeat (refine GoP.seq ?_)
  refine GoP.cond_true (by rfl) (by (try simp only [rdF, rd_none, rd_same, rd_ne, ne_eq, Nat.reduceEqDiff, not_false_eq_true, Nat.reduceLT, g1, g3]) <;> rfl) ?_
  repeat (refine GoP.seq ?_)
  refine GoP.skip ?_
  repeat (refine GoP.seq ?_)
  refine GoP.cond_true (by rfl) (by (try simp only [rdF, rd_none, rd_same, rd_ne, ne_eq, Nat.reduceEqDiff, not_false_eq_true, Nat.reduceLT, g1, g3]) <;> rfl) ?_
  repeat (refine GoP.seq ?_)
  refine GoP.region ?_ ?_
  · rfl
  refine OpsG.cons (o_move (by (try simp only [rdF, rd_none, rd_same, rd_ne, ne_eq, Nat.reduceEqDiff, not_false_eq_true, Nat.reduceLT, g1, g3]) <;> rfl)) ?_
  refine OpsG.cons (o_field (by (try simp only [rdF, rd_none, rd_same, rd_ne, ne_eq, Nat.reduceEqDiff, not_false_eq_true, Nat.reduceLT, g1, g3]) <;> rfl) (fa_30_3 _ _)) ?_
  refine OpsG.cons (o_load (by (try simp only [rdF, rd_none, rd_same, rd_ne, ne_eq, Nat.reduceEqDiff, not_false_eq_true, Nat.reduceLT, g1, g3]) <;> rfl) (by (try simp (disch := omega) only [St.get_room, St.get_at_eq, St.get_at_ne, St.get_put_eq, St.get_put_ne, St.get_add_eq, St.get_add_ne, St.get_del_ne, St.next_at, St.next_put', St.next_room, St.next_add', St.next_del', ho.xo, ho.co]) <;> rfl) (by rw [p_3]; rfl)) ?_
  refine OpsG.cons (o_convert rfl (by (try simp only [rdF, rd_none, rd_same, rd_ne, ne_eq, Nat.reduceEqDiff, not_false_eq_true, Nat.reduceLT, g1, g3]) <;> rfl) ((cv_3_26 _).trans (congrArg (fun z => some (Value.int .u64 z)) (wrapu64 (by omega) (by omega))))) ?_
  refine OpsG.callV (by (try simp only [rdF, rd_none, rd_same, rd_ne, ne_eq, Nat.reduceEqDiff, not_false_eq_true, Nat.reduceLT, g1, g3]) <;> rfl) (by (try simp only [List.map_cons, List.map_nil, rdF, rd_none, rd_same, rd_ne, ne_eq, Nat.reduceEqDiff, not_false_eq_true, Nat.reduceLT, g1, g3]) <;> rfl) (ho.num (v := p) (n := 2) (by omega) (by omega) (by simp [low_length])) ?_
  rintro r σ2 ⟨rfl, sv2, b2, ho2⟩
  refine OpsG.nil ?_
  repeat (refine GoP.seq ?_)
  refine GoP.region ?_ ?_
  · rfl
  refine OpsG.cons (o_move (by (try simp only [rdF, rd_none, rd_same, rd_ne, ne_eq, Nat.reduceEqDiff, not_false_eq_true, Nat.reduceLT, g1, g3]) <;> rfl)) ?_
  refine OpsG.cons (o_field (by (try simp only [rdF, rd_none, rd_same, rd_ne, ne_eq, Nat.reduceEqDiff, not_false_eq_true, Nat.reduceLT, g1, g3]) <;> rfl) (fa_30_4 _ _)) ?_
  refine OpsG.cons (o_load (by (try simp only [rdF, rd_none, rd_same, rd_ne, ne_eq, Nat.reduceEqDiff, not_false_eq_true, Nat.reduceLT, g1, g3]) <;> rfl) (by (try simp (disch := omega) only [St.get_room, St.get_at_eq, St.get_at_ne, St.get_put_eq, St.get_put_ne, St.get_add_eq, St.get_add_ne, St.get_del_ne, St.next_at, St.next_put', St.next_room, St.next_add', St.next_del', ho.xo, ho.co, ho2.xo, ho2.co]) <;> rfl) (by rw [p_3]; rfl)) ?_
  refine OpsG.cons (o_convert rfl (by (try simp only [rdF, rd_none, rd_same, rd_ne, ne_eq, Nat.reduceEqDiff, not_false_eq_true, Nat.reduceLT, g1, g3]) <;> rfl) ((cv_3_26 _).trans (congrArg (fun z => some (Value.int .u64 z)) (wrapu64 (by omega) (by omega))))) ?_
  refine OpsG.callV (by (try simp only [rdF, rd_none, rd_same, rd_ne, ne_eq, Nat.reduceEqDiff, not_false_eq_true, Nat.reduceLT, g1, g3]) <;> rfl) (by (try simp only [List.map_cons, List.map_nil, rdF, rd_none, rd_same, rd_ne, ne_eq, Nat.reduceEqDiff, not_false_eq_true, Nat.reduceLT, g1, g3]) <;> rfl) (ho2.num (v := w) (n := 1) (by omega) (by omega) (by simp [low_length])) ?_
  rintro r σ3 ⟨rfl, sv3, b3, ho3⟩
  refine OpsG.nil ?_
  repeat (refine GoP.seq ?_)
  refine GoP.region ?_ ?_
  · rfl
  refine OpsG.cons (o_field (by (try simp only [rdF, rd_none, rd_same, rd_ne, ne_eq, Nat.reduceEqDiff, not_false_eq_true, Nat.reduceLT, g1, g3]) <;> rfl) (fa_30_0 _ _)) ?_
  refine OpsG.cons (o_load (by (try simp only [rdF, rd_none, rd_same, rd_ne, ne_eq, Nat.reduceEqDiff, not_false_eq_true, Nat.reduceLT, g1, g3]) <;> rfl) (by (try simp (disch := omega) only [St.get_room, St.get_at_eq, St.get_at_ne, St.get_put_eq, St.get_put_ne, St.get_add_eq, St.get_add_ne, St.get_del_ne, St.next_at, St.next_put', St.next_room, St.next_add', St.next_del', ho.xo, ho.co, ho2.xo, ho2.co, ho3.xo, ho3.co]) <;> rfl) (by rw [p_3]; rfl)) ?_
  refine OpsG.cons (o_bin (by (try simp only [rdF, rd_none, rd_same, rd_ne, ne_eq, Nat.reduceEqDiff, not_false_eq_true, Nat.reduceLT, g1, g3]) <;> rfl) (by (try simp only [rdF, rd_none, rd_same, rd_ne, ne_eq, Nat.reduceEqDiff, not_false_eq_true, Nat.reduceLT, g1, g3]) <;> rfl) binA_eql) ?_
  refine OpsG.nil ?_
  repeat (refine GoP.seq ?_)
  refine GoP.cond_false (by rfl) (by (try simp only [rdF, rd_none, rd_same, rd_ne, ne_eq, Nat.reduceEqDiff, not_false_eq_true, Nat.reduceLT, g1, g3]) <;> rfl) ?_
  repeat (refine GoP.seq ?_)
  refine GoP.skip ?_
  repeat (refine GoP.seq ?_)
  refine GoP.region ?_ ?_
  · rfl
  refine OpsG.cons (o_load (by (try simp only [rdF, rd_none, rd_same, rd_ne, ne_eq, Nat.reduceEqDiff, not_false_eq_true, Nat.reduceLT, g1, g3]) <;> rfl) (by (try simp (disch := omega) only [St.get_room, St.get_at_eq, St.get_at_ne, St.get_put_eq, St.get_put_ne, St.get_add_eq, St.get_add_ne, St.get_del_ne, St.next_at, St.next_put', St.next_room, St.next_add', St.next_del', ho.xo, ho.co, ho2.xo, ho2.co, ho3.xo, ho3.co]) <;> rfl) (by rw [p_25]; rfl)) ?_
  refine OpsG.cons (o_assign (by (try simp only [rdF, rd_none, rd_same, rd_ne, ne_eq, Nat.reduceEqDiff, not_false_eq_true, Nat.reduceLT, g1, g3]) <;> rfl)) ?_
  refine OpsG.nil ?_
  repeat (refine GoP.seq ?_)
  refine GoP.ret ?_
  refine ⟨.inl rfl, [sv3], ?_, ?_⟩
  · exact (by (try simp only [resAllF, resOneF, rdF, rd_none, rd_same, rd_ne, ne_eq, Nat.reduceEqDiff, not_false_eq_true, Nat.reduceLT, g1, g3]) <;> rfl)
  · exact ⟨b3, (by have := ho3.bx; exact this), ho3.but, ho3.bn.1, ho3.bn.2⟩
set_option maxRecDepth 8000 in
theorem one_store {σ : St} {c p w v : Int} (hc : 0 ≤ c ∧ c < 256) (hp : 0 ≤ p ∧ p < 65536) (hw : 0 ≤ w ∧ w < 256) (hv : 0 ≤ v) : Con Tryz.prog 15 [.agg #[.int .i64 3, .int .i64 c, .int .u64 0, .int .u64 0, .int .u64 0, .int .u64 0, .int .u64 0, .int .u64 0, .int .u64 0, .int .u64 0, .int .i64 p, .int .i64 w, .int .u64 v, .int .i64 0]] σ (fun rv σ' => ∃ b, BX σ' rv (.store c p w v : Stp).bytes b ∧ But σ σ' (fun _ => False) ∧ σ.next ≤ b ∧ b < σ'.next) := by
  refine Con.of_goP (nt := 58) (rs := [.tmp 2]) Tryz.func15 code15_eq ok15 rfl rfl (by simp) ?_
  have f0 : rdT 58 (fill .nil 0 [.agg #[.int .i64 3, .int .i64 c, .int .u64 0, .int .u64 0, .int .u64 0, .int .u64 0, .int .u64 0, .int .u64 0, .int .u64 0, .int .u64 0, .int .i64 p, .int .i64 w, .int .u64 v, .int .i64 0]]) 0 = .agg #[.int .i64 3, .int .i64 c, .int .u64 0, .int .u64 0, .int .u64 0, .int .u64 0, .int .u64 0, .int .u64 0, .int .u64 0, .int .u64 0, .int .i64 p, .int .i64 w, .int .u64 v, .int .i64 0] := rfl
  generalize fill .nil 0 [.agg #[.int .i64 3, .int .i64 c, .int .u64 0, .int .u64 0, .int .u64 0, .int .u64 0, .int .u64 0, .int .u64 0, .int .u64 0, .int .u64 0, .int .i64 p, .int .i64 w, .int .u64 v, .int .i64 0]] = t at f0
  unfold code15 Tryz.f15
  repeat (refine GoP.seq ?_)
  refine GoP.name ?_
  rintro σ1 rfl
  refine GoP.region ?_ ?_
  · rfl
  refine OpsG.cons (o_box (by (try simp only [rdF, rd_none, rd_same, rd_ne, ne_eq, Nat.reduceEqDiff, not_false_eq_true, Nat.reduceLT, f0]) <;> rfl) (cl_14 ..)) ?_
  refine OpsG.cons (o_assign (by (try simp only [rdF, rd_none, rd_same, rd_ne, ne_eq, Nat.reduceEqDiff, not_false_eq_true, Nat.reduceLT, f0]) <;> rfl)) ?_
  refine OpsG.nil ?_
  repeat (refine GoP.seq ?_)
  refine GoP.region ?_ ?_
  · rfl
  refine OpsG.cons (o_field (by (try simp only [rdF, rd_none, rd_same, rd_ne, ne_eq, Nat.reduceEqDiff, not_false_eq_true, Nat.reduceLT, f0]) <;> rfl) (fa_30_0 _ _)) ?_
  refine OpsG.cons (o_load (by (try simp only [rdF, rd_none, rd_same, rd_ne, ne_eq, Nat.reduceEqDiff, not_false_eq_true, Nat.reduceLT, f0]) <;> rfl) (by (try simp (disch := omega) only [St.get_room, St.get_at_eq, St.get_at_ne, St.get_put_eq, St.get_put_ne, St.get_add_eq, St.get_add_ne, St.get_del_ne, St.next_at, St.next_put', St.next_room, St.next_add', St.next_del']) <;> rfl) (by rw [p_3]; rfl)) ?_
  refine OpsG.cons (o_convert rfl (by (try simp only [rdF, rd_none, rd_same, rd_ne, ne_eq, Nat.reduceEqDiff, not_false_eq_true, Nat.reduceLT, f0]) <;> rfl) ((cv_3_5 _).trans (congrArg (fun z => some (Value.int .u8 z)) (wrapu8 (by omega) (by omega))))) ?_
  refine OpsG.cons (o_field (by (try simp only [rdF, rd_none, rd_same, rd_ne, ne_eq, Nat.reduceEqDiff, not_false_eq_true, Nat.reduceLT, f0]) <;> rfl) (fa_30_1 _ _)) ?_
  refine OpsG.cons (o_load (by (try simp only [rdF, rd_none, rd_same, rd_ne, ne_eq, Nat.reduceEqDiff, not_false_eq_true, Nat.reduceLT, f0]) <;> rfl) (by (try simp (disch := omega) only [St.get_room, St.get_at_eq, St.get_at_ne, St.get_put_eq, St.get_put_ne, St.get_add_eq, St.get_add_ne, St.get_del_ne, St.next_at, St.next_put', St.next_room, St.next_add', St.next_del']) <;> rfl) (by rw [p_3]; rfl)) ?_
  refine OpsG.cons (o_convert rfl (by (try simp only [rdF, rd_none, rd_same, rd_ne, ne_eq, Nat.reduceEqDiff, not_false_eq_true, Nat.reduceLT, f0]) <;> rfl) ((cv_3_5 _).trans (congrArg (fun z => some (Value.int .u8 z)) (wrapu8 (by omega) (by omega))))) ?_
  refine OpsG.cons (o_makesOf (fun x => match x with | .tmp 9 => .int .u8 3 | _ => .int .u8 c) rfl (by intro x hx; have e : x = .tmp 9 ∨ x = .tmp 12 := (by simpa [Op.operands] using hx); rcases e with e | e <;> rw [e] <;> exact (by (try simp only [rdF, rd_none, rd_same, rd_ne, ne_eq, Nat.reduceEqDiff, not_false_eq_true, Nat.reduceLT, f0]) <;> rfl)) (bs25_2 ..)) ?_
  refine OpsG.cons (o_alloc z_25 (cl1 rfl)) ?_
  refine OpsG.cons (o_store (by (try simp only [rdF, rd_none, rd_same, rd_ne, ne_eq, Nat.reduceEqDiff, not_false_eq_true, Nat.reduceLT, f0]) <;> rfl) (by (try simp only [rdF, rd_none, rd_same, rd_ne, ne_eq, Nat.reduceEqDiff, not_false_eq_true, Nat.reduceLT, f0]) <;> rfl) (by (try simp (disch := omega) only [St.get_room, St.get_at_eq, St.get_at_ne, St.get_put_eq, St.get_put_ne, St.get_add_eq, St.get_add_ne, St.get_del_ne, St.next_at, St.next_put', St.next_room, St.next_add', St.next_del']) <;> rfl) (by simp) s_25 (cl1 rfl) rfl rfl (by simp) (by simp only [splice, List.length_cons, List.length_nil, List.drop_succ_cons, List.drop_zero, List.take_succ_cons, List.take_zero, Nat.reduceAdd, Nat.reduceLeDiff, Nat.zero_add, List.append_nil, List.nil_append, List.cons_append]; rfl)) ?_
  refine OpsG.nil ?_
  repeat (refine GoP.seq ?_)
  refine GoP.name ?_
  rintro σ hσ
  obtain ⟨xb, hxb⟩ : ∃ x, x = σ1.next := ⟨_, rfl⟩
  obtain ⟨cb, hcb⟩ : ∃ x, x = σ1.next + 2 := ⟨_, rfl⟩
  have ho : OInv σ1 σ xb cb [.int .i64 3, .int .i64 c, .int .u64 0, .int .u64 0, .int .u64 0, .int .u64 0, .int .u64 0, .int .u64 0, .int .u64 0, .int .u64 0, .int .i64 p, .int .i64 w, .int .u64 v, .int .i64 0] (.slice (some ⟨σ1.next + 1, 0, none⟩) 2 2) [3, c] (σ1.next + 1) := by
    subst hxb hcb
    rw [hσ]
    refine ⟨?_, ?_, ?_, .inr ⟨by simp, 2, .ex, rfl, ?_, .inr ⟨rfl, rfl⟩⟩, by simp, ?_, ?_, ?_, by omega⟩
    · repeat (first | exact But.refl _ _ | refine But.putNew ?_ ?_ | refine But.at ?_ ?_ ?_)
      all_goals ((try simp only [St.next_at, St.next_put']); omega)
    all_goals first
      | (simp only [St.next_put', St.next_at]; omega)
      | ((simp (disch := omega) only [St.get_room, St.get_at_eq, St.get_at_ne, St.get_put_eq, St.get_put_ne, St.get_add_eq, St.get_add_ne, St.get_del_ne, St.next_at, St.next_put', St.next_room, St.next_add', St.next_del']); done)
      | ((simp (disch := omega) only [St.get_room, St.get_at_eq, St.get_at_ne, St.get_put_eq, St.get_put_ne, St.get_add_eq, St.get_add_ne, St.get_del_ne, St.next_at, St.next_put', St.next_room, St.next_add', St.next_del']); rfl)
  refine GoP.nameT ?_
  rintro t hT
  have g1 : rdT 58 t 1 = .pointer (some ⟨xb, 0, none⟩) := by rw [hT, hxb]; exact (by (try simp only [rdF, rd_none, rd_same, rd_ne, ne_eq, Nat.reduceEqDiff, not_false_eq_true, Nat.reduceLT, f0]) <;> rfl)
  have g3 : rdT 58 t 3 = .pointer (some ⟨cb, 0, none⟩) := by rw [hT, hcb]; exact (by (try simp only [rdF, rd_none, rd_same, rd_ne, ne_eq, Nat.reduceEqDiff, not_false_eq_true, Nat.reduceLT, f0]) <;> rfl)
  refine GoP.region ?_ ?_
  · rfl
  refine OpsG.cons (o_makeFunc (vs := #[.pointer (some ⟨cb, 0, none⟩)]) (by simp only [List.map_toArray, List.map_cons, List.map_nil, rdF, rd_none, rd_same, rd_ne, ne_eq, Nat.reduceEqDiff, not_false_eq_true, Nat.reduceLT, g1, g3])) ?_
  refine OpsG.cons (o_assign (by (try simp only [rdF, rd_none, rd_same, rd_ne, ne_eq, Nat.reduceEqDiff, not_false_eq_true, Nat.reduceLT, g1, g3]) <;> rfl)) ?_
  refine OpsG.nil ?_
  repeat (refine GoP.seq ?_)
  refine GoP.region ?_ ?_
  · rfl
  refine OpsG.cons (o_field (by (try simp only [rdF, rd_none, rd_same, rd_ne, ne_eq, Nat.reduceEqDiff, not_false_eq_true, Nat.reduceLT, g1, g3]) <;> rfl) (fa_30_0 _ _)) ?_
  refine OpsG.cons (o_load (by (try simp only [rdF, rd_none, rd_same, rd_ne, ne_eq, Nat.reduceEqDiff, not_false_eq_true, Nat.reduceLT, g1, g3]) <;> rfl) (by (try simp (disch := omega) only [St.get_room, St.get_at_eq, St.get_at_ne, St.get_put_eq, St.get_put_ne, St.get_add_eq, St.get_add_ne, St.get_del_ne, St.next_at, St.next_put', St.next_room, St.next_add', St.next_del', ho.xo, ho.co]) <;> rfl) (by rw [p_3]; rfl)) ?_
  refine OpsG.nil ?_
  repeat (refine GoP.seq ?_)
  refine GoP.block ?_
  repeat (refine GoP.seq ?_)
  refine GoP.region ?_ ?_
  · rfl
  refine OpsG.cons (o_bin (by (try simp only [rdF, rd_none, rd_same, rd_ne, ne_eq, Nat.reduceEqDiff, not_false_eq_true, Nat.reduceLT, g1, g3]) <;> rfl) (by (try simp only [rdF, rd_none, rd_same, rd_ne, ne_eq, Nat.reduceEqDiff, not_false_eq_true, Nat.reduceLT, g1, g3]) <;> rfl) binA_eql) ?_
  refine OpsG.cons (o_assign (by (try simp only [rdF, rd_none, rd_same, rd_ne, ne_eq, Nat.reduceEqDiff, not_false_eq_true, Nat.reduceLT, g1, g3]) <;> rfl)) ?_
  refine OpsG.nil ?_
  repeat (refine GoP.seq ?_)
  refine GoP.cond_false (by rfl) (by (try simp only [rdF, rd_none, rd_same, rd_ne, ne_eq, Nat.reduceEqDiff, not_false_eq_true, Nat.reduceLT, g1, g3]) <;> rfl) ?_
  repeat (refine GoP.seq ?_)
  refine GoP.region ?_ ?_
  · rfl
  refine OpsG.cons (o_bin (by (try simp only [rdF, rd_none, rd_same, rd_ne, ne_eq, Nat.reduceEqDiff, not_false_eq_true, Nat.reduceLT, g1, g3]) <;> rfl) (by (try simp only [rdF, rd_none, rd_same, rd_ne, ne_eq, Nat.reduceEqDiff, not_false_eq_true, Nat.reduceLT, g1, g3]) <;> rfl) binA_eql) ?_
  refine OpsG.cons (o_assign (by (try simp only [rdF, rd_none, rd_same, rd_ne, ne_eq, Nat.reduceEqDiff, not_false_eq_true, Nat.reduceLT, g1, g3]) <;> rfl)) ?_
  refine OpsG.nil ?_
  repeat (refine GoP.seq ?_)
  refine GoP.cond_false (by rfl) (by (try simp only [rdF, rd_none, rd_same, rd_ne, ne_eq, Nat.reduceEqDiff, not_false_eq_true, Nat.reduceLT, g1, g3]) <;> rfl) ?_
  repeat (refine GoP.seq ?_)
  refine GoP.region ?_ ?_
  · rfl
  refine OpsG.cons (o_bin (by (try simp only [rdF, rd_none, rd_same, rd_ne, ne_eq, Nat.reduceEqDiff, not_false_eq_true, Nat.reduceLT, g1, g3]) <;> rfl) (by (try simp only [rdF, rd_none, rd_same, rd_ne, ne_eq, Nat.reduceEqDiff, not_false_eq_true, Nat.reduceLT, g1, g3]) <;> rfl) binA_eql) ?_
  refine OpsG.cons (o_assign (by (try simp only [rdF, rd_none, rd_same, rd_ne, ne_eq, Nat.reduceEqDiff, not_false_eq_true, Nat.reduceLT, g1, g3]) <;> rfl)) ?_
  refine OpsG.nil ?_
  repeat (refine GoP.seq ?_)
  refine GoP.cond_true (by rfl) (by (try simp only [rdF, rd_none, rd_same, rd_ne, ne_eq, Nat.reduceEqDiff, not_false_eq_true, Nat.reduceLT, g1, g3]) <;> rfl) ?_
  repeat (refine GoP.seq ?_)
  refine GoP.region ?_ ?_
  · rfl
  refine OpsG.cons (o_move (by (try simp only [rdF, rd_none, rd_same, rd_ne, ne_eq, Nat.reduceEqDiff, not_false_eq_true, Nat.reduceLT, g1, g3]) <;> rfl)) ?_
  refine OpsG.cons (o_field (by (try simp only [rdF, rd_none, rd_same, rd_ne, ne_eq, Nat.reduceEqDiff, not_false_eq_true, Nat.reduceLT, g1, g3]) <;> rfl) (fa_30_3 _ _)) ?_
  refine OpsG.cons (o_load (by (try simp only [rdF, rd_none, rd_same, rd_ne, ne_eq, Nat.reduceEqDiff, not_false_eq_true, Nat.reduceLT, g1, g3]) <;> rfl) (by (try simp (disch := omega) only [St.get_room, St.get_at_eq, St.get_at_ne, St.get_put_eq, St.get_put_ne, St.get_add_eq, St.get_add_ne, St.get_del_ne, St.next_at, St.next_put', St.next_room, St.next_add', St.next_del', ho.xo, ho.co]) <;> rfl) (by rw [p_3]; rfl)) ?_
  refine OpsG.cons (o_convert rfl (by (try simp only [rdF, rd_none, rd_same, rd_ne, ne_eq, Nat.reduceEqDiff, not_false_eq_true, Nat.reduceLT, g1, g3]) <;> rfl) ((cv_3_26 _).trans (congrArg (fun z => some (Value.int .u64 z)) (wrapu64 (by omega) (by omega))))) ?_
  refine OpsG.callV (by (try simp only [rdF, rd_none, rd_same, rd_ne, ne_eq, Nat.reduceEqDiff, not_false_eq_true, Nat.reduceLT, g1, g3]) <;> rfl) (by (try simp only [List.map_cons, List.map_nil, rdF, rd_none, rd_same, rd_ne, ne_eq, Nat.reduceEqDiff, not_false_eq_true, Nat.reduceLT, g1, g3]) <;> rfl) (ho.num (v := p) (n := 2) (by omega) (by omega) (by simp [low_length])) ?_
  rintro r σ2 ⟨rfl, sv2, b2, ho2⟩
  refine OpsG.nil ?_
  repeat (refine GoP.seq ?_)
  refine GoP.region ?_ ?_
  · rfl
  refine OpsG.cons (o_move (by (try simp only [rdF, rd_none, rd_same, rd_ne, ne_eq, Nat.reduceEqDiff, not_false_eq_true, Nat.reduceLT, g1, g3]) <;> rfl)) ?_
  refine OpsG.cons (o_field (by (try simp only [rdF, rd_none, rd_same, rd_ne, ne_eq, Nat.reduceEqDiff, not_false_eq_true, Nat.reduceLT, g1, g3]) <;> rfl) (fa_30_4 _ _)) ?_
  refine OpsG.cons (o_load (by (try simp only [rdF, rd_none, rd_same, rd_ne, ne_eq, Nat.reduceEqDiff, not_false_eq_true, Nat.reduceLT, g1, g3]) <;> rfl) (by (try simp (disch := omega) only [St.get_room, St.get_at_eq, St.get_at_ne, St.get_put_eq, St.get_put_ne, St.get_add_eq, St.get_add_ne, St.get_del_ne, St.next_at, St.next_put', St.next_room, St.next_add', St.next_del', ho.xo, ho.co, ho2.xo, ho2.co]) <;> rfl) (by rw [p_3]; rfl)) ?_
  refine OpsG.cons (o_convert rfl (by (try simp only [rdF, rd_none, rd_same, rd_ne, ne_eq, Nat.reduceEqDiff, not_false_eq_true, Nat.reduceLT, g1, g3]) <;> rfl) ((cv_3_26 _).trans (congrArg (fun z => some (Value.int .u64 z)) (wrapu64 (by omega) (by omega))))) ?_
  refine OpsG.callV (by (try simp only [rdF, rd_none, rd_same, rd_ne, ne_eq, Nat.reduceEqDiff, not_false_eq_true, Nat.reduceLT, g1, g3]) <;> rfl) (by (try simp only [List.map_cons, List.map_nil, rdF, rd_none, rd_same, rd_ne, ne_eq, Nat.reduceEqDiff, not_false_eq_true, Nat.reduceLT, g1, g3]) <;> rfl) (ho2.num (v := w) (n := 1) (by omega) (by omega) (by simp [low_length])) ?_
  rintro r σ3 ⟨rfl, sv3, b3, ho3⟩
  refine OpsG.nil ?_
  repeat (refine GoP.seq ?_)
  refine GoP.region ?_ ?_
  · rfl
  refine OpsG.cons (o_field (by (try simp only [rdF, rd_none, rd_same, rd_ne, ne_eq, Nat.reduceEqDiff, not_false_eq_true, Nat.reduceLT, g1, g3]) <;> rfl) (fa_30_0 _ _)) ?_
  refine OpsG.cons (o_load (by (try simp only [rdF, rd_none, rd_same, rd_ne, ne_eq, Nat.reduceEqDiff, not_false_eq_true, Nat.reduceLT, g1, g3]) <;> rfl) (by (try simp (disch := omega) only [St.get_room, St.get_at_eq, St.get_at_ne, St.get_put_eq, St.get_put_ne, St.get_add_eq, St.get_add_ne, St.get_del_ne, St.next_at, St.next_put', St.next_room, St.next_add', St.next_del', ho.xo, ho.co, ho2.xo, ho2.co, ho3.xo, ho3.co]) <;> rfl) (by rw [p_3]; rfl)) ?_
  refine OpsG.cons (o_bin (by (try simp only [rdF, rd_none, rd_same, rd_ne, ne_eq, Nat.reduceEqDiff, not_false_eq_true, Nat.reduceLT, g1, g3]) <;> rfl) (by (try simp only [rdF, rd_none, rd_same, rd_ne, ne_eq, Nat.reduceEqDiff, not_false_eq_true, Nat.reduceLT, g1, g3]) <;> rfl) binA_eql) ?_
  refine OpsG.nil ?_
  repeat (refine GoP.seq ?_)
  refine GoP.cond_true (by rfl) (by (try simp only [rdF, rd_none, rd_same, rd_ne, ne_eq, Nat.reduceEqDiff, not_false_eq_true, Nat.reduceLT, g1, g3]) <;> rfl) ?_
  repeat (refine GoP.seq ?_)
  refine GoP.region ?_ ?_
  · rfl
  refine OpsG.cons (o_move (by (try simp only [rdF, rd_none, rd_same, rd_ne, ne_eq, Nat.reduceEqDiff, not_false_eq_true, Nat.reduceLT, g1, g3]) <;> rfl)) ?_
  refine OpsG.cons (o_field (by (try simp only [rdF, rd_none, rd_same, rd_ne, ne_eq, Nat.reduceEqDiff, not_false_eq_true, Nat.reduceLT, g1, g3]) <;> rfl) (fa_30_5 _ _)) ?_
  refine OpsG.cons (o_load (by (try simp only [rdF, rd_none, rd_same, rd_ne, ne_eq, Nat.reduceEqDiff, not_false_eq_true, Nat.reduceLT, g1, g3]) <;> rfl) (by (try simp (disch := omega) only [St.get_room, St.get_at_eq, St.get_at_ne, St.get_put_eq, St.get_put_ne, St.get_add_eq, St.get_add_ne, St.get_del_ne, St.next_at, St.next_put', St.next_room, St.next_add', St.next_del', ho.xo, ho.co, ho2.xo, ho2.co, ho3.xo, ho3.co]) <;> rfl) (by rw [p_26]; rfl)) ?_
  refine OpsG.callV (by (try simp only [rdF, rd_none, rd_same, rd_ne, ne_eq, Nat.reduceEqDiff, not_false_eq_true, Nat.reduceLT, g1, g3]) <;> rfl) (by (try simp only [List.map_cons, List.map_nil, rdF, rd_none, rd_same, rd_ne, ne_eq, Nat.reduceEqDiff, not_false_eq_true, Nat.reduceLT, g1, g3]) <;> rfl) (ho3.num (v := v) (n := 8) (by omega) (by omega) (by simp [low_length])) ?_
  rintro r σ4 ⟨rfl, sv4, b4, ho4⟩
  refine OpsG.nil ?_
  repeat (refine GoP.seq ?_)
  refine GoP.region ?_ ?_
  · rfl
  refine OpsG.cons (o_load (by (try simp only [rdF, rd_none, rd_same, rd_ne, ne_eq, Nat.reduceEqDiff, not_false_eq_true, Nat.reduceLT, g1, g3]) <;> rfl) (by (try simp (disch := omega) only [St.get_room, St.get_at_eq, St.get_at_ne, St.get_put_eq, St.get_put_ne, St.get_add_eq, St.get_add_ne, St.get_del_ne, St.next_at, St.next_put', St.next_room, St.next_add', St.next_del', ho.xo, ho.co, ho2.xo, ho2.co, ho3.xo, ho3.co, ho4.xo, ho4.co]) <;> rfl) (by rw [p_25]; rfl)) ?_
  refine OpsG.cons (o_assign (by (try simp only [rdF, rd_none, rd_same, rd_ne, ne_eq, Nat.reduceEqDiff, not_false_eq_true, Nat.reduceLT, g1, g3]) <;> rfl)) ?_
  refine OpsG.nil ?_
  repeat (refine GoP.seq ?_)
  refine GoP.ret ?_
  refine ⟨.inl rfl, [sv4], ?_, ?_⟩
  · exact (by (try simp only [resAllF, resOneF, rdF, rd_none, rd_same, rd_ne, ne_eq, Nat.reduceEqDiff, not_false_eq_true, Nat.reduceLT, g1, g3]) <;> rfl)
  · exact ⟨b4, (by have := ho4.bx; exact this), ho4.but, ho4.bn.1, ho4.bn.2⟩
theorem take_low (l : List Int) {j : Nat} (h : j < l.length) : ((l.take (j + 1)).map (low · 8)).flatten = ((l.take j).map (low · 8)).flatten ++ low (l.getD j 0) 8 := by
  rw [List.take_succ_eq_append_getElem h, List.map_append, List.flatten_append]
  simp [List.getD, h]
theorem take_low_length (l : List Int) (j : Nat) : ((l.take j).map (low · 8)).flatten.length ≤ 8 * j := by
  induction j with
  | zero => simp
  | succ j ih =>
    by_cases h : j < l.length
    · rw [take_low l h, List.length_append, low_length]; omega
    · rw [List.take_of_length_le (by omega)] at ih ⊢; omega
set_option maxRecDepth 8000 in
theorem one_call {σ : St} {c r0 r1 r2 r3 r4 r5 r6 r7 : Int} (hc : 0 ≤ c ∧ c < 256) (h0 : 0 ≤ r0) (h1 : 0 ≤ r1) (h2 : 0 ≤ r2) (h3 : 0 ≤ r3) (h4 : 0 ≤ r4) (h5 : 0 ≤ r5) (h6 : 0 ≤ r6) (h7 : 0 ≤ r7) : Con Tryz.prog 15 [.agg #[.int .i64 1, .int .i64 c, .int .u64 r0, .int .u64 r1, .int .u64 r2, .int .u64 r3, .int .u64 r4, .int .u64 r5, .int .u64 r6, .int .u64 r7, .int .i64 0, .int .i64 0, .int .u64 0, .int .i64 0]] σ (fun rv σ' => ∃ b, BX σ' rv (.call c [r0, r1, r2, r3, r4, r5, r6, r7] : Stp).bytes b ∧ But σ σ' (fun _ => False) ∧ σ.next ≤ b ∧ b < σ'.next) := by
  refine Con.of_goP (nt := 58) (rs := [.tmp 2]) Tryz.func15 code15_eq ok15 rfl rfl (by simp) ?_
  have f0 : rdT 58 (fill .nil 0 [.agg #[.int .i64 1, .int .i64 c, .int .u64 r0, .int .u64 r1, .int .u64 r2, .int .u64 r3, .int .u64 r4, .int .u64 r5, .int .u64 r6, .int .u64 r7, .int .i64 0, .int .i64 0, .int .u64 0, .int .i64 0]]) 0 = .agg #[.int .i64 1, .int .i64 c, .int .u64 r0, .int .u64 r1, .int .u64 r2, .int .u64 r3, .int .u64 r4, .int .u64 r5, .int .u64 r6, .int .u64 r7, .int .i64 0, .int .i64 0, .int .u64 0, .int .i64 0] := rfl
  generalize fill .nil 0 [.agg #[.int .i64 1, .int .i64 c, .int .u64 r0, .int .u64 r1, .int .u64 r2, .int .u64 r3, .int .u64 r4, .int .u64 r5, .int .u64 r6, .int .u64 r7, .int .i64 0, .int .i64 0, .int .u64 0, .int .i64 0]] = t at f0
  unfold code15 Tryz.f15
  repeat (refine GoP.seq ?_)
  refine GoP.name ?_
  rintro σ1 rfl
  refine GoP.region ?_ ?_
  · rfl
  refine OpsG.cons (o_box (by (try simp only [rdF, rd_none, rd_same, rd_ne, ne_eq, Nat.reduceEqDiff, not_false_eq_true, Nat.reduceLT, f0]) <;> rfl) (cl_14 ..)) ?_
  refine OpsG.cons (o_assign (by (try simp only [rdF, rd_none, rd_same, rd_ne, ne_eq, Nat.reduceEqDiff, not_false_eq_true, Nat.reduceLT, f0]) <;> rfl)) ?_
  refine OpsG.nil ?_
  repeat (refine GoP.seq ?_)
  refine GoP.region ?_ ?_
  · rfl
  refine OpsG.cons (o_field (by (try simp only [rdF, rd_none, rd_same, rd_ne, ne_eq, Nat.reduceEqDiff, not_false_eq_true, Nat.reduceLT, f0]) <;> rfl) (fa_30_0 _ _)) ?_
  refine OpsG.cons (o_load (by (try simp only [rdF, rd_none, rd_same, rd_ne, ne_eq, Nat.reduceEqDiff, not_false_eq_true, Nat.reduceLT, f0]) <;> rfl) (by (try simp (disch := omega) only [St.get_room, St.get_at_eq, St.get_at_ne, St.get_put_eq, St.get_put_ne, St.get_add_eq, St.get_add_ne, St.get_del_ne, St.next_at, St.next_put', St.next_room, St.next_add', St.next_del']) <;> rfl) (by rw [p_3]; rfl)) ?_
  refine OpsG.cons (o_convert rfl (by (try simp only [rdF, rd_none, rd_same, rd_ne, ne_eq, Nat.reduceEqDiff, not_false_eq_true, Nat.reduceLT, f0]) <;> rfl) ((cv_3_5 _).trans (congrArg (fun z => some (Value.int .u8 z)) (wrapu8 (by omega) (by omega))))) ?_
  refine OpsG.cons (o_field (by (try simp only [rdF, rd_none, rd_same, rd_ne, ne_eq, Nat.reduceEqDiff, not_false_eq_true, Nat.reduceLT, f0]) <;> rfl) (fa_30_1 _ _)) ?_
  refine OpsG.cons (o_load (by (try simp only [rdF, rd_none, rd_same, rd_ne, ne_eq, Nat.reduceEqDiff, not_false_eq_true, Nat.reduceLT, f0]) <;> rfl) (by (try simp (disch := omega) only [St.get_room, St.get_at_eq, St.get_at_ne, St.get_put_eq, St.get_put_ne, St.get_add_eq, St.get_add_ne, St.get_del_ne, St.next_at, St.next_put', St.next_room, St.next_add', St.next_del']) <;> rfl) (by rw [p_3]; rfl)) ?_
  refine OpsG.cons (o_convert rfl (by (try simp only [rdF, rd_none, rd_same, rd_ne, ne_eq, Nat.reduceEqDiff, not_false_eq_true, Nat.reduceLT, f0]) <;> rfl) ((cv_3_5 _).trans (congrArg (fun z => some (Value.int .u8 z)) (wrapu8 (by omega) (by omega))))) ?_
  refine OpsG.cons (o_makesOf (fun x => match x with | .tmp 9 => .int .u8 1 | _ => .int .u8 c) rfl (by intro x hx; have e : x = .tmp 9 ∨ x = .tmp 12 := (by simpa [Op.operands] using hx); rcases e with e | e <;> rw [e] <;> exact (by (try simp only [rdF, rd_none, rd_same, rd_ne, ne_eq, Nat.reduceEqDiff, not_false_eq_true, Nat.reduceLT, f0]) <;> rfl)) (bs25_2 ..)) ?_
  refine OpsG.cons (o_alloc z_25 (cl1 rfl)) ?_
  refine OpsG.cons (o_store (by (try simp only [rdF, rd_none, rd_same, rd_ne, ne_eq, Nat.reduceEqDiff, not_false_eq_true, Nat.reduceLT, f0]) <;> rfl) (by (try simp only [rdF, rd_none, rd_same, rd_ne, ne_eq, Nat.reduceEqDiff, not_false_eq_true, Nat.reduceLT, f0]) <;> rfl) (by (try simp (disch := omega) only [St.get_room, St.get_at_eq, St.get_at_ne, St.get_put_eq, St.get_put_ne, St.get_add_eq, St.get_add_ne, St.get_del_ne, St.next_at, St.next_put', St.next_room, St.next_add', St.next_del']) <;> rfl) (by simp) s_25 (cl1 rfl) rfl rfl (by simp) (by simp only [splice, List.length_cons, List.length_nil, List.drop_succ_cons, List.drop_zero, List.take_succ_cons, List.take_zero, Nat.reduceAdd, Nat.reduceLeDiff, Nat.zero_add, List.append_nil, List.nil_append, List.cons_append]; rfl)) ?_
  refine OpsG.nil ?_
  repeat (refine GoP.seq ?_)
  refine GoP.name ?_
  rintro σ hσ
  obtain ⟨xb, hxb⟩ : ∃ x, x = σ1.next := ⟨_, rfl⟩
  obtain ⟨cb, hcb⟩ : ∃ x, x = σ1.next + 2 := ⟨_, rfl⟩
  have ho : OInv σ1 σ xb cb [.int .i64 1, .int .i64 c, .int .u64 r0, .int .u64 r1, .int .u64 r2, .int .u64 r3, .int .u64 r4, .int .u64 r5, .int .u64 r6, .int .u64 r7, .int .i64 0, .int .i64 0, .int .u64 0, .int .i64 0] (.slice (some ⟨σ1.next + 1, 0, none⟩) 2 2) [1, c] (σ1.next + 1) := by
    subst hxb hcb
    rw [hσ]
    refine ⟨?_, ?_, ?_, .inr ⟨by simp, 2, .ex, rfl, ?_, .inr ⟨rfl, rfl⟩⟩, by simp, ?_, ?_, ?_, by omega⟩
    · repeat (first | exact But.refl _ _ | refine But.putNew ?_ ?_ | refine But.at ?_ ?_ ?_)
      all_goals ((try simp only [St.next_at, St.next_put']); omega)
    all_goals first
      | (simp only [St.next_put', St.next_at]; omega)
      | ((simp (disch := omega) only [St.get_room, St.get_at_eq, St.get_at_ne, St.get_put_eq, St.get_put_ne, St.get_add_eq, St.get_add_ne, St.get_del_ne, St.next_at, St.next_put', St.next_room, St.next_add', St.next_del']); done)
      | ((simp (disch := omega) only [St.get_room, St.get_at_eq, St.get_at_ne, St.get_put_eq, St.get_put_ne, St.get_add_eq, St.get_add_ne, St.get_del_ne, St.next_at, St.next_put', St.next_room, St.next_add', St.next_del']); rfl)
  refine GoP.nameT ?_
  rintro t hT
  have g1 : rdT 58 t 1 = .pointer (some ⟨xb, 0, none⟩) := by rw [hT, hxb]; exact (by (try simp only [rdF, rd_none, rd_same, rd_ne, ne_eq, Nat.reduceEqDiff, not_false_eq_true, Nat.reduceLT, f0]) <;> rfl)
  have g3 : rdT 58 t 3 = .pointer (some ⟨cb, 0, none⟩) := by rw [hT, hcb]; exact (by (try simp only [rdF, rd_none, rd_same, rd_ne, ne_eq, Nat.reduceEqDiff, not_false_eq_true, Nat.reduceLT, f0]) <;> rfl)
  refine GoP.region ?_ ?_
  · rfl
  refine OpsG.cons (o_makeFunc (vs := #[.pointer (some ⟨cb, 0, none⟩)]) (by simp only [List.map_toArray, List.map_cons, List.map_nil, rdF, rd_none, rd_same, rd_ne, ne_eq, Nat.reduceEqDiff, not_false_eq_true, Nat.reduceLT, g1, g3])) ?_
  refine OpsG.cons (o_assign (by (try simp only [rdF, rd_none, rd_same, rd_ne, ne_eq, Nat.reduceEqDiff, not_false_eq_true, Nat.reduceLT, g1, g3]) <;> rfl)) ?_
  refine OpsG.nil ?_
  repeat (refine GoP.seq ?_)
  refine GoP.region ?_ ?_
  · rfl
  refine OpsG.cons (o_field (by (try simp only [rdF, rd_none, rd_same, rd_ne, ne_eq, Nat.reduceEqDiff, not_false_eq_true, Nat.reduceLT, g1, g3]) <;> rfl) (fa_30_0 _ _)) ?_
  refine OpsG.cons (o_load (by (try simp only [rdF, rd_none, rd_same, rd_ne, ne_eq, Nat.reduceEqDiff, not_false_eq_true, Nat.reduceLT, g1, g3]) <;> rfl) (by (try simp (disch := omega) only [St.get_room, St.get_at_eq, St.get_at_ne, St.get_put_eq, St.get_put_ne, St.get_add_eq, St.get_add_ne, St.get_del_ne, St.next_at, St.next_put', St.next_room, St.next_add', St.next_del', ho.xo, ho.co]) <;> rfl) (by rw [p_3]; rfl)) ?_
  refine OpsG.nil ?_
  repeat (refine GoP.seq ?_)
  refine GoP.block ?_
  repeat (refine GoP.seq ?_)
  refine GoP.region ?_ ?_
  · rfl
  refine OpsG.cons (o_bin (by (try simp only [rdF, rd_none, rd_same, rd_ne, ne_eq, Nat.reduceEqDiff, not_false_eq_true, Nat.reduceLT, g1, g3]) <;> rfl) (by (try simp only [rdF, rd_none, rd_same, rd_ne, ne_eq, Nat.reduceEqDiff, not_false_eq_true, Nat.reduceLT, g1, g3]) <;> rfl) binA_eql) ?_
  refine OpsG.cons (o_assign (by (try simp only [rdF, rd_none, rd_same, rd_ne, ne_eq, Nat.reduceEqDiff, not_false_eq_true, Nat.reduceLT, g1, g3]) <;> rfl)) ?_
  refine OpsG.nil ?_
  repeat (refine GoP.seq ?_)
  refine GoP.cond_true (by rfl) (by (try simp only [rdF, rd_none, rd_same, rd_ne, ne_eq, Nat.reduceEqDiff, not_false_eq_true, Nat.reduceLT, g1, g3]) <;> rfl) ?_
  repeat (refine GoP.seq ?_)
  refine GoP.region ?_ ?_
  · rfl
  refine OpsG.cons (o_move (by (try simp only [rdF, rd_none, rd_same, rd_ne, ne_eq, Nat.reduceEqDiff, not_false_eq_true, Nat.reduceLT, g1, g3]) <;> rfl)) ?_
  refine OpsG.callV (by (try simp only [rdF, rd_none, rd_same, rd_ne, ne_eq, Nat.reduceEqDiff, not_false_eq_true, Nat.reduceLT, g1, g3]) <;> rfl) (by (try simp only [List.map_cons, List.map_nil, rdF, rd_none, rd_same, rd_ne, ne_eq, Nat.reduceEqDiff, not_false_eq_true, Nat.reduceLT, g1, g3]) <;> rfl) (ho.num (v := 8) (n := 1) (by omega) (by omega) (by simp)) ?_
  rintro r σ2 ⟨rfl, sv2, b2, ho2⟩
  refine OpsG.nil ?_
  repeat (refine GoP.seq ?_)
  refine GoP.region ?_ ?_
  · rfl
  refine OpsG.cons (o_field (by (try simp only [rdF, rd_none, rd_same, rd_ne, ne_eq, Nat.reduceEqDiff, not_false_eq_true, Nat.reduceLT, g1, g3]) <;> rfl) (fa_30_2 _ _)) ?_
  refine OpsG.cons (o_load (by (try simp only [rdF, rd_none, rd_same, rd_ne, ne_eq, Nat.reduceEqDiff, not_false_eq_true, Nat.reduceLT, g1, g3]) <;> rfl) (by (try simp (disch := omega) only [St.get_room, St.get_at_eq, St.get_at_ne, St.get_put_eq, St.get_put_ne, St.get_add_eq, St.get_add_ne, St.get_del_ne, St.next_at, St.next_put', St.next_room, St.next_add', St.next_del', ho.xo, ho.co, ho2.xo, ho2.co]) <;> rfl) (by rw [p_28]; simp only [List.length_cons, List.length_nil, List.drop_succ_cons, List.drop_zero, List.take_succ_cons, List.take_zero, Nat.reduceAdd, Nat.reduceLeDiff, Nat.zero_add, if_true]; rfl)) ?_
  refine OpsG.cons (o_move (by (try simp only [rdF, rd_none, rd_same, rd_ne, ne_eq, Nat.reduceEqDiff, not_false_eq_true, Nat.reduceLT, g1, g3]) <;> rfl)) ?_
  refine OpsG.nil ?_
  repeat (refine GoP.seq ?_)
  refine GoP.block ?_
  repeat (refine GoP.seq ?_)
  refine GoP.loop (fun m t σ => ∃ (j b3 : Nat) (sv3 : Value), rdT 58 t 1 = .pointer (some ⟨xb, 0, none⟩) ∧ rdT 58 t 3 = .pointer (some ⟨cb, 0, none⟩) ∧ rdT 58 t 4 = .func (.func 20) #[] #[.pointer (some ⟨cb, 0, none⟩)] ∧ rdT 58 t 22 = .agg #[.int .u64 r0, .int .u64 r1, .int .u64 r2, .int .u64 r3, .int .u64 r4, .int .u64 r5, .int .u64 r6, .int .u64 r7] ∧ rdT 58 t 23 = .int .i64 (j : Int) ∧ (j ≤ 8) ∧ (OInv σ1 σ xb cb [.int .i64 1, .int .i64 c, .int .u64 r0, .int .u64 r1, .int .u64 r2, .int .u64 r3, .int .u64 r4, .int .u64 r5, .int .u64 r6, .int .u64 r7, .int .i64 0, .int .i64 0, .int .u64 0, .int .i64 0] sv3 ([1, c, 8] ++ (([r0, r1, r2, r3, r4, r5, r6, r7].take j).map (low · 8)).flatten) b3) ∧ m = 8 - j) ?_ (m := 8) ?_
  ·
    rintro m t σ3 ⟨j, b3, sv3, g1, g3, g4, g22, g23, hj, ho3, rfl⟩
    repeat (refine GoP.seq ?_)
    refine GoP.region ?_ ?_
    · rfl
    refine OpsG.cons (o_bin (by (try simp only [rdF, rd_none, rd_same, rd_ne, ne_eq, Nat.reduceEqDiff, not_false_eq_true, Nat.reduceLT, g1, g3, g4, g22, g23]) <;> rfl) (by (try simp only [rdF, rd_none, rd_same, rd_ne, ne_eq, Nat.reduceEqDiff, not_false_eq_true, Nat.reduceLT, g1, g3, g4, g22, g23]) <;> rfl) binA_lss) ?_
    refine OpsG.nil ?_
    repeat (refine GoP.seq ?_)
    refine GoP.cond (by rfl) (by (try simp only [rdF, rd_none, rd_same, rd_ne, ne_eq, Nat.reduceEqDiff, not_false_eq_true, Nat.reduceLT, g1, g3, g4, g22, g23]) <;> rfl) (fun hcc => ?_) (fun hcc => ?_)
    ·
      have hj8 : j < 8 := by have := of_decide_eq_true hcc; omega
      have hr0 : 0 ≤ ([r0, r1, r2, r3, r4, r5, r6, r7]).getD j 0 := by
        rcases (by omega : j = 0 ∨ j = 1 ∨ j = 2 ∨ j = 3 ∨ j = 4 ∨ j = 5 ∨ j = 6 ∨ j = 7) with rfl | rfl | rfl | rfl | rfl | rfl | rfl | rfl <;> simp <;> omega
      have htl := take_low_length [r0, r1, r2, r3, r4, r5, r6, r7] j
      repeat (refine GoP.seq ?_)
      refine GoP.skip ?_
      repeat (refine GoP.seq ?_)
      refine GoP.block ?_
      repeat (refine GoP.seq ?_)
      refine GoP.region ?_ ?_
      · rfl
      refine OpsG.cons (o_index (by (try simp only [rdF, rd_none, rd_same, rd_ne, ne_eq, Nat.reduceEqDiff, not_false_eq_true, Nat.reduceLT, g1, g3, g4, g22, g23]) <;> rfl) (by (try simp only [rdF, rd_none, rd_same, rd_ne, ne_eq, Nat.reduceEqDiff, not_false_eq_true, Nat.reduceLT, g1, g3, g4, g22, g23]) <;> rfl) (idx28 _ _ _ _ _ _ _ _ hj8)) ?_
      refine OpsG.cons (o_assign (by (try simp only [rdF, rd_none, rd_same, rd_ne, ne_eq, Nat.reduceEqDiff, not_false_eq_true, Nat.reduceLT, g1, g3, g4, g22, g23]) <;> rfl)) ?_
      refine OpsG.nil ?_
      repeat (refine GoP.seq ?_)
      refine GoP.region ?_ ?_
      · rfl
      refine OpsG.cons (o_move (by (try simp only [rdF, rd_none, rd_same, rd_ne, ne_eq, Nat.reduceEqDiff, not_false_eq_true, Nat.reduceLT, g1, g3, g4, g22, g23]) <;> rfl)) ?_
      refine OpsG.cons (o_move (by (try simp only [rdF, rd_none, rd_same, rd_ne, ne_eq, Nat.reduceEqDiff, not_false_eq_true, Nat.reduceLT, g1, g3, g4, g22, g23]) <;> rfl)) ?_
      refine OpsG.callV (by (try simp only [rdF, rd_none, rd_same, rd_ne, ne_eq, Nat.reduceEqDiff, not_false_eq_true, Nat.reduceLT, g1, g3, g4, g22, g23]) <;> rfl) (by (try simp only [List.map_cons, List.map_nil, rdF, rd_none, rd_same, rd_ne, ne_eq, Nat.reduceEqDiff, not_false_eq_true, Nat.reduceLT, g1, g3, g4, g22, g23]) <;> rfl) (ho3.num (v := ([r0, r1, r2, r3, r4, r5, r6, r7]).getD j 0) (n := 8) hr0 (by omega) (by simp only [List.length_append, List.length_cons, List.length_nil]; omega)) ?_
      rintro r σ4 ⟨rfl, sv4, b4, ho4⟩
      refine OpsG.nil ?_
      repeat (refine GoP.seq ?_)
      refine GoP.region ?_ ?_
      · rfl
      refine OpsG.cons (o_bin (by (try simp only [rdF, rd_none, rd_same, rd_ne, ne_eq, Nat.reduceEqDiff, not_false_eq_true, Nat.reduceLT, g1, g3, g4, g22, g23]) <;> rfl) (by (try simp only [rdF, rd_none, rd_same, rd_ne, ne_eq, Nat.reduceEqDiff, not_false_eq_true, Nat.reduceLT, g1, g3, g4, g22, g23]) <;> rfl) (by first | (refine b_add64 ?_ ?_ <;> omega) | exact binA_add)) ?_
      refine OpsG.cons (o_move (by (try simp only [rdF, rd_none, rd_same, rd_ne, ne_eq, Nat.reduceEqDiff, not_false_eq_true, Nat.reduceLT, g1, g3, g4, g22, g23]) <;> rfl)) ?_
      refine OpsG.nil ?_
      refine ⟨_, ?_, j + 1, b4, sv4, (by (try simp only [rdF, rd_none, rd_same, rd_ne, ne_eq, Nat.reduceEqDiff, not_false_eq_true, Nat.reduceLT, g1, g3, g4, g22, g23]) <;> rfl), (by (try simp only [rdF, rd_none, rd_same, rd_ne, ne_eq, Nat.reduceEqDiff, not_false_eq_true, Nat.reduceLT, g1, g3, g4, g22, g23]) <;> rfl), (by (try simp only [rdF, rd_none, rd_same, rd_ne, ne_eq, Nat.reduceEqDiff, not_false_eq_true, Nat.reduceLT, g1, g3, g4, g22, g23]) <;> rfl), (by (try simp only [rdF, rd_none, rd_same, rd_ne, ne_eq, Nat.reduceEqDiff, not_false_eq_true, Nat.reduceLT, g1, g3, g4, g22, g23]) <;> rfl), (by (try simp only [rdF, rd_none, rd_same, rd_ne, ne_eq, Nat.reduceEqDiff, not_false_eq_true, Nat.reduceLT, g1, g3, g4, g22, g23]) <;> rfl), by omega, (by rw [take_low _ hj8, ← List.append_assoc]; exact ho4), rfl⟩
      omega
    ·
      have hj8 : j = 8 := by have := of_decide_eq_false hcc; omega
      subst hj8
      repeat (refine GoP.seq ?_)
      refine GoP.exit ?_
      refine Eq.mpr (if_pos rfl) ?_
      repeat (refine GoP.seq ?_)
      refine GoP.region ?_ ?_
      · rfl
      refine OpsG.cons (o_load (by (try simp only [rdF, rd_none, rd_same, rd_ne, ne_eq, Nat.reduceEqDiff, not_false_eq_true, Nat.reduceLT, g1, g3, g4, g22, g23]) <;> rfl) (by (try simp (disch := omega) only [St.get_room, St.get_at_eq, St.get_at_ne, St.get_put_eq, St.get_put_ne, St.get_add_eq, St.get_add_ne, St.get_del_ne, St.next_at, St.next_put', St.next_room, St.next_add', St.next_del', ho3.xo, ho3.co]) <;> rfl) (by rw [p_25]; rfl)) ?_
      refine OpsG.cons (o_assign (by (try simp only [rdF, rd_none, rd_same, rd_ne, ne_eq, Nat.reduceEqDiff, not_false_eq_true, Nat.reduceLT, g1, g3, g4, g22, g23]) <;> rfl)) ?_
      refine OpsG.nil ?_
      repeat (refine GoP.seq ?_)
      refine GoP.ret ?_
      refine ⟨.inl rfl, [sv3], ?_, ?_⟩
      · exact (by (try simp only [resAllF, resOneF, rdF, rd_none, rd_same, rd_ne, ne_eq, Nat.reduceEqDiff, not_false_eq_true, Nat.reduceLT, g1, g3, g4, g22, g23]) <;> rfl)
      · exact ⟨b3, (by have := ho3.bx; exact this), ho3.but, ho3.bn.1, ho3.bn.2⟩
  ·
    exact ⟨0, b2, sv2, (by (try simp only [rdF, rd_none, rd_same, rd_ne, ne_eq, Nat.reduceEqDiff, not_false_eq_true, Nat.reduceLT, g1, g3]) <;> rfl), (by (try simp only [rdF, rd_none, rd_same, rd_ne, ne_eq, Nat.reduceEqDiff, not_false_eq_true, Nat.reduceLT, g1, g3]) <;> rfl), (by (try simp only [rdF, rd_none, rd_same, rd_ne, ne_eq, Nat.reduceEqDiff, not_false_eq_true, Nat.reduceLT, g1, g3]) <;> rfl), (by (try simp only [rdF, rd_none, rd_same, rd_ne, ne_eq, Nat.reduceEqDiff, not_false_eq_true, Nat.reduceLT, g1, g3]) <;> rfl), (by (try simp only [rdF, rd_none, rd_same, rd_ne, ne_eq, Nat.reduceEqDiff, not_false_eq_true, Nat.reduceLT, g1, g3]) <;> rfl), by omega, ho2, rfl⟩
theorem one_con {σ : St} {s : Stp} (h : s.ok) : Con Tryz.prog 15 [.agg s.cells.toArray] σ (fun rv σ' => ∃ b, BX σ' rv s.bytes b ∧ But σ σ' (fun _ => False) ∧ σ.next ≤ b ∧ b < σ'.next) := by
  cases s with
  | call c r =>
    obtain ⟨hc, hr, hv⟩ := h
    obtain ⟨r0, r1, r2, r3, r4, r5, r6, r7, rfl⟩ := eight hr
    exact one_call hc (hv _ (by simp)).1 (hv _ (by simp)).1 (hv _ (by simp)).1 (hv _ (by simp)).1 (hv _ (by simp)).1 (hv _ (by simp)).1 (hv _ (by simp)).1 (hv _ (by simp)).1
  | load c p w => exact one_load h.1 h.2.1 h.2.2
  | store c p w v => exact one_store h.1 h.2.1 h.2.2.1 h.2.2.2.1
  | tick c => exact one_tick h
  | line c n => exact one_line h.1 h.2

end Go.Proofs.YtfffmmgmjlfkoaaGreat
