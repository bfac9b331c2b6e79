/- Which slots may be: the walk of slot.May. -/
import Derived.Test.YtfffmmgmjlfkoaaGreatC12
namespace Go.Proofs.YtfffmmgmjlfkoaaGreat
set_option linter.unusedSimpArgs false
set_option linter.unusedVariables false
open Go.As

def sl (k f p : Int) : Value := .agg #[.int .i64 k, .int .i64 f, .int .i64 p]
/-- slot.May. -/
def mayV (k f p : Int) : Bool :=
  let right := decide (f ≥ 0) && decide (f < 240)
  if k = 0 then true else if k = 1 then p == 0 && right else if k = 2 ∨ k = 3 then decide (p ≥ 1) && decide (p ≤ 7) && right else false

theorem fa226_0 (b : Nat) : fieldAddrA Tryz.prog 226 0 (.pointer (some ⟨b, 0, none⟩)) = some (.pointer (some ⟨b, 0, none⟩)) := by kernel_rfl
theorem fa226_1 (b : Nat) : fieldAddrA Tryz.prog 226 1 (.pointer (some ⟨b, 0, none⟩)) = some (.pointer (some ⟨b, 1, none⟩)) := by kernel_rfl
theorem fa226_2 (b : Nat) : fieldAddrA Tryz.prog 226 2 (.pointer (some ⟨b, 0, none⟩)) = some (.pointer (some ⟨b, 2, none⟩)) := by kernel_rfl

theorem load226 {σ : St} {b : Nat} {k f p : Int} {e : TypeId} {kd : Kd} (h : σ.get b = some (.cells [.int .i64 k, .int .i64 f, .int .i64 p] e kd)) : loadA Tryz.prog σ.get 226 (.pointer (some ⟨b, 0, none⟩)) = some (sl k f p) := by
  simp only [loadA, h]
  kernel_rfl

theorem box226 {P : Program} {ρ : Operand → Value} {dst : Option Tmp} {ty : TypeId} {pos : String} {af : Array Edge} {g : Option (Nat × Bool)} {σ : St} {x : Operand} {k f p : Int} (hx : ρ x = sl k f p) :
    allocTo P ρ none ⟨dst, .box 226 x, ty, pos, af, g⟩ σ = some (.pointer (some ⟨σ.next, 0, none⟩), σ.at σ.next (.cells [.int .i64 k, .int .i64 f, .int .i64 p] 226 .ex) (σ.next + 1)) := by
  simp only [allocTo, allocA, hx, Option.map_some, place]
  rfl

noncomputable def mayCode : Code := match Tryz.f217.body with | some c => c | none => .skip
theorem mayCode_eq : Tryz.f217.body = some mayCode := by kernel_rfl
theorem sl0_eq : binA Tryz.prog .eql 226 (.tmp 16) (.tmp 17) (sl 0 0 0) (sl 0 0 0) = some (.bool true) := by kernel_rfl
theorem build226 {ρ : Operand → Value} {rd : Nat → Option AObj} {dst : Option Tmp} {ty : TypeId} {pos : String} {af : Array Edge} {g : Option (Nat × Bool)} : silentA Tryz.prog ρ rd ⟨dst, .build 226 #[], ty, pos, af, g⟩ = some (sl 0 0 0) := by kernel_rfl

set_option maxRecDepth 8000 in
theorem may_walk {σ : St} {k f p : Int} (hk : (k = 0 ∧ f = 0 ∧ p = 0) ∨ k = 1 ∨ k = 2 ∨ k = 3) :
    EvP Tryz.prog noK 3 41 mayCode (fill .nil 0 [sl k f p]) σ fun e t' σ' => e = .ret ∧ Keeps σ σ' ∧ rdT 41 t' 2 = .bool (mayV k f p) := by
  have f0 : rdT 41 (fill .nil 0 [sl k f p]) 0 = sl k f p := rfl
  generalize fill .nil 0 [sl k f p] = t at f0
  unfold mayCode Tryz.f217
  refine EvP.seq (EvP.region ?_)
  refine OpsP.cons (op_makes rfl (box226 (k := k) (f := f) (p := p) ?_)) (OpsP.cons op_assign (OpsP.nil ?_))
  · simp only [rdF, rd_none, rd_same, rd_ne, ne_eq, Nat.reduceEqDiff, not_false_eq_true, Nat.reduceLT, f0]
  have hkeep : Keeps σ (σ.at σ.next (.cells [.int .i64 k, .int .i64 f, .int .i64 p] 226 .ex) (σ.next + 1)) := (Keeps.refl σ).add _
  have hb : (σ.at σ.next (.cells [.int .i64 k, .int .i64 f, .int .i64 p] 226 .ex) (σ.next + 1)).get σ.next = some (.cells [.int .i64 k, .int .i64 f, .int .i64 p] 226 .ex) := by rw [St.get_at, if_pos rfl]
  generalize (σ.at σ.next (.cells [.int .i64 k, .int .i64 f, .int .i64 p] 226 .ex) (σ.next + 1)) = σ1 at hkeep hb
  refine EvP.seq (EvP.mono (Q := fun e t' σ' => e = .normal ∧ σ' = σ1 ∧ rdT 41 t' 3 = .bool (decide (f ≥ 0) && decide (f < 240)) ∧ rdT 41 t' 1 = .pointer (some ⟨σ.next, 0, none⟩)) (EvP.region ?_) ?_)
  · refine OpsP.cons (op_field (v := .pointer (some ⟨σ.next, 1, none⟩)) (by simp only [rdF, rd_none, rd_same, rd_ne, ne_eq, Nat.reduceEqDiff, not_false_eq_true, Nat.reduceLT, fa226_1])) ?_
    refine OpsP.cons (op_load (v := .int .i64 f) (by simp only [rdF, rd_none, rd_same, rd_ne, ne_eq, Nat.reduceEqDiff, not_false_eq_true, Nat.reduceLT]; rw [load3 hb]; rfl)) ?_
    refine OpsP.cons (op_bin (v := .bool (decide (f ≥ 0))) (by simp only [rdF, rd_none, rd_same, rd_ne, ne_eq, Nat.reduceEqDiff, not_false_eq_true, Nat.reduceLT, binA_geq])) ?_
    refine OpsP.cons op_move ?_
    by_cases hf : f ≥ 0
    · have hfd : decide (f ≥ 0) = true := decide_eq_true hf
      refine OpsP.want rfl rfl (by simp only [rdF, rd_none, rd_same, rd_ne, ne_eq, Nat.reduceEqDiff, not_false_eq_true, Nat.reduceLT, hfd]) (op_field (v := .pointer (some ⟨σ.next, 1, none⟩)) (by simp only [rdF, rd_none, rd_same, rd_ne, ne_eq, Nat.reduceEqDiff, not_false_eq_true, Nat.reduceLT, fa226_1])) ?_
      refine OpsP.want rfl rfl (by simp only [rdF, rd_none, rd_same, rd_ne, ne_eq, Nat.reduceEqDiff, not_false_eq_true, Nat.reduceLT, hfd]) (op_load (v := .int .i64 f) (by simp only [rdF, rd_none, rd_same, rd_ne, ne_eq, Nat.reduceEqDiff, not_false_eq_true, Nat.reduceLT]; rw [load3 hb]; rfl)) ?_
      refine OpsP.want rfl rfl (by simp only [rdF, rd_none, rd_same, rd_ne, ne_eq, Nat.reduceEqDiff, not_false_eq_true, Nat.reduceLT, hfd]) (op_bin (v := .bool (decide (f < 240))) (by simp only [rdF, rd_none, rd_same, rd_ne, ne_eq, Nat.reduceEqDiff, not_false_eq_true, Nat.reduceLT, binA_lss])) ?_
      refine OpsP.cons (op_pick_true (by simp only [rdF, rd_none, rd_same, rd_ne, ne_eq, Nat.reduceEqDiff, not_false_eq_true, Nat.reduceLT, hfd])) (OpsP.cons op_assign (OpsP.nil ⟨rfl, rfl, ?_, ?_⟩))
      · simp only [rdF, rd_none, rd_same, rd_ne, ne_eq, Nat.reduceEqDiff, not_false_eq_true, Nat.reduceLT, hfd, Bool.true_and]
      · simp only [rdF, rd_none, rd_same, rd_ne, ne_eq, Nat.reduceEqDiff, not_false_eq_true, Nat.reduceLT]
    · have hfd : decide (f ≥ 0) = false := decide_eq_false hf
      refine OpsP.skip rfl rfl (by simp only [rdF, rd_none, rd_same, rd_ne, ne_eq, Nat.reduceEqDiff, not_false_eq_true, Nat.reduceLT, hfd]; rfl) ?_
      refine OpsP.skip rfl rfl (by simp only [rdF, rd_none, rd_same, rd_ne, ne_eq, Nat.reduceEqDiff, not_false_eq_true, Nat.reduceLT, hfd]; rfl) ?_
      refine OpsP.skip rfl rfl (by simp only [rdF, rd_none, rd_same, rd_ne, ne_eq, Nat.reduceEqDiff, not_false_eq_true, Nat.reduceLT, hfd]; rfl) ?_
      refine OpsP.cons (op_pick_false (by simp only [rdF, rd_none, rd_same, rd_ne, ne_eq, Nat.reduceEqDiff, not_false_eq_true, Nat.reduceLT, hfd])) (OpsP.cons op_assign (OpsP.nil ⟨rfl, rfl, ?_, ?_⟩))
      · simp only [rdF, rd_none, rd_same, rd_ne, ne_eq, Nat.reduceEqDiff, not_false_eq_true, Nat.reduceLT, hfd, Bool.false_and]
      · simp only [rdF, rd_none, rd_same, rd_ne, ne_eq, Nat.reduceEqDiff, not_false_eq_true, Nat.reduceLT]
  rintro e t2 σ2 ⟨rfl, rfl, g3, g1⟩
  refine EvP.seq (EvP.seq (EvP.region ?_))
  refine OpsP.cons (op_field (v := .pointer (some ⟨σ.next, 0, none⟩)) (by simp only [rdF, rd_none, rd_same, rd_ne, ne_eq, Nat.reduceEqDiff, not_false_eq_true, Nat.reduceLT, g1, fa226_0])) ?_
  refine OpsP.cons (op_load (v := .int .i64 k) (by simp only [rdF, rd_none, rd_same, rd_ne, ne_eq, Nat.reduceEqDiff, not_false_eq_true, Nat.reduceLT]; rw [load3 hb]; rfl)) (OpsP.nil ?_)
  refine EvP.block (EvP.seq (EvP.region ?_))
  refine OpsP.cons (op_bin (v := .bool (k == 0)) (by simp only [rdF, rd_none, rd_same, rd_ne, ne_eq, Nat.reduceEqDiff, not_false_eq_true, Nat.reduceLT, binA_eql])) (OpsP.cons op_assign (OpsP.nil ?_))
  rcases hk with ⟨rfl, rfl, rfl⟩ | rfl | hk
  · refine EvP.cond_true (by simp only [rdF, rd_none, rd_same, rd_ne, ne_eq, Nat.reduceEqDiff, not_false_eq_true, Nat.reduceLT]; rfl) (EvP.seq (EvP.region ?_))
    refine OpsP.cons (op_load (v := sl 0 0 0) (by simp only [rdF, rd_none, rd_same, rd_ne, ne_eq, Nat.reduceEqDiff, not_false_eq_true, Nat.reduceLT, g1]; exact load226 hb)) ?_
    refine OpsP.cons (op_silent (v := sl 0 0 0) rfl build226) ?_
    refine OpsP.cons (op_bin (v := .bool true) (by simp only [rdF, rd_none, rd_same, rd_ne, ne_eq, Nat.reduceEqDiff, not_false_eq_true, Nat.reduceLT]; exact sl0_eq)) (OpsP.cons op_assign (OpsP.nil ?_))
    refine EvP.ret ⟨rfl, hkeep, ?_⟩
    simp only [rdF, rd_none, rd_same, rd_ne, ne_eq, Nat.reduceEqDiff, not_false_eq_true, Nat.reduceLT]
    rfl
  · refine EvP.cond_false (by simp only [rdF, rd_none, rd_same, rd_ne, ne_eq, Nat.reduceEqDiff, not_false_eq_true, Nat.reduceLT]; rfl) (EvP.seq (EvP.region ?_))
    refine OpsP.cons (op_bin (v := .bool true) (by simp only [rdF, rd_none, rd_same, rd_ne, ne_eq, Nat.reduceEqDiff, not_false_eq_true, Nat.reduceLT, binA_eql]; rfl)) (OpsP.cons op_assign (OpsP.nil ?_))
    refine EvP.cond_true (by simp only [rdF, rd_none, rd_same, rd_ne, ne_eq, Nat.reduceEqDiff, not_false_eq_true, Nat.reduceLT]) (EvP.seq (EvP.region ?_))
    refine OpsP.cons (op_field (v := .pointer (some ⟨σ.next, 2, none⟩)) (by simp only [rdF, rd_none, rd_same, rd_ne, ne_eq, Nat.reduceEqDiff, not_false_eq_true, Nat.reduceLT, g1, fa226_2])) ?_
    refine OpsP.cons (op_load (v := .int .i64 p) (by simp only [rdF, rd_none, rd_same, rd_ne, ne_eq, Nat.reduceEqDiff, not_false_eq_true, Nat.reduceLT]; rw [load3 hb]; rfl)) ?_
    refine OpsP.cons (op_bin (v := .bool (p == 0)) (by simp only [rdF, rd_none, rd_same, rd_ne, ne_eq, Nat.reduceEqDiff, not_false_eq_true, Nat.reduceLT, binA_eql])) ?_
    refine OpsP.cons op_move ?_
    cases hp : (p == 0) with
    | true =>
      refine OpsP.want rfl rfl (by simp only [rdF, rd_none, rd_same, rd_ne, ne_eq, Nat.reduceEqDiff, not_false_eq_true, Nat.reduceLT]) op_move ?_
      refine OpsP.cons (op_pick_true (by simp only [rdF, rd_none, rd_same, rd_ne, ne_eq, Nat.reduceEqDiff, not_false_eq_true, Nat.reduceLT])) (OpsP.cons op_assign (OpsP.nil ?_))
      refine EvP.ret ⟨rfl, hkeep, ?_⟩
      simp only [rdF, rd_none, rd_same, rd_ne, ne_eq, Nat.reduceEqDiff, not_false_eq_true, Nat.reduceLT, g3]
      simp [mayV, hp]
    | false =>
      refine OpsP.skip rfl rfl (by simp only [rdF, rd_none, rd_same, rd_ne, ne_eq, Nat.reduceEqDiff, not_false_eq_true, Nat.reduceLT]; rfl) ?_
      refine OpsP.cons (op_pick_false (by simp only [rdF, rd_none, rd_same, rd_ne, ne_eq, Nat.reduceEqDiff, not_false_eq_true, Nat.reduceLT])) (OpsP.cons op_assign (OpsP.nil ?_))
      refine EvP.ret ⟨rfl, hkeep, ?_⟩
      simp only [rdF, rd_none, rd_same, rd_ne, ne_eq, Nat.reduceEqDiff, not_false_eq_true, Nat.reduceLT]
      simp [mayV, hp]
  · rcases hk with rfl | rfl
    · refine EvP.cond_false (by simp only [rdF, rd_none, rd_same, rd_ne, ne_eq, Nat.reduceEqDiff, not_false_eq_true, Nat.reduceLT]; rfl) (EvP.seq (EvP.region ?_))
      refine OpsP.cons (op_bin (v := .bool false) (by simp only [rdF, rd_none, rd_same, rd_ne, ne_eq, Nat.reduceEqDiff, not_false_eq_true, Nat.reduceLT, binA_eql]; rfl)) (OpsP.cons op_assign (OpsP.nil ?_))
      refine EvP.cond_false (by simp only [rdF, rd_none, rd_same, rd_ne, ne_eq, Nat.reduceEqDiff, not_false_eq_true, Nat.reduceLT]) (EvP.seq (EvP.seq (EvP.region ?_)))
      refine OpsP.cons (op_bin (v := .bool true) (by simp only [rdF, rd_none, rd_same, rd_ne, ne_eq, Nat.reduceEqDiff, not_false_eq_true, Nat.reduceLT, binA_eql]; rfl)) (OpsP.cons op_assign (OpsP.nil ?_))
      refine EvP.cond_true (by simp only [rdF, rd_none, rd_same, rd_ne, ne_eq, Nat.reduceEqDiff, not_false_eq_true, Nat.reduceLT]) (EvP.skip ?_)
      refine EvP.cond_true (by simp only [rdF, rd_none, rd_same, rd_ne, ne_eq, Nat.reduceEqDiff, not_false_eq_true, Nat.reduceLT]) (EvP.seq (EvP.region ?_))
      refine OpsP.cons (op_field (v := .pointer (some ⟨σ.next, 2, none⟩)) (by simp only [rdF, rd_none, rd_same, rd_ne, ne_eq, Nat.reduceEqDiff, not_false_eq_true, Nat.reduceLT, g1, fa226_2])) ?_
      refine OpsP.cons (op_load (v := .int .i64 p) (by simp only [rdF, rd_none, rd_same, rd_ne, ne_eq, Nat.reduceEqDiff, not_false_eq_true, Nat.reduceLT]; rw [load3 hb]; rfl)) ?_
      refine OpsP.cons (op_bin (v := .bool (decide (p ≥ 1))) (by simp only [rdF, rd_none, rd_same, rd_ne, ne_eq, Nat.reduceEqDiff, not_false_eq_true, Nat.reduceLT, binA_geq])) ?_
      refine OpsP.cons op_move ?_
      cases hp : decide (p ≥ 1) with
      | false =>
        refine OpsP.skip rfl rfl (by simp only [rdF, rd_none, rd_same, rd_ne, ne_eq, Nat.reduceEqDiff, not_false_eq_true, Nat.reduceLT]; rfl) ?_
        refine OpsP.skip rfl rfl (by simp only [rdF, rd_none, rd_same, rd_ne, ne_eq, Nat.reduceEqDiff, not_false_eq_true, Nat.reduceLT]; rfl) ?_
        refine OpsP.skip rfl rfl (by simp only [rdF, rd_none, rd_same, rd_ne, ne_eq, Nat.reduceEqDiff, not_false_eq_true, Nat.reduceLT]; rfl) ?_
        refine OpsP.cons (op_pick_false (by simp only [rdF, rd_none, rd_same, rd_ne, ne_eq, Nat.reduceEqDiff, not_false_eq_true, Nat.reduceLT])) (OpsP.cons op_move ?_)
        refine OpsP.skip rfl rfl (by simp only [rdF, rd_none, rd_same, rd_ne, ne_eq, Nat.reduceEqDiff, not_false_eq_true, Nat.reduceLT]; rfl) ?_
        refine OpsP.cons (op_pick_false (by simp only [rdF, rd_none, rd_same, rd_ne, ne_eq, Nat.reduceEqDiff, not_false_eq_true, Nat.reduceLT])) (OpsP.cons op_assign (OpsP.nil ?_))
        refine EvP.ret ⟨rfl, hkeep, ?_⟩
        simp only [rdF, rd_none, rd_same, rd_ne, ne_eq, Nat.reduceEqDiff, not_false_eq_true, Nat.reduceLT]
        simp [mayV] at hp ⊢
        omega
      | true =>
        refine OpsP.want rfl rfl (by simp only [rdF, rd_none, rd_same, rd_ne, ne_eq, Nat.reduceEqDiff, not_false_eq_true, Nat.reduceLT]) (op_field (v := .pointer (some ⟨σ.next, 2, none⟩)) (by simp only [rdF, rd_none, rd_same, rd_ne, ne_eq, Nat.reduceEqDiff, not_false_eq_true, Nat.reduceLT, g1, fa226_2])) ?_
        refine OpsP.want rfl rfl (by simp only [rdF, rd_none, rd_same, rd_ne, ne_eq, Nat.reduceEqDiff, not_false_eq_true, Nat.reduceLT]) (op_load (v := .int .i64 p) (by simp only [rdF, rd_none, rd_same, rd_ne, ne_eq, Nat.reduceEqDiff, not_false_eq_true, Nat.reduceLT]; rw [load3 hb]; rfl)) ?_
        refine OpsP.want rfl rfl (by simp only [rdF, rd_none, rd_same, rd_ne, ne_eq, Nat.reduceEqDiff, not_false_eq_true, Nat.reduceLT]) (op_bin (v := .bool (decide (p ≤ 7))) (by simp only [rdF, rd_none, rd_same, rd_ne, ne_eq, Nat.reduceEqDiff, not_false_eq_true, Nat.reduceLT, binA_leq])) ?_
        refine OpsP.cons (op_pick_true (by simp only [rdF, rd_none, rd_same, rd_ne, ne_eq, Nat.reduceEqDiff, not_false_eq_true, Nat.reduceLT])) (OpsP.cons op_move ?_)
        cases hp7 : decide (p ≤ 7) with
        | false =>
          refine OpsP.skip rfl rfl (by simp only [rdF, rd_none, rd_same, rd_ne, ne_eq, Nat.reduceEqDiff, not_false_eq_true, Nat.reduceLT, hp7]; rfl) ?_
          refine OpsP.cons (op_pick_false (by simp only [rdF, rd_none, rd_same, rd_ne, ne_eq, Nat.reduceEqDiff, not_false_eq_true, Nat.reduceLT, hp7])) (OpsP.cons op_assign (OpsP.nil ?_))
          refine EvP.ret ⟨rfl, hkeep, ?_⟩
          simp only [rdF, rd_none, rd_same, rd_ne, ne_eq, Nat.reduceEqDiff, not_false_eq_true, Nat.reduceLT]
          simp [mayV] at hp7 ⊢
          omega
        | true =>
          refine OpsP.want rfl rfl (by simp only [rdF, rd_none, rd_same, rd_ne, ne_eq, Nat.reduceEqDiff, not_false_eq_true, Nat.reduceLT, hp7]) op_move ?_
          refine OpsP.cons (op_pick_true (by simp only [rdF, rd_none, rd_same, rd_ne, ne_eq, Nat.reduceEqDiff, not_false_eq_true, Nat.reduceLT, hp7])) (OpsP.cons op_assign (OpsP.nil ?_))
          refine EvP.ret ⟨rfl, hkeep, ?_⟩
          simp only [rdF, rd_none, rd_same, rd_ne, ne_eq, Nat.reduceEqDiff, not_false_eq_true, Nat.reduceLT, g3]
          simp [mayV, hp, hp7]
    · refine EvP.cond_false (by simp only [rdF, rd_none, rd_same, rd_ne, ne_eq, Nat.reduceEqDiff, not_false_eq_true, Nat.reduceLT]; rfl) (EvP.seq (EvP.region ?_))
      refine OpsP.cons (op_bin (v := .bool false) (by simp only [rdF, rd_none, rd_same, rd_ne, ne_eq, Nat.reduceEqDiff, not_false_eq_true, Nat.reduceLT, binA_eql]; rfl)) (OpsP.cons op_assign (OpsP.nil ?_))
      refine EvP.cond_false (by simp only [rdF, rd_none, rd_same, rd_ne, ne_eq, Nat.reduceEqDiff, not_false_eq_true, Nat.reduceLT]) (EvP.seq (EvP.seq (EvP.region ?_)))
      refine OpsP.cons (op_bin (v := .bool false) (by simp only [rdF, rd_none, rd_same, rd_ne, ne_eq, Nat.reduceEqDiff, not_false_eq_true, Nat.reduceLT, binA_eql]; rfl)) (OpsP.cons op_assign (OpsP.nil ?_))
      refine EvP.cond_false (by simp only [rdF, rd_none, rd_same, rd_ne, ne_eq, Nat.reduceEqDiff, not_false_eq_true, Nat.reduceLT]) (EvP.region ?_)
      refine OpsP.cons (op_bin (v := .bool true) (by simp only [rdF, rd_none, rd_same, rd_ne, ne_eq, Nat.reduceEqDiff, not_false_eq_true, Nat.reduceLT, binA_eql]; rfl)) (OpsP.cons op_assign (OpsP.nil ?_))
      refine EvP.cond_true (by simp only [rdF, rd_none, rd_same, rd_ne, ne_eq, Nat.reduceEqDiff, not_false_eq_true, Nat.reduceLT]) (EvP.seq (EvP.region ?_))
      refine OpsP.cons (op_field (v := .pointer (some ⟨σ.next, 2, none⟩)) (by simp only [rdF, rd_none, rd_same, rd_ne, ne_eq, Nat.reduceEqDiff, not_false_eq_true, Nat.reduceLT, g1, fa226_2])) ?_
      refine OpsP.cons (op_load (v := .int .i64 p) (by simp only [rdF, rd_none, rd_same, rd_ne, ne_eq, Nat.reduceEqDiff, not_false_eq_true, Nat.reduceLT]; rw [load3 hb]; rfl)) ?_
      refine OpsP.cons (op_bin (v := .bool (decide (p ≥ 1))) (by simp only [rdF, rd_none, rd_same, rd_ne, ne_eq, Nat.reduceEqDiff, not_false_eq_true, Nat.reduceLT, binA_geq])) ?_
      refine OpsP.cons op_move ?_
      cases hp : decide (p ≥ 1) with
      | false =>
        refine OpsP.skip rfl rfl (by simp only [rdF, rd_none, rd_same, rd_ne, ne_eq, Nat.reduceEqDiff, not_false_eq_true, Nat.reduceLT]; rfl) ?_
        refine OpsP.skip rfl rfl (by simp only [rdF, rd_none, rd_same, rd_ne, ne_eq, Nat.reduceEqDiff, not_false_eq_true, Nat.reduceLT]; rfl) ?_
        refine OpsP.skip rfl rfl (by simp only [rdF, rd_none, rd_same, rd_ne, ne_eq, Nat.reduceEqDiff, not_false_eq_true, Nat.reduceLT]; rfl) ?_
        refine OpsP.cons (op_pick_false (by simp only [rdF, rd_none, rd_same, rd_ne, ne_eq, Nat.reduceEqDiff, not_false_eq_true, Nat.reduceLT])) (OpsP.cons op_move ?_)
        refine OpsP.skip rfl rfl (by simp only [rdF, rd_none, rd_same, rd_ne, ne_eq, Nat.reduceEqDiff, not_false_eq_true, Nat.reduceLT]; rfl) ?_
        refine OpsP.cons (op_pick_false (by simp only [rdF, rd_none, rd_same, rd_ne, ne_eq, Nat.reduceEqDiff, not_false_eq_true, Nat.reduceLT])) (OpsP.cons op_assign (OpsP.nil ?_))
        refine EvP.ret ⟨rfl, hkeep, ?_⟩
        simp only [rdF, rd_none, rd_same, rd_ne, ne_eq, Nat.reduceEqDiff, not_false_eq_true, Nat.reduceLT]
        simp [mayV] at hp ⊢
        omega
      | true =>
        refine OpsP.want rfl rfl (by simp only [rdF, rd_none, rd_same, rd_ne, ne_eq, Nat.reduceEqDiff, not_false_eq_true, Nat.reduceLT]) (op_field (v := .pointer (some ⟨σ.next, 2, none⟩)) (by simp only [rdF, rd_none, rd_same, rd_ne, ne_eq, Nat.reduceEqDiff, not_false_eq_true, Nat.reduceLT, g1, fa226_2])) ?_
        refine OpsP.want rfl rfl (by simp only [rdF, rd_none, rd_same, rd_ne, ne_eq, Nat.reduceEqDiff, not_false_eq_true, Nat.reduceLT]) (op_load (v := .int .i64 p) (by simp only [rdF, rd_none, rd_same, rd_ne, ne_eq, Nat.reduceEqDiff, not_false_eq_true, Nat.reduceLT]; rw [load3 hb]; rfl)) ?_
        refine OpsP.want rfl rfl (by simp only [rdF, rd_none, rd_same, rd_ne, ne_eq, Nat.reduceEqDiff, not_false_eq_true, Nat.reduceLT]) (op_bin (v := .bool (decide (p ≤ 7))) (by simp only [rdF, rd_none, rd_same, rd_ne, ne_eq, Nat.reduceEqDiff, not_false_eq_true, Nat.reduceLT, binA_leq])) ?_
        refine OpsP.cons (op_pick_true (by simp only [rdF, rd_none, rd_same, rd_ne, ne_eq, Nat.reduceEqDiff, not_false_eq_true, Nat.reduceLT])) (OpsP.cons op_move ?_)
        cases hp7 : decide (p ≤ 7) with
        | false =>
          refine OpsP.skip rfl rfl (by simp only [rdF, rd_none, rd_same, rd_ne, ne_eq, Nat.reduceEqDiff, not_false_eq_true, Nat.reduceLT, hp7]; rfl) ?_
          refine OpsP.cons (op_pick_false (by simp only [rdF, rd_none, rd_same, rd_ne, ne_eq, Nat.reduceEqDiff, not_false_eq_true, Nat.reduceLT, hp7])) (OpsP.cons op_assign (OpsP.nil ?_))
          refine EvP.ret ⟨rfl, hkeep, ?_⟩
          simp only [rdF, rd_none, rd_same, rd_ne, ne_eq, Nat.reduceEqDiff, not_false_eq_true, Nat.reduceLT]
          simp [mayV] at hp7 ⊢
          omega
        | true =>
          refine OpsP.want rfl rfl (by simp only [rdF, rd_none, rd_same, rd_ne, ne_eq, Nat.reduceEqDiff, not_false_eq_true, Nat.reduceLT, hp7]) op_move ?_
          refine OpsP.cons (op_pick_true (by simp only [rdF, rd_none, rd_same, rd_ne, ne_eq, Nat.reduceEqDiff, not_false_eq_true, Nat.reduceLT, hp7])) (OpsP.cons op_assign (OpsP.nil ?_))
          refine EvP.ret ⟨rfl, hkeep, ?_⟩
          simp only [rdF, rd_none, rd_same, rd_ne, ne_eq, Nat.reduceEqDiff, not_false_eq_true, Nat.reduceLT, g3]
          simp [mayV, hp, hp7]
end Go.Proofs.YtfffmmgmjlfkoaaGreat
