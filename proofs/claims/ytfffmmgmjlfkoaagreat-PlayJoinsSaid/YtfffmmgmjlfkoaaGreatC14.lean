/- What a slot is as a word: the walk of slot.Put. -/
import Derived.Test.YtfffmmgmjlfkoaaGreatC13
namespace Go.Proofs.YtfffmmgmjlfkoaaGreat
set_option linter.unusedSimpArgs false
set_option linter.unusedVariables false
open Go.As

theorem binA_shl {P : Program} {t : TypeId} {xo yo : Operand} {k : IntKind} {a b : Int} (hb : 0 ≤ b) : binA P .shl t xo yo (.int k a) (.int k b) = some (.int k (k.wrap (a * 2 ^ min b.toNat k.bits))) :=
  binA_int (by simp [binOp, Op.shift, Int.not_lt.2 hb]) rfl
theorem binA_or {P : Program} {t : TypeId} {xo yo : Operand} {k : IntKind} {a b : Int} : binA P .or t xo yo (.int k a) (.int k b) = some (.int k (k.wrap (BitVec.ofInt k.bits a ||| BitVec.ofInt k.bits b).toNat)) :=
  binA_int (by simp [binOp, Op.intBits]) rfl

theorem may_ok {σ : St} {k f p : Int} (hk : (k = 0 ∧ f = 0 ∧ p = 0) ∨ k = 1 ∨ k = 2 ∨ k = 3) : Callable Tryz.prog 217 ∧ CallsA Tryz.prog 217 [sl k f p] σ (.bool (mayV k f p)) σ := by
  have h := call_of_evP (noK_ok _) mixed (fn := Tryz.f217) (n := 3) (args := [sl k f p]) (R := fun v σ' => v = .bool (mayV k f p) ∧ Keeps σ σ') Tryz.func217 mayCode_eq (by kernel_rfl) (by show 1 ≤ 41; omega)
    ((may_walk (σ := σ) hk).mono fun e t σ' ⟨h1, h2, h3⟩ => ⟨.inl h1, [.bool (mayV k f p)], by rw [← h3]; rfl, rfl, h2⟩)
  obtain ⟨v, σ', ⟨rfl, hkp⟩, h1, h2⟩ := h
  exact ⟨h1, h2.keep (disc_back rfl rfl) (fun b o hb ho => by rw [hkp.get b hb]; exact ho)⟩

/-- slot.Put. -/
def orV (a b : Int) : Int := IntKind.u64.wrap (BitVec.ofInt IntKind.u64.bits a ||| BitVec.ofInt IntKind.u64.bits b).toNat
def shlV (a : Int) (n : Nat) : Int := IntKind.u64.wrap (a * 2 ^ min n IntKind.u64.bits)
def putV (k f p : Int) : Int :=
  match mayV k f p with
  | true => orV (orV (IntKind.u64.wrap k) (shlV (IntKind.u64.wrap p) 2)) (shlV (IntKind.u64.wrap f) 12)
  | false => 0

noncomputable def putCode : Code := match Tryz.f157.body with | some c => c | none => .skip
theorem putCode_eq : Tryz.f157.body = some putCode := by kernel_rfl
theorem conv326 {rd : Nat → Option AObj} {n : Int} : convA Tryz.prog rd 3 26 (.int .i64 n) = some (.int .u64 (IntKind.u64.wrap n)) := by
  simp only [convA, Tryz.underlying3, Tryz.underlying26]
theorem not_false : unA Tryz.prog .not (.bool false) = some (.bool true) := by kernel_rfl

set_option maxRecDepth 8000 in
theorem put_walk {K : Kn} {σ : St} {k f p : Int} (hK : ∀ σ' : St, K 217 [sl k f p] σ' = some (.bool (mayV k f p), σ')) :
    EvP Tryz.prog K 3 19 putCode (fill .nil 0 [sl k f p]) σ fun e t' σ' => e = .ret ∧ Keeps σ σ' ∧ rdT 19 t' 2 = .int .u64 (putV k f p) := by
  have f0 : rdT 19 (fill .nil 0 [sl k f p]) 0 = sl k f p := rfl
  generalize fill .nil 0 [sl k f p] = t at f0
  unfold putCode Tryz.f157
  refine EvP.seq (EvP.region ?_)
  refine OpsP.cons (op_makes rfl (box226 (k := k) (f := f) (p := p) ?_)) (OpsP.cons op_assign (OpsP.nil ?_))
  · simp only [rdF, rd_none, rd_same, rd_ne, ne_eq, Nat.reduceEqDiff, not_false_eq_true, Nat.reduceLT, f0]
  have hkeep : Keeps σ (σ.at σ.next (.cells [.int .i64 k, .int .i64 f, .int .i64 p] 226 .ex) (σ.next + 1)) := (Keeps.refl σ).add _
  have hb : (σ.at σ.next (.cells [.int .i64 k, .int .i64 f, .int .i64 p] 226 .ex) (σ.next + 1)).get σ.next = some (.cells [.int .i64 k, .int .i64 f, .int .i64 p] 226 .ex) := by rw [St.get_at, if_pos rfl]
  generalize (σ.at σ.next (.cells [.int .i64 k, .int .i64 f, .int .i64 p] 226 .ex) (σ.next + 1)) = σ1 at hkeep hb
  refine EvP.seq (EvP.seq (EvP.region ?_))
  refine OpsP.cons (op_load (v := sl k f p) (by simp only [rdF, rd_none, rd_same, rd_ne, ne_eq, Nat.reduceEqDiff, not_false_eq_true, Nat.reduceLT]; exact load226 hb)) ?_
  refine OpsP.cons (op_writes (v := .bool (mayV k f p)) (σ' := σ1) rfl ?_) ?_
  · simp only [writesA, List.map_cons, List.map_nil, List.append_nil, rdF, rd_none, rd_same, rd_ne, ne_eq, Nat.reduceEqDiff, not_false_eq_true, Nat.reduceLT]
    exact hK σ1
  cases hm : mayV k f p with
  | false =>
    refine OpsP.cons (op_silent (v := .bool true) rfl (by simp only [silentA, rdF, rd_none, rd_same, rd_ne, ne_eq, Nat.reduceEqDiff, not_false_eq_true, Nat.reduceLT, not_false])) (OpsP.nil ?_)
    refine EvP.cond_true (by simp only [rdF, rd_none, rd_same, rd_ne, ne_eq, Nat.reduceEqDiff, not_false_eq_true, Nat.reduceLT]) (EvP.seq (EvP.region ?_))
    refine OpsP.cons op_assign (OpsP.nil ?_)
    refine EvP.ret ⟨rfl, hkeep, ?_⟩
    simp only [rdF, rd_none, rd_same, rd_ne, ne_eq, Nat.reduceEqDiff, not_false_eq_true, Nat.reduceLT]
    simp [putV, hm]
  | true =>
    refine OpsP.cons (op_silent (v := .bool false) rfl (by simp only [silentA, rdF, rd_none, rd_same, rd_ne, ne_eq, Nat.reduceEqDiff, not_false_eq_true, Nat.reduceLT, not_true])) (OpsP.nil ?_)
    refine EvP.cond_false (by simp only [rdF, rd_none, rd_same, rd_ne, ne_eq, Nat.reduceEqDiff, not_false_eq_true, Nat.reduceLT]) (EvP.skip ?_)
    refine EvP.seq (EvP.region ?_)
    refine OpsP.cons (op_field (v := .pointer (some ⟨σ.next, 0, none⟩)) (by simp only [rdF, rd_none, rd_same, rd_ne, ne_eq, Nat.reduceEqDiff, not_false_eq_true, Nat.reduceLT, fa226_0])) ?_
    refine OpsP.cons (op_load (v := .int .i64 k) (by simp only [rdF, rd_none, rd_same, rd_ne, ne_eq, Nat.reduceEqDiff, not_false_eq_true, Nat.reduceLT]; rw [load3 hb]; rfl)) ?_
    refine OpsP.cons (op_silent (v := .int .u64 (IntKind.u64.wrap k)) rfl (by simp only [silentA, rdF, rd_none, rd_same, rd_ne, ne_eq, Nat.reduceEqDiff, not_false_eq_true, Nat.reduceLT, conv326])) ?_
    refine OpsP.cons (op_field (v := .pointer (some ⟨σ.next, 2, none⟩)) (by simp only [rdF, rd_none, rd_same, rd_ne, ne_eq, Nat.reduceEqDiff, not_false_eq_true, Nat.reduceLT, fa226_2])) ?_
    refine OpsP.cons (op_load (v := .int .i64 p) (by simp only [rdF, rd_none, rd_same, rd_ne, ne_eq, Nat.reduceEqDiff, not_false_eq_true, Nat.reduceLT]; rw [load3 hb]; rfl)) ?_
    refine OpsP.cons (op_silent (v := .int .u64 (IntKind.u64.wrap p)) rfl (by simp only [silentA, rdF, rd_none, rd_same, rd_ne, ne_eq, Nat.reduceEqDiff, not_false_eq_true, Nat.reduceLT, conv326])) ?_
    refine OpsP.cons (op_bin (v := .int .u64 (shlV (IntKind.u64.wrap p) 2)) (by simp only [rdF, rd_none, rd_same, rd_ne, ne_eq, Nat.reduceEqDiff, not_false_eq_true, Nat.reduceLT]; exact binA_shl (by decide))) ?_
    refine OpsP.cons (op_bin (v := .int .u64 (orV (IntKind.u64.wrap k) (shlV (IntKind.u64.wrap p) 2))) (by simp only [rdF, rd_none, rd_same, rd_ne, ne_eq, Nat.reduceEqDiff, not_false_eq_true, Nat.reduceLT]; exact binA_or)) ?_
    refine OpsP.cons (op_field (v := .pointer (some ⟨σ.next, 1, none⟩)) (by simp only [rdF, rd_none, rd_same, rd_ne, ne_eq, Nat.reduceEqDiff, not_false_eq_true, Nat.reduceLT, fa226_1])) ?_
    refine OpsP.cons (op_load (v := .int .i64 f) (by simp only [rdF, rd_none, rd_same, rd_ne, ne_eq, Nat.reduceEqDiff, not_false_eq_true, Nat.reduceLT]; rw [load3 hb]; rfl)) ?_
    refine OpsP.cons (op_silent (v := .int .u64 (IntKind.u64.wrap f)) rfl (by simp only [silentA, rdF, rd_none, rd_same, rd_ne, ne_eq, Nat.reduceEqDiff, not_false_eq_true, Nat.reduceLT, conv326])) ?_
    refine OpsP.cons (op_bin (v := .int .u64 (shlV (IntKind.u64.wrap f) 12)) (by simp only [rdF, rd_none, rd_same, rd_ne, ne_eq, Nat.reduceEqDiff, not_false_eq_true, Nat.reduceLT]; exact binA_shl (by decide))) ?_
    refine OpsP.cons (op_bin (v := .int .u64 (orV (orV (IntKind.u64.wrap k) (shlV (IntKind.u64.wrap p) 2)) (shlV (IntKind.u64.wrap f) 12))) (by simp only [rdF, rd_none, rd_same, rd_ne, ne_eq, Nat.reduceEqDiff, not_false_eq_true, Nat.reduceLT]; exact binA_or)) ?_
    refine OpsP.cons op_assign (OpsP.nil ?_)
    refine EvP.ret ⟨rfl, hkeep, ?_⟩
    simp only [rdF, rd_none, rd_same, rd_ne, ne_eq, Nat.reduceEqDiff, not_false_eq_true, Nat.reduceLT]
    simp [putV, hm]
end Go.Proofs.YtfffmmgmjlfkoaaGreat
