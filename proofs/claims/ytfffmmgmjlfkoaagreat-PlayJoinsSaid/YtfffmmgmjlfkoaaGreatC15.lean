/- A part of a frame: the walk of ram.at, where it is there. -/
import Derived.Test.YtfffmmgmjlfkoaaGreatC14
namespace Go.Proofs.YtfffmmgmjlfkoaaGreat
set_option linter.unusedSimpArgs false
set_option linter.unusedVariables false
open Go.As

noncomputable def atCode : Code := match Tryz.f100.body with | some c => c | none => .skip
theorem atCode_eq : Tryz.f100.body = some atCode := by kernel_rfl
theorem nil86 {xo yo : Operand} {a : Addr} : binA Tryz.prog .eql 86 xo yo (.pointer (some a)) (.pointer none) = some (.bool false) := by kernel_rfl
theorem fa150_0 (b : Nat) : fieldAddrA Tryz.prog 150 0 (.pointer (some ⟨b, 0, none⟩)) = some (.pointer (some ⟨b, 0, none⟩)) := by kernel_rfl
theorem fa150_1 (b : Nat) : fieldAddrA Tryz.prog 150 1 (.pointer (some ⟨b, 0, none⟩)) = some (.pointer (some ⟨b, 1, none⟩)) := by kernel_rfl
theorem part148 (cs : List Value) (off : Nat) : partL Tryz.prog 148 cs off = cs[off]? := by kernel_rfl
theorem load148 {σ : St} {b off : Nat} {cs : List Value} {e : TypeId} {kd : Kd} (h : σ.get b = some (.cells cs e kd)) : loadA Tryz.prog σ.get 148 (.pointer (some ⟨b, off, none⟩)) = cs[off]? := by
  simp only [loadA, h, part148]
theorem len148 {ρ : Operand → Value} {rd : Nat → Option AObj} {dst : Option Tmp} {ty : TypeId} {pos : String} {af : Array Edge} {g : Option (Nat × Bool)} {x : Operand} {o : Option Addr} {n c : Nat} (hx : ρ x = .slice o n c) :
    silentA Tryz.prog ρ rd ⟨dst, .call ⟨.builtin .len, #[x], #[148]⟩, ty, pos, af, g⟩ = some (.int .i64 n) := by
  show builtinA Tryz.prog rd .len #[148] [ρ x] = _
  rw [hx]
  have h57 : (#[148] : Array TypeId)[0]? = some 148 := rfl
  simp only [builtinA, h57, lenA, Tryz.underlying148]
theorem nilCheck_some {a : Addr} : nilCheckA (.pointer (some a)) = some (.pointer (some a)) := rfl

theorem i270 : ∃ it, Tryz.prog.info? 270 = some it ∧ it.size = 128 := by
  have h0 : (Tryz.prog.info? 270).map (·.size) = some 128 := by kernel_rfl
  cases h : Tryz.prog.info? 270 with
  | none => rw [h] at h0; cases h0
  | some it => rw [h] at h0; exact ⟨it, rfl, by simpa using h0⟩
theorem i5 : ∃ it, Tryz.prog.info? 5 = some it ∧ it.size = 1 := by
  have h0 : (Tryz.prog.info? 5).map (·.size) = some 1 := by kernel_rfl
  cases h : Tryz.prog.info? 5 with
  | none => rw [h] at h0; cases h0
  | some it => rw [h] at h0; exact ⟨it, rfl, by simpa using h0⟩

theorem ix148 {b n c i : Nat} (hi : i < n) : indexAddrA Tryz.prog 148 (.slice (some ⟨b, 0, none⟩) n c) (.int .i64 (i : Int)) = some (.pointer (some ⟨b, i * 128, none⟩)) := by
  obtain ⟨it, h1, h2⟩ := i270
  simp only [indexAddrA, intOfV, Tryz.underlying148, h1, h2]
  rw [if_pos ⟨by omega, by omega⟩]
  simp [Addr.add]
  omega

theorem cut270 {rb a o n : Nat} (hn0 : 0 < n) (hn : o + n ≤ 128) : sliceA Tryz.prog 270 (.pointer (some ⟨rb, a, none⟩)) (some (.int .i64 (o : Int))) (some (.int .i64 ((o + n : Nat) : Int))) (some (.int .i64 ((o + n : Nat) : Int))) = some (.slice (some ⟨rb, a + o, none⟩) n n) := by
  obtain ⟨it, h1, h2⟩ := i5
  have hb : bnds 128 128 (some (.int .i64 (o : Int))) (some (.int .i64 ((o + n : Nat) : Int))) (some (.int .i64 ((o + n : Nat) : Int))) = some (o, o + n, some (o + n)) := by
    simp only [bnds, intOfV]
    rw [if_pos ⟨by omega, by omega, by omega, by omega⟩]
    simp
    omega
  simp only [sliceA, Tryz.underlying270, h1, h2, hb]
  rw [if_pos (by decide)]
  have hn' : n ≠ 0 := by omega
  simp [hn', Addr.add]

set_option maxRecDepth 8000 in
theorem at_walk {σ : St} {mb rb nf fr o n : Nat} {sec : Int} {e : TypeId} {kd : Kd} (hm : σ.get mb = some (.cells [.slice (some ⟨rb, 0, none⟩) nf nf, .int .i64 sec] e kd)) (hf : fr < nf) (hn0 : 0 < n) (hn : o + n ≤ 128) :
    EvP Tryz.prog noK 3 68 atCode (fill .nil 0 [.pointer (some ⟨mb, 0, none⟩), .bool true, .int .i64 fr, .int .i64 o, .int .i64 n]) σ fun e t' σ' => e = .ret ∧ σ' = σ ∧ rdT 68 t' 10 = .slice (some ⟨rb, fr * 128 + o, none⟩) n n := by
  have f0 : rdT 68 (fill .nil 0 [.pointer (some ⟨mb, 0, none⟩), .bool true, .int .i64 fr, .int .i64 o, .int .i64 n]) 0 = .pointer (some ⟨mb, 0, none⟩) := rfl
  have f1 : rdT 68 (fill .nil 0 [.pointer (some ⟨mb, 0, none⟩), .bool true, .int .i64 fr, .int .i64 o, .int .i64 n]) 1 = .bool true := rfl
  have f2 : rdT 68 (fill .nil 0 [.pointer (some ⟨mb, 0, none⟩), .bool true, .int .i64 fr, .int .i64 o, .int .i64 n]) 2 = .int .i64 fr := rfl
  have f3 : rdT 68 (fill .nil 0 [.pointer (some ⟨mb, 0, none⟩), .bool true, .int .i64 fr, .int .i64 o, .int .i64 n]) 3 = .int .i64 o := rfl
  have f4 : rdT 68 (fill .nil 0 [.pointer (some ⟨mb, 0, none⟩), .bool true, .int .i64 fr, .int .i64 o, .int .i64 n]) 4 = .int .i64 n := rfl
  generalize fill .nil 0 [.pointer (some ⟨mb, 0, none⟩), .bool true, .int .i64 fr, .int .i64 o, .int .i64 n] = t at f0 f1 f2 f3 f4
  have d1 : decide ((fr : Int) < 0) = false := decide_eq_false (by omega)
  have d2 : decide ((fr : Int) ≥ nf) = false := decide_eq_false (by omega)
  unfold atCode Tryz.f100
  refine EvP.seq (EvP.region ?_)
  refine OpsP.cons op_assign (OpsP.nil ?_)
  refine EvP.seq (EvP.seq (EvP.region ?_))
  refine OpsP.cons op_move ?_
  refine OpsP.cons (op_bin (v := .bool false) (by simp only [rdF, rd_none, rd_same, rd_ne, ne_eq, Nat.reduceEqDiff, not_false_eq_true, Nat.reduceLT, f0]; exact nil86)) (OpsP.cons op_move ?_)
  refine OpsP.want rfl rfl (by simp only [rdF, rd_none, rd_same, rd_ne, ne_eq, Nat.reduceEqDiff, not_false_eq_true, Nat.reduceLT]) op_move ?_
  refine OpsP.want rfl rfl (by simp only [rdF, rd_none, rd_same, rd_ne, ne_eq, Nat.reduceEqDiff, not_false_eq_true, Nat.reduceLT]) (op_bin (v := .bool false) (by simp only [rdF, rd_none, rd_same, rd_ne, ne_eq, Nat.reduceEqDiff, not_false_eq_true, Nat.reduceLT, f2, binA_lss, d1])) ?_
  refine OpsP.cons (op_pick_false (by simp only [rdF, rd_none, rd_same, rd_ne, ne_eq, Nat.reduceEqDiff, not_false_eq_true, Nat.reduceLT])) (OpsP.cons op_move ?_)
  refine OpsP.want rfl rfl (by simp only [rdF, rd_none, rd_same, rd_ne, ne_eq, Nat.reduceEqDiff, not_false_eq_true, Nat.reduceLT]) op_move ?_
  refine OpsP.want rfl rfl (by simp only [rdF, rd_none, rd_same, rd_ne, ne_eq, Nat.reduceEqDiff, not_false_eq_true, Nat.reduceLT]) op_move ?_
  refine OpsP.want rfl rfl (by simp only [rdF, rd_none, rd_same, rd_ne, ne_eq, Nat.reduceEqDiff, not_false_eq_true, Nat.reduceLT]) (op_silent (v := .pointer (some ⟨mb, 0, none⟩)) rfl (by simp only [silentA, rdF, rd_none, rd_same, rd_ne, ne_eq, Nat.reduceEqDiff, not_false_eq_true, Nat.reduceLT, f0, nilCheck_some])) ?_
  refine OpsP.want rfl rfl (by simp only [rdF, rd_none, rd_same, rd_ne, ne_eq, Nat.reduceEqDiff, not_false_eq_true, Nat.reduceLT]) (op_field (v := .pointer (some ⟨mb, 0, none⟩)) (by simp only [rdF, rd_none, rd_same, rd_ne, ne_eq, Nat.reduceEqDiff, not_false_eq_true, Nat.reduceLT, fa150_0])) ?_
  refine OpsP.want rfl rfl (by simp only [rdF, rd_none, rd_same, rd_ne, ne_eq, Nat.reduceEqDiff, not_false_eq_true, Nat.reduceLT]) (op_load (v := .slice (some ⟨rb, 0, none⟩) nf nf) (by simp only [rdF, rd_none, rd_same, rd_ne, ne_eq, Nat.reduceEqDiff, not_false_eq_true, Nat.reduceLT]; rw [load148 hm]; rfl)) ?_
  refine OpsP.want rfl rfl (by simp only [rdF, rd_none, rd_same, rd_ne, ne_eq, Nat.reduceEqDiff, not_false_eq_true, Nat.reduceLT]) (op_silent (v := .int .i64 nf) rfl (len148 (o := some ⟨rb, 0, none⟩) (c := nf) (by simp only [rdF, rd_none, rd_same, rd_ne, ne_eq, Nat.reduceEqDiff, not_false_eq_true, Nat.reduceLT]))) ?_
  refine OpsP.want rfl rfl (by simp only [rdF, rd_none, rd_same, rd_ne, ne_eq, Nat.reduceEqDiff, not_false_eq_true, Nat.reduceLT]) (op_bin (v := .bool false) (by simp only [rdF, rd_none, rd_same, rd_ne, ne_eq, Nat.reduceEqDiff, not_false_eq_true, Nat.reduceLT, f2, binA_geq, d2])) ?_
  refine OpsP.cons (op_pick_false (by simp only [rdF, rd_none, rd_same, rd_ne, ne_eq, Nat.reduceEqDiff, not_false_eq_true, Nat.reduceLT])) (OpsP.cons op_move ?_)
  refine OpsP.want rfl rfl (by simp only [rdF, rd_none, rd_same, rd_ne, ne_eq, Nat.reduceEqDiff, not_false_eq_true, Nat.reduceLT]) op_move ?_
  refine OpsP.want rfl rfl (by simp only [rdF, rd_none, rd_same, rd_ne, ne_eq, Nat.reduceEqDiff, not_false_eq_true, Nat.reduceLT]) (op_silent (v := .bool false) rfl (by simp only [silentA, rdF, rd_none, rd_same, rd_ne, ne_eq, Nat.reduceEqDiff, not_false_eq_true, Nat.reduceLT, f1, not_true])) ?_
  refine OpsP.want rfl rfl (by simp only [rdF, rd_none, rd_same, rd_ne, ne_eq, Nat.reduceEqDiff, not_false_eq_true, Nat.reduceLT]) op_move ?_
  refine OpsP.skip rfl rfl (by simp only [rdF, rd_none, rd_same, rd_ne, ne_eq, Nat.reduceEqDiff, not_false_eq_true, Nat.reduceLT]; rfl) ?_
  refine OpsP.skip rfl rfl (by simp only [rdF, rd_none, rd_same, rd_ne, ne_eq, Nat.reduceEqDiff, not_false_eq_true, Nat.reduceLT]; rfl) ?_
  refine OpsP.skip rfl rfl (by simp only [rdF, rd_none, rd_same, rd_ne, ne_eq, Nat.reduceEqDiff, not_false_eq_true, Nat.reduceLT]; rfl) ?_
  refine OpsP.skip rfl rfl (by simp only [rdF, rd_none, rd_same, rd_ne, ne_eq, Nat.reduceEqDiff, not_false_eq_true, Nat.reduceLT]; rfl) ?_
  refine OpsP.skip rfl rfl (by simp only [rdF, rd_none, rd_same, rd_ne, ne_eq, Nat.reduceEqDiff, not_false_eq_true, Nat.reduceLT]; rfl) ?_
  refine OpsP.skip rfl rfl (by simp only [rdF, rd_none, rd_same, rd_ne, ne_eq, Nat.reduceEqDiff, not_false_eq_true, Nat.reduceLT]; rfl) ?_
  refine OpsP.want rfl rfl (by simp only [rdF, rd_none, rd_same, rd_ne, ne_eq, Nat.reduceEqDiff, not_false_eq_true, Nat.reduceLT]) (op_pick_false (by simp only [rdF, rd_none, rd_same, rd_ne, ne_eq, Nat.reduceEqDiff, not_false_eq_true, Nat.reduceLT])) ?_
  refine OpsP.cons (op_pick_false (by simp only [rdF, rd_none, rd_same, rd_ne, ne_eq, Nat.reduceEqDiff, not_false_eq_true, Nat.reduceLT])) (OpsP.nil ?_)
  refine EvP.cond_false (by simp only [rdF, rd_none, rd_same, rd_ne, ne_eq, Nat.reduceEqDiff, not_false_eq_true, Nat.reduceLT]) (EvP.skip ?_)
  have d3 : decide ((o : Int) < 0) = false := decide_eq_false (by omega)
  have d4 : decide ((n : Int) < 0) = false := decide_eq_false (by omega)
  have d5 : decide ((o : Int) > 128) = false := decide_eq_false (by omega)
  have d6 : decide ((n : Int) > 128 - o) = false := decide_eq_false (by omega)
  have w1 : IntKind.i64.wrap (128 - (o : Int)) = 128 - o := wrap_id (by omega) (by omega)
  have w2 : IntKind.i64.wrap ((o : Int) + n) = ((o + n : Nat) : Int) := by rw [wrap_id (by omega) (by omega)]; omega
  refine EvP.seq (EvP.seq (EvP.region ?_))
  refine OpsP.cons op_move (OpsP.cons (op_bin (v := .bool false) (by simp only [rdF, rd_none, rd_same, rd_ne, ne_eq, Nat.reduceEqDiff, not_false_eq_true, Nat.reduceLT, f3, binA_lss, d3])) (OpsP.cons op_move ?_))
  refine OpsP.want rfl rfl (by simp only [rdF, rd_none, rd_same, rd_ne, ne_eq, Nat.reduceEqDiff, not_false_eq_true, Nat.reduceLT]) op_move ?_
  refine OpsP.want rfl rfl (by simp only [rdF, rd_none, rd_same, rd_ne, ne_eq, Nat.reduceEqDiff, not_false_eq_true, Nat.reduceLT]) (op_bin (v := .bool false) (by simp only [rdF, rd_none, rd_same, rd_ne, ne_eq, Nat.reduceEqDiff, not_false_eq_true, Nat.reduceLT, f4, binA_lss, d4])) ?_
  refine OpsP.cons (op_pick_false (by simp only [rdF, rd_none, rd_same, rd_ne, ne_eq, Nat.reduceEqDiff, not_false_eq_true, Nat.reduceLT])) (OpsP.cons op_move ?_)
  refine OpsP.want rfl rfl (by simp only [rdF, rd_none, rd_same, rd_ne, ne_eq, Nat.reduceEqDiff, not_false_eq_true, Nat.reduceLT]) op_move ?_
  refine OpsP.want rfl rfl (by simp only [rdF, rd_none, rd_same, rd_ne, ne_eq, Nat.reduceEqDiff, not_false_eq_true, Nat.reduceLT]) (op_bin (v := .bool false) (by simp only [rdF, rd_none, rd_same, rd_ne, ne_eq, Nat.reduceEqDiff, not_false_eq_true, Nat.reduceLT, f3, binA_gtr, d5])) ?_
  refine OpsP.cons (op_pick_false (by simp only [rdF, rd_none, rd_same, rd_ne, ne_eq, Nat.reduceEqDiff, not_false_eq_true, Nat.reduceLT])) (OpsP.cons op_move ?_)
  refine OpsP.want rfl rfl (by simp only [rdF, rd_none, rd_same, rd_ne, ne_eq, Nat.reduceEqDiff, not_false_eq_true, Nat.reduceLT]) op_move ?_
  refine OpsP.want rfl rfl (by simp only [rdF, rd_none, rd_same, rd_ne, ne_eq, Nat.reduceEqDiff, not_false_eq_true, Nat.reduceLT]) op_move ?_
  refine OpsP.want rfl rfl (by simp only [rdF, rd_none, rd_same, rd_ne, ne_eq, Nat.reduceEqDiff, not_false_eq_true, Nat.reduceLT]) (op_bin (v := .int .i64 (128 - o)) (by simp only [rdF, rd_none, rd_same, rd_ne, ne_eq, Nat.reduceEqDiff, not_false_eq_true, Nat.reduceLT, f3, binA_sub, w1])) ?_
  refine OpsP.want rfl rfl (by simp only [rdF, rd_none, rd_same, rd_ne, ne_eq, Nat.reduceEqDiff, not_false_eq_true, Nat.reduceLT]) (op_bin (v := .bool false) (by simp only [rdF, rd_none, rd_same, rd_ne, ne_eq, Nat.reduceEqDiff, not_false_eq_true, Nat.reduceLT, f4, binA_gtr, d6])) ?_
  refine OpsP.cons (op_pick_false (by simp only [rdF, rd_none, rd_same, rd_ne, ne_eq, Nat.reduceEqDiff, not_false_eq_true, Nat.reduceLT])) (OpsP.nil ?_)
  refine EvP.cond_false (by simp only [rdF, rd_none, rd_same, rd_ne, ne_eq, Nat.reduceEqDiff, not_false_eq_true, Nat.reduceLT]) (EvP.skip ?_)
  refine EvP.seq (EvP.region ?_)
  refine OpsP.cons op_move ?_
  refine OpsP.cons (op_silent (v := .pointer (some ⟨mb, 0, none⟩)) rfl (by simp only [silentA, rdF, rd_none, rd_same, rd_ne, ne_eq, Nat.reduceEqDiff, not_false_eq_true, Nat.reduceLT, f0, nilCheck_some])) ?_
  refine OpsP.cons (op_field (v := .pointer (some ⟨mb, 0, none⟩)) (by simp only [rdF, rd_none, rd_same, rd_ne, ne_eq, Nat.reduceEqDiff, not_false_eq_true, Nat.reduceLT, fa150_0])) ?_
  refine OpsP.cons (op_load (v := .slice (some ⟨rb, 0, none⟩) nf nf) (by simp only [rdF, rd_none, rd_same, rd_ne, ne_eq, Nat.reduceEqDiff, not_false_eq_true, Nat.reduceLT]; rw [load148 hm]; rfl)) ?_
  refine OpsP.cons op_move ?_
  refine OpsP.cons (op_silent (v := .pointer (some ⟨rb, fr * 128, none⟩)) rfl (by simp only [silentA, rdF, rd_none, rd_same, rd_ne, ne_eq, Nat.reduceEqDiff, not_false_eq_true, Nat.reduceLT, f2]; exact ix148 hf)) ?_
  refine OpsP.cons op_move (OpsP.cons op_move (OpsP.cons op_move ?_))
  refine OpsP.cons (op_bin (v := .int .i64 ((o + n : Nat) : Int)) (by simp only [rdF, rd_none, rd_same, rd_ne, ne_eq, Nat.reduceEqDiff, not_false_eq_true, Nat.reduceLT, f3, f4, binA_add, w2])) ?_
  refine OpsP.cons op_move (OpsP.cons op_move ?_)
  refine OpsP.cons (op_bin (v := .int .i64 ((o + n : Nat) : Int)) (by simp only [rdF, rd_none, rd_same, rd_ne, ne_eq, Nat.reduceEqDiff, not_false_eq_true, Nat.reduceLT, f3, f4, binA_add, w2])) ?_
  refine OpsP.cons (op_silent (v := .slice (some ⟨rb, fr * 128 + o, none⟩) n n) rfl (by simp only [silentA, rdF, rd_none, rd_same, rd_ne, ne_eq, Nat.reduceEqDiff, not_false_eq_true, Nat.reduceLT, Option.map_some, f3]; exact cut270 hn0 hn)) ?_
  refine OpsP.cons op_assign (OpsP.nil ?_)
  refine EvP.ret ⟨rfl, rfl, ?_⟩
  simp only [rdF, rd_none, rd_same, rd_ne, ne_eq, Nat.reduceEqDiff, not_false_eq_true, Nat.reduceLT]
end Go.Proofs.YtfffmmgmjlfkoaaGreat
