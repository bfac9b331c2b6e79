/- Where a number stands in a row: the walk of slices.Index and of slices.Contains, at rows of ints. -/
import Derived.Test.YtfffmmgmjlfkoaaGreatC3
namespace Go.Proofs.YtfffmmgmjlfkoaaGreat
set_option linter.unusedSimpArgs false
set_option linter.unusedVariables false
open Go.As

def idxFrom : List Int → Int → Nat → Int
  | [], _, _ => -1
  | x :: l, k, i => if k = x then (i : Int) else idxFrom l k (i + 1)

theorem idxFrom_ge : ∀ (l : List Int) (k : Int) (i : Nat), decide (idxFrom l k i ≥ 0) = l.contains k
  | [], k, i => by simp [idxFrom]
  | x :: l, k, i => by
    rw [List.contains_cons]
    by_cases h : k = x
    · have e : idxFrom (x :: l) k i = (i : Int) := if_pos h
      have h1 : (k == x) = true := by simpa using h
      rw [h1, Bool.true_or, decide_eq_true_eq, e]
      omega
    · have e : idxFrom (x :: l) k i = idxFrom l k (i + 1) := if_neg h
      have : (k == x) = false := by simpa using h
      rw [this, Bool.false_or, ← idxFrom_ge l k (i + 1)]
      simp only [e]

noncomputable def idxCode : Code := match Tryz.f109.body with | some c => c | none => .skip
theorem idxCode_eq : Tryz.f109.body = some idxCode := by kernel_rfl
noncomputable def conCode : Code := match Tryz.f75.body with | some c => c | none => .skip
theorem conCode_eq : Tryz.f75.body = some conCode := by kernel_rfl

theorem i3' : ∃ it, Tryz.prog.info? 3 = some it ∧ it.size = 1 := by
  have h0 : (Tryz.prog.info? 3).map (·.size) = some 1 := by kernel_rfl
  cases h : Tryz.prog.info? 3 with
  | none => rw [h] at h0; cases h0
  | some it => rw [h] at h0; exact ⟨it, rfl, by simpa using h0⟩

theorem ix57 {b off n c i : Nat} (hi : i < n) : indexAddrA Tryz.prog 57 (.slice (some ⟨b, off, none⟩) n c) (.int .i64 (i : Int)) = some (.pointer (some ⟨b, off + i, none⟩)) := by
  obtain ⟨it, h1, h2⟩ := i3'
  simp only [indexAddrA, intOfV, Tryz.underlying57, h1, h2]
  rw [if_pos ⟨by omega, by omega⟩]
  simp [Addr.add]

theorem len57 {ρ : Operand → Value} {rd : Nat → Option AObj} {dst : Option Tmp} {ty : TypeId} {pos : String} {af : Array Edge} {g : Option (Nat × Bool)} {x : Operand} {o : Option Addr} {n c : Nat} (hx : ρ x = .slice o n c) :
    silentA Tryz.prog ρ rd ⟨dst, .call ⟨.builtin .len, #[x], #[57]⟩, ty, pos, af, g⟩ = some (.int .i64 n) := by
  show builtinA Tryz.prog rd .len #[57] [ρ x] = _
  rw [hx]
  have h57 : (#[57] : Array TypeId)[0]? = some 57 := rfl
  simp only [builtinA, h57, lenA, Tryz.underlying57]

theorem idx_walk {σ : St} {b off n c : Nat} {cs : List Value} {e : TypeId} {kd : Kd} {xs : List Int} {k : Int} {N : Nat} (hb : σ.get b = some (.cells cs e kd)) (hx : ∀ i x, xs[i]? = some x → cs[off + i]? = some (.int .i64 x)) (hn : xs.length = n) (hs : n < 1000000) (hN : n < N) :
    EvP Tryz.prog noK N 19 idxCode (fill .nil 0 [.slice (some ⟨b, off, none⟩) n c, .int .i64 k]) σ fun e t σ' => e = .ret ∧ σ' = σ ∧ rdT 19 t 4 = .int .i64 (idxFrom xs k 0) := by
  have f0 : rdT 19 (fill .nil 0 [.slice (some ⟨b, off, none⟩) n c, .int .i64 k]) 0 = .slice (some ⟨b, off, none⟩) n c := rfl
  have f1 : rdT 19 (fill .nil 0 [.slice (some ⟨b, off, none⟩) n c, .int .i64 k]) 1 = .int .i64 k := rfl
  generalize fill .nil 0 [.slice (some ⟨b, off, none⟩) n c, .int .i64 k] = t at f0 f1
  unfold idxCode Tryz.f109
  refine EvP.seq (EvP.region ?_)
  refine OpsP.cons op_assign (OpsP.nil ?_)
  refine EvP.seq (EvP.seq (EvP.region ?_))
  refine OpsP.cons op_move (OpsP.cons (op_silent (v := .int .i64 n) rfl (len57 (o := some ⟨b, off, none⟩) (c := c) ?_)) (OpsP.cons op_move (OpsP.nil ?_)))
  · simp only [rdF, rd_none, rd_same, rd_ne, ne_eq, Nat.reduceEqDiff, not_false_eq_true, Nat.reduceLT, f0]
  refine EvP.block (EvP.loop (fun m t σ' => ∃ i : Nat, i + m = n ∧ σ' = σ ∧ rdT 19 t 0 = .slice (some ⟨b, off, none⟩) n c ∧ rdT 19 t 1 = .int .i64 k ∧ rdT 19 t 7 = .int .i64 n ∧ rdT 19 t 8 = .int .i64 i ∧ idxFrom (xs.drop i) k i = idxFrom xs k 0) ?_ (m := n) hN ?_)
  · rintro m t σ1 ⟨i, him, rfl, g0, g1, g7, g8, gr⟩
    refine EvP.seq (EvP.region ?_)
    refine OpsP.cons (op_bin (v := .bool (decide ((i : Int) < n))) ?_) (OpsP.nil ?_)
    · simp only [rdF, rd_none, rd_same, rd_ne, ne_eq, Nat.reduceEqDiff, not_false_eq_true, Nat.reduceLT, g8, g7, binA_lss]
    refine EvP.seq ?_
    cases m with
    | zero =>
      have hi : i = n := by omega
      subst hi
      refine EvP.cond_false (by simp only [rdF, rd_same, Nat.reduceLT]; simp) (EvP.exit ?_)
      refine Eq.mpr (if_pos rfl) ?_
      refine EvP.seq (EvP.region ?_)
      refine OpsP.cons op_assign (OpsP.nil ?_)
      refine EvP.ret ⟨rfl, rfl, ?_⟩
      rw [List.drop_of_length_le (by omega)] at gr
      rw [← gr]
      simp only [rdF, rd_same, Nat.reduceLT]
      rfl
    | succ m =>
      have hi : i < n := by omega
      refine EvP.cond_true (by simp only [rdF, rd_same, Nat.reduceLT]; simp; omega) (EvP.skip ?_)
      obtain ⟨x, hxi⟩ : ∃ x, xs[i]? = some x := ⟨xs[i]'(by omega), List.getElem?_eq_getElem (by omega)⟩
      have hcell := hx i x hxi
      have hdrop : xs.drop i = x :: xs.drop (i + 1) := by
        rw [List.drop_eq_getElem_cons (by omega)]
        have : xs[i]'(by omega) = x := by have := List.getElem?_eq_getElem (l := xs) (i := i) (by omega); rw [hxi] at this; exact (Option.some.inj this).symm
        rw [this]
      rw [hdrop, idxFrom] at gr
      refine EvP.seq (EvP.block (EvP.seq (EvP.region ?_)))
      refine OpsP.cons op_move (OpsP.cons op_assign (OpsP.nil ?_))
      refine EvP.seq (EvP.region ?_)
      refine OpsP.cons op_move (OpsP.cons op_move (OpsP.cons op_move ?_))
      refine OpsP.cons (op_silent (v := .pointer (some ⟨b, off + i, none⟩)) rfl ?_) ?_
      · simp only [silentA, rdF, rd_none, rd_same, rd_ne, ne_eq, Nat.reduceEqDiff, not_false_eq_true, Nat.reduceLT, g0, g8]
        exact ix57 hi
      refine OpsP.cons (op_load (v := .int .i64 x) ?_) ?_
      · simp only [rdF, rd_none, rd_same, rd_ne, ne_eq, Nat.reduceEqDiff, not_false_eq_true, Nat.reduceLT]
        rw [load3 hb, hcell]
      refine OpsP.cons (op_bin (v := .bool (k == x)) ?_) (OpsP.nil ?_)
      · simp only [rdF, rd_none, rd_same, rd_ne, ne_eq, Nat.reduceEqDiff, not_false_eq_true, Nat.reduceLT, g1, binA_eql]
      by_cases hk : k = x
      · rw [if_pos hk] at gr
        refine EvP.cond_true (by simp only [rdF, rd_same, Nat.reduceLT]; simp [hk]) ?_
        refine EvP.seq (EvP.region ?_)
        refine OpsP.cons op_move (OpsP.cons op_assign (OpsP.nil ?_))
        refine EvP.ret ⟨rfl, rfl, ?_⟩
        simp only [rdF, rd_none, rd_same, rd_ne, ne_eq, Nat.reduceEqDiff, not_false_eq_true, Nat.reduceLT, g8, gr]
      · rw [if_neg hk] at gr
        refine EvP.cond_false (by simp only [rdF, rd_same, Nat.reduceLT]; simp [hk]) (EvP.skip ?_)
        have hi1 : IntKind.i64.wrap ((i : Int) + 1) = ((i + 1 : Nat) : Int) := by rw [wrap_id (by omega) (by omega)]; omega
        refine EvP.region ?_
        refine OpsP.cons (op_bin (v := .int .i64 ((i + 1 : Nat) : Int)) ?_) (OpsP.cons op_move (OpsP.nil ?_))
        · simp only [rdF, rd_none, rd_same, rd_ne, ne_eq, Nat.reduceEqDiff, not_false_eq_true, Nat.reduceLT, g8, binA_add, hi1]
        refine ⟨m, Nat.lt_succ_self m, i + 1, by omega, rfl, ?_, ?_, ?_, ?_, gr⟩
        · simp only [rdF, rd_none, rd_same, rd_ne, ne_eq, Nat.reduceEqDiff, not_false_eq_true, Nat.reduceLT, g0]
        · simp only [rdF, rd_none, rd_same, rd_ne, ne_eq, Nat.reduceEqDiff, not_false_eq_true, Nat.reduceLT, g1]
        · simp only [rdF, rd_none, rd_same, rd_ne, ne_eq, Nat.reduceEqDiff, not_false_eq_true, Nat.reduceLT, g7]
        · simp only [rdF, rd_none, rd_same, rd_ne, ne_eq, Nat.reduceEqDiff, not_false_eq_true, Nat.reduceLT]
  · refine ⟨0, by omega, rfl, ?_, ?_, ?_, ?_, rfl⟩
    · simp only [rdF, rd_none, rd_same, rd_ne, ne_eq, Nat.reduceEqDiff, not_false_eq_true, Nat.reduceLT, f0]
    · simp only [rdF, rd_none, rd_same, rd_ne, ne_eq, Nat.reduceEqDiff, not_false_eq_true, Nat.reduceLT, f1]
    · simp only [rdF, rd_none, rd_same, rd_ne, ne_eq, Nat.reduceEqDiff, not_false_eq_true, Nat.reduceLT]
    · simp only [rdF, rd_none, rd_same, rd_ne, ne_eq, Nat.reduceEqDiff, not_false_eq_true, Nat.reduceLT]
      rfl

/-- slices.Index. -/
theorem idx_ok {σ : St} {b off n c : Nat} {cs : List Value} {e : TypeId} {kd : Kd} {xs : List Int} {k : Int} (hb : σ.get b = some (.cells cs e kd)) (hx : ∀ i x, xs[i]? = some x → cs[off + i]? = some (.int .i64 x)) (hn : xs.length = n) (hs : n < 1000000) :
    Callable Tryz.prog 109 ∧ CallsA Tryz.prog 109 [.slice (some ⟨b, off, none⟩) n c, .int .i64 k] σ (.int .i64 (idxFrom xs k 0)) σ := by
  have h := call_of_evP (noK_ok _) mixed (fn := Tryz.f109) (n := n + 1) (args := [.slice (some ⟨b, off, none⟩) n c, .int .i64 k]) (R := fun v σ' => v = .int .i64 (idxFrom xs k 0) ∧ σ' = σ) Tryz.func109 idxCode_eq (by kernel_rfl) (by show 2 ≤ 19; omega)
    ((idx_walk (c := c) (k := k) hb hx hn hs (Nat.lt_succ_self n)).mono fun e t σ' ⟨h1, h2, h3⟩ => ⟨.inl h1, [.int .i64 (idxFrom xs k 0)], by rw [← h3]; rfl, rfl, h2⟩)
  obtain ⟨v, σ', ⟨rfl, rfl⟩, h1, h2⟩ := h
  exact ⟨h1, h2⟩

/-- What is known of slices.Index. -/
noncomputable def isRow (σ : St) (v : Value) : Option (List Int) :=
  match v with
  | .slice (some ⟨b, off, none⟩) n _ =>
    match σ.get b with
    | some (.cells cs _ _) => if off + n ≤ cs.length ∧ n < 1000000 then ((cs.drop off).take n).mapM fun v => match v with | .int .i64 x => some x | _ => none else none
    | _ => none
  | .slice none 0 0 => some []
  | _ => none

/-- slices.Contains, over what slices.Index is known to tell. -/
theorem con_walk {K : Kn} {σ : St} {s : Value} {k r : Int} (hK : K 109 [s, .int .i64 k] σ = some (.int .i64 r, σ)) :
    EvP Tryz.prog K 1 9 conCode (fill .nil 0 [s, .int .i64 k]) σ fun e t σ' => e = .ret ∧ σ' = σ ∧ rdT 9 t 4 = .bool (decide (r ≥ 0)) := by
  have f0 : rdT 9 (fill .nil 0 [s, .int .i64 k]) 0 = s := rfl
  have f1 : rdT 9 (fill .nil 0 [s, .int .i64 k]) 1 = .int .i64 k := rfl
  generalize fill .nil 0 [s, .int .i64 k] = t at f0 f1
  unfold conCode Tryz.f75
  refine EvP.seq (EvP.region ?_)
  refine OpsP.cons op_assign (OpsP.nil ?_)
  refine EvP.seq (EvP.region ?_)
  refine OpsP.cons op_move (OpsP.cons op_move ?_)
  refine OpsP.cons (op_writes (v := .int .i64 r) (σ' := σ) rfl ?_) ?_
  · simp only [writesA, rdF, List.map_cons, List.map_nil, rd_none, rd_same, rd_ne, ne_eq, Nat.reduceEqDiff, not_false_eq_true, Nat.reduceLT, f0, f1, List.append_nil]
    exact hK
  refine OpsP.cons (op_bin (v := .bool (decide (r ≥ 0))) ?_) (OpsP.cons op_assign (OpsP.nil ?_))
  · simp only [rdF, rd_none, rd_same, rd_ne, ne_eq, Nat.reduceEqDiff, not_false_eq_true, Nat.reduceLT, binA_geq]
  refine EvP.ret ⟨rfl, rfl, ?_⟩
  simp only [rdF, rd_none, rd_same, rd_ne, ne_eq, Nat.reduceEqDiff, not_false_eq_true, Nat.reduceLT]
end Go.Proofs.YtfffmmgmjlfkoaaGreat
