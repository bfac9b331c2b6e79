/- A map of its own: the walk. -/
import Derived.Test.YtfffmmgmjlfkoaaGreatC1
import Derived.Test.YtfffmmgmjlfkoaaGreatA28
namespace Go.Proofs.YtfffmmgmjlfkoaaGreat
set_option linter.unusedSimpArgs false
set_option linter.unusedVariables false
open Go.As

theorem mixed : Tryz.prog.follows .mixedOrders = true := by kernel_rfl

noncomputable def twBody : Code := match Tryz.f71.body with | some (.seq _ (.seq _ (.seq (.seq _ (.block _ (.loop c))) _))) => c | _ => .skip
noncomputable def twR4 : List Oper := match twBody with | .seq _ (.seq _ (.block _ (.seq (.region _ o _) _))) => o.toList.tail | _ => []
noncomputable def twRest : Code := match twBody with | .seq _ (.seq _ (.block _ (.seq _ r))) => r | _ => .skip
noncomputable def twS : Shape := ⟨8, 9, 10, 11, 0, 1, 3, 4, 0, 4, 0, "graft.go:145", "graft.go:145", "graft.go:145", #[], #[⟨0, .data⟩], #[], twR4, twRest⟩
theorem twS_code : twS.code = twBody := by kernel_rfl
theorem twS_tail : ∀ o, o ∈ twS.tail → operOk o = true := by
  have : twS.tail.all operOk = true := by kernel_rfl
  exact fun o ho => List.all_eq_true.1 this o ho
theorem twS_rest : codeOk twS.rest = true := by kernel_rfl

theorem load110 {σ : St} {b : Nat} {a c : Int} (h : σ.get b = some (.cells [.int .i64 a, .int .i64 c] 110 .ex)) : loadA Tryz.prog σ.get 110 (.pointer (some ⟨b, 0, none⟩)) = some (lf a c) := by
  simp only [loadA, h]
  kernel_rfl

theorem update170 {σ : St} {r : Nat} {es : List (Int × Value)} {n : Int} {a b : Int} (h : σ.get r = some (.map .i64 es)) : mapUpdateA Tryz.prog 170 (.map (some r)) (.int .i64 n) (lf a b) σ = some (σ.put r (.map .i64 (upsert es n (lf a b)))) := by
  simp only [mapUpdateA, Tryz.underlying170, Tryz.underlying3, h, if_true]

theorem lk_none_of {es : List (Int × Value)} {n : Int} (h : n ∉ es.map (·.1)) : lk es n = none := by
  induction es with
  | nil => rfl
  | cons p es ih =>
    obtain ⟨m, v⟩ := p
    simp only [List.map_cons, List.mem_cons, not_or] at h
    simp only [lk]
    rw [if_neg (Ne.symm h.1)]
    exact ih h.2

/-- What holds ahead of each round of twin's loop. -/
structure TwInv (bo bi : Nat) (old : Nat → Option AObj) (done : List (Int × Value)) (T : List Value) (σ : St) : Prop where
  len : T.length = 18
  out : T.getD 3 undef = .map (some bo)
  it : T.getD 8 undef = .pointer (some ⟨bi, 0, none⟩)
  obj : σ.get bo = some (.map .i64 done)
  lt : bo < bi ∧ bi < σ.next
  keep : ∀ b, b < bo → σ.get b = old b

theorem TR.of_list (T : List Value) : TR T.length T (fill .nil 0 T) := by
  refine ⟨rfl, fun i => ?_⟩
  simp only [rdT_eq, fill_get, Nat.zero_le, true_and, Nat.zero_add, Nat.sub_zero, List.getD_eq_getElem?_getD]
  by_cases h : i < T.length
  · simp [h]
  · simp [h]

theorem tw_body {bo bi : Nat} {old : Nat → Option AObj} {done : List (Int × Value)} {T : List Value} {σ : St} {n : Int} {v : Value} (hI : TwInv bo bi old done T σ) (hv : isLf v) (hn : n ∉ done.map (·.1)) :
    ∃ T1 σ1 T2 σ2, evOps Tryz.prog noK (⟨some twS.d3, .entry (.tmp twS.it), twS.ty3, twS.p3, twS.af3, none⟩ :: twS.tail).toArray twS.tail (((T.set twS.d1 (.tuple #[.bool true, .int .i64 n, v])).set twS.d2 (.bool true)).set twS.d3 (.tuple #[.int .i64 n, v])) σ = some (T1, σ1) ∧
      (ev Tryz.prog (evRegB Tryz.prog) noK 5 twS.rest).1 T1 σ1 = some (.normal, T2, σ2) ∧ TwInv bo bi old (done ++ [(n, v)]) T2 σ2 := by
  obtain ⟨a, b, rfl⟩ := hv
  have key : ∀ (T3 : List Value), T3.length = 18 → T3.getD 3 undef = .map (some bo) → T3.getD 8 undef = .pointer (some ⟨bi, 0, none⟩) → T3.getD 11 undef = .tuple #[.int .i64 n, lf a b] →
      OpsP Tryz.prog noK (⟨some twS.d3, .entry (.tmp twS.it), twS.ty3, twS.p3, twS.af3, none⟩ :: twS.tail).toArray 18 twS.tail (fill .nil 0 T3) σ fun t1 σ1 => EvP Tryz.prog noK 5 18 twS.rest t1 σ1 fun e t2 σ2 => e = .normal ∧ ∀ T2, TR 18 T2 t2 → TwInv bo bi old (done ++ [(n, lf a b)]) T2 σ2 := by
    intro T3 h18 g3 g8 g11
    have hTR := TR.of_list T3
    rw [h18] at hTR
    rw [hTR.get] at g3 g8 g11
    generalize fill .nil 0 T3 = t at g3 g8 g11
    generalize (⟨some twS.d3, .entry (.tmp twS.it), twS.ty3, twS.p3, twS.af3, none⟩ :: twS.tail : List Oper).toArray = ops
    unfold twS
    simp only
    unfold twR4 twRest twBody Tryz.f71
    refine OpsP.cons (op_extract (v := .int .i64 n) (vs := #[.int .i64 n, lf a b]) ?_ rfl) ?_
    · simp only [rdF, rd_none, rd_same, rd_ne, ne_eq, Nat.reduceEqDiff, not_false_eq_true, Nat.reduceLT, g11]
    refine OpsP.cons (op_extract (v := lf a b) (vs := #[.int .i64 n, lf a b]) ?_ rfl) ?_
    · simp only [rdF, rd_none, rd_same, rd_ne, ne_eq, Nat.reduceEqDiff, not_false_eq_true, Nat.reduceLT, g11]
    refine OpsP.cons (op_makes rfl (alloc110 z110)) ?_
    refine OpsP.cons op_assign ?_
    refine OpsP.cons (op_writes rfl (store110 (b := σ.next) (a := 0) (c := 0) (d := a) (e := b) (by rw [St.get_at, if_pos rfl]) ?_ ?_)) (OpsP.nil ?_)
    · simp only [rdF, rd_none, rd_same, rd_ne, ne_eq, Nat.reduceEqDiff, not_false_eq_true, Nat.reduceLT]
    · simp only [rdF, rd_none, rd_same, rd_ne, ne_eq, Nat.reduceEqDiff, not_false_eq_true, Nat.reduceLT]
    refine EvP.region ?_
    refine OpsP.cons op_move (OpsP.cons op_move ?_)
    refine OpsP.cons (op_load (v := lf a b) ?_) ?_
    · simp only [rdF, rd_none, rd_same, rd_ne, ne_eq, Nat.reduceEqDiff, not_false_eq_true, Nat.reduceLT]
      exact load110 (by rw [St.get_put, if_pos rfl])
    have hlt := hI.lt
    have hob : ((σ.at σ.next (.cells [.int .i64 0, .int .i64 0] 110 .ex) (σ.next + 1)).put σ.next (.cells [.int .i64 a, .int .i64 b] 110 .ex)).get bo = some (.map .i64 done) := by
      rw [St.get_put, if_neg (by omega), St.get_at, if_neg (by omega), hI.obj]
    refine OpsP.cons (op_writes (v := undef) (σ' := ((σ.at σ.next (.cells [.int .i64 0, .int .i64 0] 110 .ex) (σ.next + 1)).put σ.next (.cells [.int .i64 a, .int .i64 b] 110 .ex)).put bo (.map .i64 (upsert done n (lf a b)))) rfl ?_) (OpsP.nil ⟨rfl, ?_⟩)
    · simp only [writesA, rdF, rd_none, rd_same, rd_ne, ne_eq, Nat.reduceEqDiff, not_false_eq_true, Nat.reduceLT, g3]
      rw [update170 hob]
      rfl
    intro T2 hT2
    have hup : upsert done n (lf a b) = done ++ [(n, lf a b)] := by
      unfold upsert
      rw [lk_none_of hn]
    refine ⟨hT2.len, ?_, ?_, by rw [St.get_put, if_pos rfl, hup], ⟨hlt.1, Nat.lt_succ_of_lt hlt.2⟩, fun c hc => ?_⟩
    · rw [hT2.get]
      simp only [rdF, rd_none, rd_same, rd_ne, ne_eq, Nat.reduceEqDiff, not_false_eq_true, Nat.reduceLT, g3]
    · rw [hT2.get]
      simp only [rdF, rd_none, rd_same, rd_ne, ne_eq, Nat.reduceEqDiff, not_false_eq_true, Nat.reduceLT, g8]
    · rw [St.get_put, if_neg (by omega), St.get_put, if_neg (by omega), St.get_at, if_neg (by omega)]
      exact hI.keep c hc
  have h18 := hI.len
  have hset : ∀ i, i ≠ 9 → i ≠ 10 → i ≠ 11 → (((T.set twS.d1 (.tuple #[.bool true, .int .i64 n, lf a b])).set twS.d2 (.bool true)).set twS.d3 (.tuple #[.int .i64 n, lf a b])).getD i undef = T.getD i undef := by
    intro i h9 h10 h11
    show (((T.set 9 _).set 10 _).set 11 _).getD i undef = _
    rw [List.getD_eq_getElem?_getD, List.getElem?_set_ne (Ne.symm h11), List.getElem?_set_ne (Ne.symm h10), List.getElem?_set_ne (Ne.symm h9), ← List.getD_eq_getElem?_getD]
  have h11 : (((T.set twS.d1 (.tuple #[.bool true, .int .i64 n, lf a b])).set twS.d2 (.bool true)).set twS.d3 (.tuple #[.int .i64 n, lf a b])).getD 11 undef = .tuple #[.int .i64 n, lf a b] := by
    show (((T.set 9 _).set 10 _).set 11 _).getD 11 undef = _
    rw [List.getD_eq_getElem?_getD, List.getElem?_set_self (by simp [h18])]
    rfl
  have hlen : (((T.set twS.d1 (.tuple #[.bool true, .int .i64 n, lf a b])).set twS.d2 (.bool true)).set twS.d3 (.tuple #[.int .i64 n, lf a b])).length = 18 := by simp [h18]
  obtain ⟨t1, σ1, e1, e, t2, σ2, e2, rfl, hfin⟩ := key _ hlen ((hset 3 (by decide) (by decide) (by decide)).trans hI.out) ((hset 8 (by decide) (by decide) (by decide)).trans hI.it) h11
  have hTR := TR.of_list (((T.set twS.d1 (.tuple #[.bool true, .int .i64 n, lf a b])).set twS.d2 (.bool true)).set twS.d3 (.tuple #[.int .i64 n, lf a b]))
  rw [hlen] at hTR
  obtain ⟨T1, r1, r2⟩ := opsF_sim _ _ _ _ _ _ hTR e1
  obtain ⟨T2, r3, r4⟩ := (evF_sim (P := Tryz.prog) (K := noK) (n := 5) (nt := 18) twS.rest).1 T1 t1 σ1 _ _ _ r2 e2
  exact ⟨T1, σ1, T2, σ2, r1, r3, hfin T2 r4⟩
end Go.Proofs.YtfffmmgmjlfkoaaGreat
