/- Tables that are all wanted stay: the contract of graft.less there. -/
import Derived.Test.YtfffmmgmjlfkoaaGreatC5
namespace Go.Proofs.YtfffmmgmjlfkoaaGreat
set_option linter.unusedSimpArgs false
set_option linter.unusedVariables false
open Go.As

theorem start_rel {f : Inj} {fn : Func} {args : List Value} {args' : Array Value} (ha : LRel f args args'.toList) : LRel f (As.start fn args) (args' ++ Array.replicate (fn.ntmps - args'.size) undef).toList := by
  have hl : args.length = args'.size := by have := ha.1; simpa using this
  simp only [As.start, Array.toList_append, Array.toList_replicate, ← hl]
  refine ha.append ⟨rfl, fun i x x' h1 h2 => ?_⟩
  rw [h1] at h2
  cases h2
  have : x = undef := List.eq_of_mem_replicate (List.mem_of_getElem? h1)
  rw [this]
  exact VRel.undef f

noncomputable def lsCode : Code := match Tryz.f103.body with | some c => c | none => .skip
theorem lsCode_eq : Tryz.f103.body = some lsCode := by kernel_rfl
noncomputable def lsBody : Code := match lsCode with | .seq _ (.block _ (.loop c)) => c | _ => .skip
noncomputable def lsR2 : List Oper := match lsBody with | .seq _ (.seq _ (.block _ (.seq (.region _ o _) _))) => o.toList.tail | _ => []
noncomputable def lsRest : Code := match lsBody with | .seq _ (.seq _ (.block _ (.seq _ r))) => r | _ => .skip
noncomputable def lsS : Shape := ⟨9, 10, 11, 12, 0, 1, 1, 2, 0, 4, 0, "graft.go:72", "graft.go:72", "graft.go:72", #[], #[⟨0, .data⟩], #[], lsR2, lsRest⟩
theorem lsS_code : lsS.code = lsBody := by kernel_rfl
theorem lsS_tail : ∀ o, o ∈ lsS.tail → operOk o = true := by
  have : lsS.tail.all operOk = true := by kernel_rfl
  exact fun o ho => List.all_eq_true.1 this o ho
theorem lsS_rest : codeOk lsS.rest = true := by kernel_rfl
noncomputable def lsR0 : Array Oper := #[⟨some 8, .move (.tmp 1), 171, "graft.go:72", #[], none⟩, ⟨some 9, .range 171 (.tmp 8), 0, "graft.go:72", #[⟨0, .data⟩], none⟩]
theorem lsCode_shape : lsCode = .seq (.region 0 lsR0 false) (.block 0 (.loop lsS.code)) := by kernel_rfl
theorem not_true : unA Tryz.prog .not (.bool true) = some (.bool false) := by kernel_rfl

structure LsInv (bi : Nat) (want : Value) (σh : St) (done : List (Int × Value)) (T : List Value) (σ : St) : Prop where
  len : T.length = 33
  want : T.getD 2 undef = want
  it : T.getD 9 undef = .pointer (some ⟨bi, 0, none⟩)
  st : σ = σh

theorem ls_body {bi : Nat} {want : Value} {σh : St} {xs : List Int} {done : List (Int × Value)} {T : List Value} {σ : St} {n : Int} {v : Value} (hI : LsInv bi want σh done T σ) (hrow : rowOf σh.get want = some xs) (hn : xs.contains n = true) :
    ∃ T1 σ1 T2 σ2, evOps Tryz.prog kCon (⟨some lsS.d3, .entry (.tmp lsS.it), lsS.ty3, lsS.p3, lsS.af3, none⟩ :: lsS.tail).toArray lsS.tail (((T.set lsS.d1 (.tuple #[.bool true, .int .i64 n, v])).set lsS.d2 (.bool true)).set lsS.d3 (.tuple #[.int .i64 n, v])) σ = some (T1, σ1) ∧
      (ev Tryz.prog (evRegB Tryz.prog) kCon 5 lsS.rest).1 T1 σ1 = some (.normal, T2, σ2) ∧ LsInv bi want σh (done ++ [(n, v)]) T2 σ2 := by
  have hst := hI.st
  subst hst
  have key : ∀ (T3 : List Value), T3.length = 33 → T3.getD 2 undef = want → T3.getD 9 undef = .pointer (some ⟨bi, 0, none⟩) → T3.getD 12 undef = .tuple #[.int .i64 n, v] →
      OpsP Tryz.prog kCon (⟨some lsS.d3, .entry (.tmp lsS.it), lsS.ty3, lsS.p3, lsS.af3, none⟩ :: lsS.tail).toArray 33 lsS.tail (fill .nil 0 T3) σ fun t1 σ1 => EvP Tryz.prog kCon 5 33 lsS.rest t1 σ1 fun e t2 σ2 => e = .normal ∧ ∀ T2, TR 33 T2 t2 → LsInv bi want σ (done ++ [(n, v)]) T2 σ2 := by
    intro T3 h33 g2 g9 g12
    have hTR := TR.of_list T3
    rw [h33] at hTR
    rw [hTR.get] at g2 g9 g12
    generalize fill .nil 0 T3 = t at g2 g9 g12
    generalize (⟨some lsS.d3, .entry (.tmp lsS.it), lsS.ty3, lsS.p3, lsS.af3, none⟩ :: lsS.tail : List Oper).toArray = ops
    unfold lsS
    simp only
    unfold lsR2 lsRest lsBody lsCode Tryz.f103
    refine OpsP.cons (op_extract (v := .int .i64 n) (vs := #[.int .i64 n, v]) ?_ rfl) ?_
    · simp only [rdF, rd_none, rd_same, rd_ne, ne_eq, Nat.reduceEqDiff, not_false_eq_true, Nat.reduceLT, g12]
    refine OpsP.cons (op_extract (v := v) (vs := #[.int .i64 n, v]) ?_ rfl) ?_
    · simp only [rdF, rd_none, rd_same, rd_ne, ne_eq, Nat.reduceEqDiff, not_false_eq_true, Nat.reduceLT, g12]
    refine OpsP.cons op_assign (OpsP.cons op_assign (OpsP.nil ?_))
    refine EvP.seq (EvP.region ?_)
    refine OpsP.cons op_move (OpsP.cons op_move ?_)
    refine OpsP.cons (op_writes (v := .bool true) (σ' := σ) rfl ?_) ?_
    · simp only [writesA, rdF, List.map_cons, List.map_nil, rd_none, rd_same, rd_ne, ne_eq, Nat.reduceEqDiff, not_false_eq_true, Nat.reduceLT, g2, List.append_nil]
      show (match rowOf σ.get want with | some xs => some (Value.bool (xs.contains n), σ) | none => none) = _
      rw [hrow]
      simp only [hn]
    refine OpsP.cons (op_silent (v := .bool false) rfl ?_) (OpsP.nil ?_)
    · simp only [silentA, rdF, rd_none, rd_same, rd_ne, ne_eq, Nat.reduceEqDiff, not_false_eq_true, Nat.reduceLT, not_true]
    refine EvP.cond_false (by simp only [rdF, rd_same, Nat.reduceLT]) (EvP.skip ⟨rfl, ?_⟩)
    intro T2 hT2
    refine ⟨hT2.len, ?_, ?_, rfl⟩
    · rw [hT2.get]
      simp only [rdF, rd_none, rd_same, rd_ne, ne_eq, Nat.reduceEqDiff, not_false_eq_true, Nat.reduceLT, g2]
    · rw [hT2.get]
      simp only [rdF, rd_none, rd_same, rd_ne, ne_eq, Nat.reduceEqDiff, not_false_eq_true, Nat.reduceLT, g9]
  have h33 := hI.len
  have hset : ∀ i, i ≠ 10 → i ≠ 11 → i ≠ 12 → (((T.set lsS.d1 (.tuple #[.bool true, .int .i64 n, v])).set lsS.d2 (.bool true)).set lsS.d3 (.tuple #[.int .i64 n, v])).getD i undef = T.getD i undef := by
    intro i h9 h10 h11
    show (((T.set 10 _).set 11 _).set 12 _).getD i undef = _
    rw [List.getD_eq_getElem?_getD, List.getElem?_set_ne (Ne.symm h11), List.getElem?_set_ne (Ne.symm h10), List.getElem?_set_ne (Ne.symm h9), ← List.getD_eq_getElem?_getD]
  have h12 : (((T.set lsS.d1 (.tuple #[.bool true, .int .i64 n, v])).set lsS.d2 (.bool true)).set lsS.d3 (.tuple #[.int .i64 n, v])).getD 12 undef = .tuple #[.int .i64 n, v] := by
    show (((T.set 10 _).set 11 _).set 12 _).getD 12 undef = _
    rw [List.getD_eq_getElem?_getD, List.getElem?_set_self (by simp [h33])]
    rfl
  have hlen : (((T.set lsS.d1 (.tuple #[.bool true, .int .i64 n, v])).set lsS.d2 (.bool true)).set lsS.d3 (.tuple #[.int .i64 n, v])).length = 33 := by simp [h33]
  obtain ⟨t1, σ1, e1, e, t2, σ2, e2, rfl, hfin⟩ := key _ hlen ((hset 2 (by decide) (by decide) (by decide)).trans hI.want) ((hset 9 (by decide) (by decide) (by decide)).trans hI.it) h12
  have hTR := TR.of_list (((T.set lsS.d1 (.tuple #[.bool true, .int .i64 n, v])).set lsS.d2 (.bool true)).set lsS.d3 (.tuple #[.int .i64 n, v]))
  rw [hlen] at hTR
  obtain ⟨T1, r1, r2⟩ := opsF_sim _ _ _ _ _ _ hTR e1
  obtain ⟨T2, r3, r4⟩ := (evF_sim (P := Tryz.prog) (K := kCon) (n := 5) (nt := 33) lsS.rest).1 T1 t1 σ1 _ _ _ r2 e2
  exact ⟨T1, σ1, T2, σ2, r1, r3, hfin T2 r4⟩
end Go.Proofs.YtfffmmgmjlfkoaaGreat
