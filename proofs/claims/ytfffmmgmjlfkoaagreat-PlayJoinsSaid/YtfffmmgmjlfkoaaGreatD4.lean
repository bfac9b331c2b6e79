/- The tables that a map wants: graft.plan -/
import Derived.Test.YtfffmmgmjlfkoaaGreatD3
import Derived.Test.YtfffmmgmjlfkoaaGreatA34
namespace Go.Proofs.YtfffmmgmjlfkoaaGreat
set_option linter.unusedSimpArgs false
set_option linter.unusedVariables false
open Go.As

theorem tend_quiet {σ : St} {mb rb nf bl : Nat} {sec : Int} {e : TypeId} {kd : Kd} (hm : σ.get mb = some (.cells [.slice (some ⟨rb, 0, none⟩) nf nf, .int .i64 sec] e kd)) (hr : σ.get rb = some (.blob bl)) (hbl : nf * 128 ≤ bl) (hrn : rb < σ.next) (hmn : mb < σ.next) {tb hbm eb : Nat} {vs vm : Value} {root : Int} {e1 : TypeId} {kd1 : Kd} (ht : σ.get tb = some (.cells [.pointer (some ⟨mb, 0, none⟩), vs, .int .i64 root, .map (some hbm), vm, .map (some eb)] e1 kd1)) (htn : tb < σ.next) {es eds : List (Int × Value)} (hh : σ.get hbm = some (.map .i64 es)) (hhn : hbm < σ.next) (he : σ.get eb = some (.map .i64 eds)) (hen : eb < σ.next) {g fr : Int} (hg0 : 0 ≤ g) (hg : g < 256) (hes : ∀ n v, lk es n = some v → isLf v) (hfr : (lk eds g).getD (.int .i64 0) = .int .i64 fr) (hf0 : 0 ≤ fr) (hf : fr < nf) :
    Callable Tryz.prog 105 ∧ CallsA Tryz.prog 105 [.pointer (some ⟨tb, 0, none⟩), .int .i64 g] σ (.tuple #[]) σ := (tend_con hm hr hbl hrn hmn ht htn hh hhn he hen hg0 hg hes hfr hf0 hf).quiet (closed_back rfl)

/-! ### graft.plan -/
def planM (es : List (Int × Value)) : Nat → Nat → List Int → List Int → List Int × List Int
  | 0, _, ms, ns => (ms, ns)
  | m + 1, g, ms, ns =>
    match grpK es (.ofNat g) with
    | (true, w) =>
      planM es m (g + 1) (match ms.contains (.ofNat (Nat.div g 16)) with | true => ms | false => ms ++ [.ofNat (Nat.div g 16)]) (match w with | true => ns | false => ns ++ [.ofNat g])
    | (false, _) => planM es m (g + 1) ms ns

abbrev iv (l : List Int) : List Value := l.map (Value.int .i64)
theorem con_row {σ : St} {v : Value} {l : List Int} {b : Nat} (h : RowAt Tryz.prog σ 3 v (iv l) b) (hl : l.length < 1000000) (k : Int) : Callable Tryz.prog 75 ∧ CallsA Tryz.prog 75 [v, .int .i64 k] σ (.bool (l.contains k)) σ := by
  rcases h with ⟨h1, rfl⟩ | ⟨_, rfl, hb⟩
  · obtain rfl : l = [] := by simpa using h1
    exact con_nil σ k
  · rw [show (iv l).length = l.length by simp]
    exact con_ok hb (fun i x hx => by simp [hx]) rfl hl

structure PInv (σ1 σ : St) (v1 : Value) (ms : List Int) (b1 : Nat) (v2 : Value) (ns : List Int) (b2 : Nat) : Prop where
  but : But σ1 σ fun _ => False
  r1 : RowAt Tryz.prog σ 3 v1 (iv ms) b1
  r2 : RowAt Tryz.prog σ 3 v2 (iv ns) b2
  d : ms ≠ [] → ns ≠ [] → b1 ≠ b2
  l1 : ms ≠ [] → σ1.next ≤ b1 ∧ b1 < σ.next
  l2 : ns ≠ [] → σ1.next ≤ b2 ∧ b2 < σ.next

theorem PInv.swap {σ1 σ : St} {v1 v2 : Value} {ms ns : List Int} {b1 b2 : Nat} (h : PInv σ1 σ v1 ms b1 v2 ns b2) : PInv σ1 σ v2 ns b2 v1 ms b1 := ⟨h.but, h.r2, h.r1, fun a b => Ne.symm (h.d b a), h.l2, h.l1⟩

theorem i3 : ∃ it, Tryz.prog.info? 3 = some it ∧ it.size = 1 ∧ it.bytes = 8 := by
  have h0 : (Tryz.prog.info? 3).map (fun it => (it.size, it.bytes)) = some (1, 8) := by kernel_rfl
  cases h : Tryz.prog.info? 3 with
  | none => rw [h] at h0; cases h0
  | some it =>
    rw [h] at h0
    simp only [Option.map_some, Option.some.injEq, Prod.mk.injEq] at h0
    exact ⟨it, rfl, h0.1, h0.2⟩

/-- A row of one, made for an append. -/
abbrev St.one (σ : St) (x : Value) : St := σ.at σ.next (.cells [x] 3 .ex) (σ.next + 1)

theorem PInv.app1 {σ1 σ : St} {v1 v2 : Value} {ms ns : List Int} {b1 b2 : Nat} (h : PInv σ1 σ v1 ms b1 v2 ns b2) (a : Int) (hl : ms.length < 1000000) :
    appendA Tryz.prog #[57, 57] [v1, .slice (some ⟨σ.next, 0, none⟩) 1 1] (St.one σ (.int .i64 a)) = some (.slice (some ⟨σ.next + 1, 0, none⟩) (ms ++ [a]).length unk, (St.one σ (.int .i64 a)).app v1 (.cells (iv (ms ++ [a])) 3 (.vec 1))) := by
  obtain ⟨it, h1, h2, h3⟩ := i3
  have hr : RowAt Tryz.prog (St.one σ (.int .i64 a)) 3 v1 (iv ms) b1 := by
    rcases h.r1 with h4 | ⟨h4, h5, h6⟩
    · exact .inl h4
    · have := (h.l1 (by simpa using h4)).2
      exact .inr ⟨h4, h5, by rw [St.get_at_ne (by omega)]; exact h6⟩
  have := hr.append (x := .int .i64 a) (xb := σ.next) (e2 := 3) (kd2 := .ex) Tryz.underlying57 h1 z_3 h2 rfl (by omega) (by rw [St.get_at_eq rfl]) rfl (by simpa using hl)
  rw [this]
  simp [St.next_at]

theorem PInv.grow1 {σ1 σ : St} {v1 v2 : Value} {ms ns : List Int} {b1 b2 : Nat} (h : PInv σ1 σ v1 ms b1 v2 ns b2) (a : Int) :
    PInv σ1 ((St.one σ (.int .i64 a)).app v1 (.cells (iv (ms ++ [a])) 3 (.vec 1))) (.slice (some ⟨σ.next + 1, 0, none⟩) (ms ++ [a]).length unk) (ms ++ [a]) (σ.next + 1) v2 ns b2 := by
  have hn : ((St.one σ (.int .i64 a)).app v1 (.cells (iv (ms ++ [a])) 3 (.vec 1))).next = σ.next + 2 := by
    unfold St.app
    split <;> rfl
  have hbn := h.but.next
  have hself : ((St.one σ (.int .i64 a)).app v1 (.cells (iv (ms ++ [a])) 3 (.vec 1))).get (σ.next + 1) = some (.cells (iv (ms ++ [a])) 3 (.vec 1)) := by
    unfold St.app
    split
    · rw [St.get_add_eq (by rw [St.next_del', St.next_at])]
    · rw [St.get_add_eq (by rw [St.next_at])]
  have hget : ∀ c, c < σ.next → (ms ≠ [] → c ≠ b1) → ((St.one σ (.int .i64 a)).app v1 (.cells (iv (ms ++ [a])) 3 (.vec 1))).get c = σ.get c := by
    intro c hc hcb
    rcases h.r1 with ⟨_, rfl⟩ | ⟨h4, rfl, _⟩
    · simp only [St.app]
      rw [St.get_add_ne (by rw [St.next_at]; omega), St.get_at_ne (by omega)]
    · have := hcb (by simpa using h4)
      simp only [St.app]
      rw [St.get_add_ne (by rw [St.next_del', St.next_at]; omega), St.get_del_ne this, St.get_at_ne (by omega)]
  refine ⟨⟨fun b hb hs => ?_, by rw [hn]; omega⟩, .inr ⟨by simp, by simp, hself⟩, ?_, fun _ hns => ?_, fun _ => by rw [hn]; omega, fun hns => ?_⟩
  · rw [hget b (by omega) (fun hms => by have := (h.l1 hms).1; omega)]
    exact h.but.get b hb hs
  · rcases h.r2 with h4 | ⟨h4, h5, h6⟩
    · exact .inl h4
    · have hns : ns ≠ [] := by simpa using h4
      have := h.l2 hns
      exact .inr ⟨h4, h5, by rw [hget b2 this.2 (fun hms => Ne.symm (h.d hms hns))]; exact h6⟩
  · have := h.l2 hns; omega
  · have := h.l2 hns; rw [hn]; omega

theorem bs57 (a : Int) (dst : Option Tmp) (x : Operand) (ty : TypeId) (pos : String) (af : Array Edge) : allocA Tryz.prog (fun _ => .int .i64 a) ⟨dst, .buildSlice 57 1 #[(0, x)], ty, pos, af, none⟩ = some (.cells [.int .i64 a] 3 .ex, fun b => .slice (some ⟨b, 0, none⟩) 1 1) := by kernel_rfl

noncomputable def code101 : Code := match Tryz.f101.body with | some c => c | none => .skip
theorem code101_eq : Tryz.f101.body = some code101 := by kernel_rfl
theorem ok101 : fnOk Tryz.f101 = true := by kernel_rfl
theorem planM_skip {es : List (Int × Value)} {i : Nat} {ms ns : List Int} (hlt : i < 256) (h : (grpK es (i : Int)).1 = false) : planM es (256 - (i + 1)) (i + 1) ms ns = planM es (256 - i) i ms ns := by
  rw [show 256 - i = (256 - (i + 1)) + 1 by omega, planM]
  have h' : (grpK es (Int.ofNat i)).1 = false := h
  cases hg : grpK es (Int.ofNat i) with
  | mk a b => rw [hg] at h'; simp only at h'; subst h'; rfl
theorem pl1 {es : List (Int × Value)} {i : Nat} {ms ns : List Int} (hlt : i < 256) (h : (grpK es (i : Int)).1 = true) (hw : (grpK es (i : Int)).2 = true) (hc : ms.contains ((i : Int) / 16) = true) : planM es (256 - (i + 1)) (i + 1) ms ns = planM es (256 - i) i ms ns := by
  rw [show 256 - i = (256 - (i + 1)) + 1 by omega, planM]
  have h' : (grpK es (Int.ofNat i)).1 = true := h
  have hw' : (grpK es (Int.ofNat i)).2 = true := hw
  have e : (Int.ofNat (Nat.div i 16)) = (i : Int) / 16 := by show ((i / 16 : Nat) : Int) = _; omega
  cases hg : grpK es (Int.ofNat i) with
  | mk a b =>
    rw [hg] at h' hw'
    simp only at h' hw'
    subst h' hw'
    simp only [e, hc]
    try rfl
theorem pl2 {es : List (Int × Value)} {i : Nat} {ms ns : List Int} (hlt : i < 256) (h : (grpK es (i : Int)).1 = true) (hw : (grpK es (i : Int)).2 = true) (hc : ms.contains ((i : Int) / 16) = false) : planM es (256 - (i + 1)) (i + 1) (ms ++ [(i : Int) / 16]) ns = planM es (256 - i) i ms ns := by
  rw [show 256 - i = (256 - (i + 1)) + 1 by omega, planM]
  have h' : (grpK es (Int.ofNat i)).1 = true := h
  have hw' : (grpK es (Int.ofNat i)).2 = true := hw
  have e : (Int.ofNat (Nat.div i 16)) = (i : Int) / 16 := by show ((i / 16 : Nat) : Int) = _; omega
  cases hg : grpK es (Int.ofNat i) with
  | mk a b =>
    rw [hg] at h' hw'
    simp only at h' hw'
    subst h' hw'
    simp only [e, hc]
    try rfl
theorem pl3 {es : List (Int × Value)} {i : Nat} {ms ns : List Int} (hlt : i < 256) (h : (grpK es (i : Int)).1 = true) (hw : (grpK es (i : Int)).2 = false) (hc : ms.contains ((i : Int) / 16) = true) : planM es (256 - (i + 1)) (i + 1) ms (ns ++ [(i : Int)]) = planM es (256 - i) i ms ns := by
  rw [show 256 - i = (256 - (i + 1)) + 1 by omega, planM]
  have h' : (grpK es (Int.ofNat i)).1 = true := h
  have hw' : (grpK es (Int.ofNat i)).2 = false := hw
  have e : (Int.ofNat (Nat.div i 16)) = (i : Int) / 16 := by show ((i / 16 : Nat) : Int) = _; omega
  cases hg : grpK es (Int.ofNat i) with
  | mk a b =>
    rw [hg] at h' hw'
    simp only at h' hw'
    subst h' hw'
    simp only [e, hc]
    try rfl
theorem pl4 {es : List (Int × Value)} {i : Nat} {ms ns : List Int} (hlt : i < 256) (h : (grpK es (i : Int)).1 = true) (hw : (grpK es (i : Int)).2 = false) (hc : ms.contains ((i : Int) / 16) = false) : planM es (256 - (i + 1)) (i + 1) (ms ++ [(i : Int) / 16]) (ns ++ [(i : Int)]) = planM es (256 - i) i ms ns := by
  rw [show 256 - i = (256 - (i + 1)) + 1 by omega, planM]
  have h' : (grpK es (Int.ofNat i)).1 = true := h
  have hw' : (grpK es (Int.ofNat i)).2 = false := hw
  have e : (Int.ofNat (Nat.div i 16)) = (i : Int) / 16 := by show ((i / 16 : Nat) : Int) = _; omega
  cases hg : grpK es (Int.ofNat i) with
  | mk a b =>
    rw [hg] at h' hw'
    simp only at h' hw'
    subst h' hw'
    simp only [e, hc]
    try rfl

set_option maxRecDepth 8000 in
theorem plan_con {σ : St} {r : Nat} {es : List (Int × Value)} (hr : σ.get r = some (.map .i64 es)) (hrn : r < σ.next) (hes : ∀ q ∈ es, isLf q.2) : Con Tryz.prog 101 [.map (some r)] σ (fun v σ' => ∃ v1 b1 v2 b2, v = .tuple #[v1, v2] ∧ PInv σ σ' v1 (planM es 256 0 [] []).1 b1 v2 (planM es 256 0 [] []).2 b2) := by
  refine Con.of_goP (nt := 38) (rs := [.tmp 2, .tmp 3]) Tryz.func101 code101_eq ok101 rfl rfl (by simp) ?_
  have f0 : rdT 38 (fill .nil 0 [.map (some r)]) 0 = .map (some r) := rfl
  generalize fill .nil 0 [.map (some r)] = t at f0
  unfold code101 Tryz.f101
  repeat (refine GoP.seq ?_)
  refine GoP.name ?_
  rintro σ1 rfl
  generalize hMM : planM es 256 0 [] [] = M
  refine GoP.region ?_ ?_
  · rfl
  refine OpsG.cons (o_assign (by (try simp only [rdF, rd_none, rd_same, rd_ne, ne_eq, Nat.reduceEqDiff, not_false_eq_true, Nat.reduceLT, f0]) <;> rfl)) ?_
  refine OpsG.cons (o_assign (by (try simp only [rdF, rd_none, rd_same, rd_ne, ne_eq, Nat.reduceEqDiff, not_false_eq_true, Nat.reduceLT, f0]) <;> rfl)) ?_
  refine OpsG.nil ?_
  repeat (refine GoP.seq ?_)
  refine GoP.region ?_ ?_
  · rfl
  refine OpsG.cons (o_move (by (try simp only [rdF, rd_none, rd_same, rd_ne, ne_eq, Nat.reduceEqDiff, not_false_eq_true, Nat.reduceLT, f0]) <;> rfl)) ?_
  refine OpsG.nil ?_
  repeat (refine GoP.seq ?_)
  refine GoP.block ?_
  repeat (refine GoP.seq ?_)
  refine GoP.loop (fun m t σ => ∃ (i b1 b2 : Nat) (v1 v2 : Value) (ms ns : List Int), rdT 38 t 0 = .map (some r) ∧ rdT 38 t 2 = v1 ∧ rdT 38 t 3 = v2 ∧ rdT 38 t 8 = .int .i64 (i : Int) ∧ (i ≤ 256) ∧ (PInv σ1 σ v1 ms b1 v2 ns b2) ∧ (planM es (256 - i) i ms ns = M) ∧ (ms.length ≤ i ∧ ns.length ≤ i) ∧ m = 256 - i) ?_ (m := 256) ?_
  ·
    rintro m t σ ⟨i, b1, b2, v1, v2, ms, ns, g0, g2, g3, g8, hi, hp, hM, hlm, rfl⟩
    repeat (refine GoP.seq ?_)
    refine GoP.region ?_ ?_
    · rfl
    refine OpsG.cons (o_bin (by (try simp only [rdF, rd_none, rd_same, rd_ne, ne_eq, Nat.reduceEqDiff, not_false_eq_true, Nat.reduceLT, g0, g2, g3, g8]) <;> rfl) (by (try simp only [rdF, rd_none, rd_same, rd_ne, ne_eq, Nat.reduceEqDiff, not_false_eq_true, Nat.reduceLT, g0, g2, g3, g8]) <;> rfl) binA_lss) ?_
    refine OpsG.nil ?_
    repeat (refine GoP.seq ?_)
    refine GoP.cond (by rfl) (by (try simp only [rdF, rd_none, rd_same, rd_ne, ne_eq, Nat.reduceEqDiff, not_false_eq_true, Nat.reduceLT, g0, g2, g3, g8]) <;> rfl) (fun hcc => ?_) (fun hcc => ?_)
    ·
      have hlt : i < 256 := by have := of_decide_eq_true hcc; omega
      repeat (refine GoP.seq ?_)
      refine GoP.skip ?_
      repeat (refine GoP.seq ?_)
      refine GoP.block ?_
      repeat (refine GoP.seq ?_)
      refine GoP.region ?_ ?_
      · rfl
      refine OpsG.cons (o_move (by (try simp only [rdF, rd_none, rd_same, rd_ne, ne_eq, Nat.reduceEqDiff, not_false_eq_true, Nat.reduceLT, g0, g2, g3, g8]) <;> rfl)) ?_
      refine OpsG.cons (o_assign (by (try simp only [rdF, rd_none, rd_same, rd_ne, ne_eq, Nat.reduceEqDiff, not_false_eq_true, Nat.reduceLT, g0, g2, g3, g8]) <;> rfl)) ?_
      refine OpsG.nil ?_
      repeat (refine GoP.seq ?_)
      refine GoP.region ?_ ?_
      · rfl
      refine OpsG.cons (o_move (by (try simp only [rdF, rd_none, rd_same, rd_ne, ne_eq, Nat.reduceEqDiff, not_false_eq_true, Nat.reduceLT, g0, g2, g3, g8]) <;> rfl)) ?_
      refine OpsG.cons (o_move (by (try simp only [rdF, rd_none, rd_same, rd_ne, ne_eq, Nat.reduceEqDiff, not_false_eq_true, Nat.reduceLT, g0, g2, g3, g8]) <;> rfl)) ?_
      refine OpsG.call (by (try simp only [List.map_cons, List.map_nil, rdF, rd_none, rd_same, rd_ne, ne_eq, Nat.reduceEqDiff, not_false_eq_true, Nat.reduceLT, g0, g2, g3, g8]) <;> rfl) (Con.of_calls (group_ok (g := (i : Int)) ((hp.but.get r hrn id).trans hr) (by have := hp.but.next; omega) (by omega) (by omega) hes)) ?_
      rintro v σ' ⟨rfl, rfl⟩
      refine OpsG.cons (o_move (by (try simp only [rdF, rd_none, rd_same, rd_ne, ne_eq, Nat.reduceEqDiff, not_false_eq_true, Nat.reduceLT, g0, g2, g3, g8]) <;> rfl)) ?_
      refine OpsG.cons (o_extract (by (try simp only [rdF, rd_none, rd_same, rd_ne, ne_eq, Nat.reduceEqDiff, not_false_eq_true, Nat.reduceLT, g0, g2, g3, g8]) <;> rfl) rfl) ?_
      refine OpsG.cons (o_extract (by (try simp only [rdF, rd_none, rd_same, rd_ne, ne_eq, Nat.reduceEqDiff, not_false_eq_true, Nat.reduceLT, g0, g2, g3, g8]) <;> rfl) rfl) ?_
      refine OpsG.cons (o_assign (by (try simp only [rdF, rd_none, rd_same, rd_ne, ne_eq, Nat.reduceEqDiff, not_false_eq_true, Nat.reduceLT, g0, g2, g3, g8]) <;> rfl)) ?_
      refine OpsG.cons (o_assign (by (try simp only [rdF, rd_none, rd_same, rd_ne, ne_eq, Nat.reduceEqDiff, not_false_eq_true, Nat.reduceLT, g0, g2, g3, g8]) <;> rfl)) ?_
      refine OpsG.nil ?_
      repeat (refine GoP.seq ?_)
      refine GoP.region ?_ ?_
      · rfl
      refine OpsG.cons (o_move (by (try simp only [rdF, rd_none, rd_same, rd_ne, ne_eq, Nat.reduceEqDiff, not_false_eq_true, Nat.reduceLT, g0, g2, g3, g8]) <;> rfl)) ?_
      refine OpsG.cons (o_un (by (try simp only [rdF, rd_none, rd_same, rd_ne, ne_eq, Nat.reduceEqDiff, not_false_eq_true, Nat.reduceLT, g0, g2, g3, g8]) <;> rfl) un_not) ?_
      refine OpsG.nil ?_
      repeat (refine GoP.seq ?_)
      refine GoP.cond (by rfl) (by (try simp only [rdF, rd_none, rd_same, rd_ne, ne_eq, Nat.reduceEqDiff, not_false_eq_true, Nat.reduceLT, g0, g2, g3, g8]) <;> rfl) (fun hs => ?_) (fun hs => ?_)
      ·
        repeat (refine GoP.seq ?_)
        refine GoP.exit ?_
        refine Eq.mpr (if_pos rfl) ?_
        repeat (refine GoP.seq ?_)
        refine GoP.region ?_ ?_
        · rfl
        refine OpsG.cons (o_bin (by (try simp only [rdF, rd_none, rd_same, rd_ne, ne_eq, Nat.reduceEqDiff, not_false_eq_true, Nat.reduceLT, g0, g2, g3, g8]) <;> rfl) (by (try simp only [rdF, rd_none, rd_same, rd_ne, ne_eq, Nat.reduceEqDiff, not_false_eq_true, Nat.reduceLT, g0, g2, g3, g8]) <;> rfl) (by first | (refine b_add64 ?_ ?_ <;> omega) | exact binA_add)) ?_
        refine OpsG.cons (o_move (by (try simp only [rdF, rd_none, rd_same, rd_ne, ne_eq, Nat.reduceEqDiff, not_false_eq_true, Nat.reduceLT, g0, g2, g3, g8]) <;> rfl)) ?_
        refine OpsG.nil ?_
        refine ⟨_, ?_, i + 1, b1, b2, v1, v2, ms, ns, (by (try simp only [rdF, rd_none, rd_same, rd_ne, ne_eq, Nat.reduceEqDiff, not_false_eq_true, Nat.reduceLT, g0, g2, g3, g8]) <;> rfl), (by (try simp only [rdF, rd_none, rd_same, rd_ne, ne_eq, Nat.reduceEqDiff, not_false_eq_true, Nat.reduceLT, g0, g2, g3, g8]) <;> rfl), (by (try simp only [rdF, rd_none, rd_same, rd_ne, ne_eq, Nat.reduceEqDiff, not_false_eq_true, Nat.reduceLT, g0, g2, g3, g8]) <;> rfl), (by (try simp only [rdF, rd_none, rd_same, rd_ne, ne_eq, Nat.reduceEqDiff, not_false_eq_true, Nat.reduceLT, g0, g2, g3, g8]) <;> rfl), by omega, hp, (planM_skip hlt (by simpa using hs)).trans hM, by omega, rfl⟩
        omega
      ·
        repeat (refine GoP.seq ?_)
        refine GoP.skip ?_
        repeat (refine GoP.seq ?_)
        refine GoP.region ?_ ?_
        · rfl
        refine OpsG.cons (o_move (by (try simp only [rdF, rd_none, rd_same, rd_ne, ne_eq, Nat.reduceEqDiff, not_false_eq_true, Nat.reduceLT, g0, g2, g3, g8]) <;> rfl)) ?_
        refine OpsG.cons (o_bin (by (try simp only [rdF, rd_none, rd_same, rd_ne, ne_eq, Nat.reduceEqDiff, not_false_eq_true, Nat.reduceLT, g0, g2, g3, g8]) <;> rfl) (by (try simp only [rdF, rd_none, rd_same, rd_ne, ne_eq, Nat.reduceEqDiff, not_false_eq_true, Nat.reduceLT, g0, g2, g3, g8]) <;> rfl) (b_quo64 (by omega) (by omega) (by omega))) ?_
        refine OpsG.cons (o_assign (by (try simp only [rdF, rd_none, rd_same, rd_ne, ne_eq, Nat.reduceEqDiff, not_false_eq_true, Nat.reduceLT, g0, g2, g3, g8]) <;> rfl)) ?_
        refine OpsG.nil ?_
        repeat (refine GoP.seq ?_)
        refine GoP.region ?_ ?_
        · rfl
        refine OpsG.cons (o_move (by (try simp only [rdF, rd_none, rd_same, rd_ne, ne_eq, Nat.reduceEqDiff, not_false_eq_true, Nat.reduceLT, g0, g2, g3, g8]) <;> rfl)) ?_
        refine OpsG.cons (o_move (by (try simp only [rdF, rd_none, rd_same, rd_ne, ne_eq, Nat.reduceEqDiff, not_false_eq_true, Nat.reduceLT, g0, g2, g3, g8]) <;> rfl)) ?_
        refine OpsG.call (by (try simp only [List.map_cons, List.map_nil, rdF, rd_none, rd_same, rd_ne, ne_eq, Nat.reduceEqDiff, not_false_eq_true, Nat.reduceLT, g0, g2, g3, g8]) <;> rfl) (Con.of_calls (con_row hp.r1 (by omega) ((i : Int) / 16))) ?_
        rintro v σ' ⟨rfl, rfl⟩
        refine OpsG.cons (o_un (by (try simp only [rdF, rd_none, rd_same, rd_ne, ne_eq, Nat.reduceEqDiff, not_false_eq_true, Nat.reduceLT, g0, g2, g3, g8]) <;> rfl) un_not) ?_
        refine OpsG.nil ?_
        repeat (refine GoP.seq ?_)
        refine GoP.cond (by rfl) (by (try simp only [rdF, rd_none, rd_same, rd_ne, ne_eq, Nat.reduceEqDiff, not_false_eq_true, Nat.reduceLT, g0, g2, g3, g8]) <;> rfl) (fun hc => ?_) (fun hc => ?_)
        ·
          repeat (refine GoP.seq ?_)
          refine GoP.region ?_ ?_
          · rfl
          refine OpsG.cons (o_move (by (try simp only [rdF, rd_none, rd_same, rd_ne, ne_eq, Nat.reduceEqDiff, not_false_eq_true, Nat.reduceLT, g0, g2, g3, g8]) <;> rfl)) ?_
          refine OpsG.cons (o_move (by (try simp only [rdF, rd_none, rd_same, rd_ne, ne_eq, Nat.reduceEqDiff, not_false_eq_true, Nat.reduceLT, g0, g2, g3, g8]) <;> rfl)) ?_
          refine OpsG.cons (o_makesOf (fun _ => .int .i64 ((i : Int) / 16)) rfl (by intro x hx; have e : x = .tmp 26 := (by simpa [Op.operands] using hx); rw [e]; exact (by (try simp only [rdF, rd_none, rd_same, rd_ne, ne_eq, Nat.reduceEqDiff, not_false_eq_true, Nat.reduceLT, g0, g2, g3, g8]) <;> rfl)) (bs57 ..)) ?_
          refine OpsG.cons (o_append (by (try simp only [List.map_cons, List.map_nil, rdF, rd_none, rd_same, rd_ne, ne_eq, Nat.reduceEqDiff, not_false_eq_true, Nat.reduceLT, g0, g2, g3, g8]) <;> rfl) (hp.app1 ((i : Int) / 16) (by omega))) ?_
          refine OpsG.cons (o_assign (by (try simp only [rdF, rd_none, rd_same, rd_ne, ne_eq, Nat.reduceEqDiff, not_false_eq_true, Nat.reduceLT, g0, g2, g3, g8]) <;> rfl)) ?_
          refine OpsG.nil ?_
          repeat (refine GoP.seq ?_)
          refine GoP.name ?_
          rintro σ2 hσ2
          have hp2 : PInv σ1 σ2 (.slice (some ⟨σ.next + 1, 0, none⟩) (ms ++ [(i : Int) / 16]).length unk) (ms ++ [(i : Int) / 16]) (σ.next + 1) v2 ns b2 := by rw [hσ2]; exact hp.grow1 _
          refine GoP.region ?_ ?_
          · rfl
          refine OpsG.cons (o_move (by (try simp only [rdF, rd_none, rd_same, rd_ne, ne_eq, Nat.reduceEqDiff, not_false_eq_true, Nat.reduceLT, g0, g2, g3, g8]) <;> rfl)) ?_
          refine OpsG.cons (o_un (by (try simp only [rdF, rd_none, rd_same, rd_ne, ne_eq, Nat.reduceEqDiff, not_false_eq_true, Nat.reduceLT, g0, g2, g3, g8]) <;> rfl) un_not) ?_
          refine OpsG.nil ?_
          repeat (refine GoP.seq ?_)
          refine GoP.cond (by rfl) (by (try simp only [rdF, rd_none, rd_same, rd_ne, ne_eq, Nat.reduceEqDiff, not_false_eq_true, Nat.reduceLT, g0, g2, g3, g8]) <;> rfl) (fun hw => ?_) (fun hw => ?_)
          ·
            repeat (refine GoP.seq ?_)
            refine GoP.region ?_ ?_
            · rfl
            refine OpsG.cons (o_move (by (try simp only [rdF, rd_none, rd_same, rd_ne, ne_eq, Nat.reduceEqDiff, not_false_eq_true, Nat.reduceLT, g0, g2, g3, g8]) <;> rfl)) ?_
            refine OpsG.cons (o_move (by (try simp only [rdF, rd_none, rd_same, rd_ne, ne_eq, Nat.reduceEqDiff, not_false_eq_true, Nat.reduceLT, g0, g2, g3, g8]) <;> rfl)) ?_
            refine OpsG.cons (o_makesOf (fun _ => .int .i64 (i : Int)) rfl (by intro x hx; have e : x = .tmp 32 := (by simpa [Op.operands] using hx); rw [e]; exact (by (try simp only [rdF, rd_none, rd_same, rd_ne, ne_eq, Nat.reduceEqDiff, not_false_eq_true, Nat.reduceLT, g0, g2, g3, g8]) <;> rfl)) (bs57 ..)) ?_
            first | refine OpsG.cons (o_append (by (try simp only [List.map_cons, List.map_nil, rdF, rd_none, rd_same, rd_ne, ne_eq, Nat.reduceEqDiff, not_false_eq_true, Nat.reduceLT, g0, g2, g3, g8]) <;> rfl) (hp2.swap.app1 (i : Int) (by omega))) ?_ | refine OpsG.cons (o_append (by (try simp only [List.map_cons, List.map_nil, rdF, rd_none, rd_same, rd_ne, ne_eq, Nat.reduceEqDiff, not_false_eq_true, Nat.reduceLT, g0, g2, g3, g8]) <;> rfl) (hp.swap.app1 (i : Int) (by omega))) ?_
            refine OpsG.cons (o_assign (by (try simp only [rdF, rd_none, rd_same, rd_ne, ne_eq, Nat.reduceEqDiff, not_false_eq_true, Nat.reduceLT, g0, g2, g3, g8]) <;> rfl)) ?_
            refine OpsG.nil ?_
            repeat (refine GoP.seq ?_)
            refine GoP.name ?_
            rintro σ3 hσ3
            have hp3 : PInv σ1 σ3 (.slice (some ⟨σ2.next + 1, 0, none⟩) (ns ++ [(i : Int)]).length unk) (ns ++ [(i : Int)]) (σ2.next + 1) (.slice (some ⟨σ.next + 1, 0, none⟩) (ms ++ [(i : Int) / 16]).length unk) (ms ++ [(i : Int) / 16]) (σ.next + 1) := by rw [hσ3]; exact hp2.swap.grow1 i
            refine GoP.region ?_ ?_
            · rfl
            refine OpsG.cons (o_bin (by (try simp only [rdF, rd_none, rd_same, rd_ne, ne_eq, Nat.reduceEqDiff, not_false_eq_true, Nat.reduceLT, g0, g2, g3, g8]) <;> rfl) (by (try simp only [rdF, rd_none, rd_same, rd_ne, ne_eq, Nat.reduceEqDiff, not_false_eq_true, Nat.reduceLT, g0, g2, g3, g8]) <;> rfl) (by first | (refine b_add64 ?_ ?_ <;> omega) | exact binA_add)) ?_
            refine OpsG.cons (o_move (by (try simp only [rdF, rd_none, rd_same, rd_ne, ne_eq, Nat.reduceEqDiff, not_false_eq_true, Nat.reduceLT, g0, g2, g3, g8]) <;> rfl)) ?_
            refine OpsG.nil ?_
            refine ⟨_, ?_, i + 1, σ.next + 1, σ2.next + 1, .slice (some ⟨σ.next + 1, 0, none⟩) (ms ++ [(i : Int) / 16]).length unk, .slice (some ⟨σ2.next + 1, 0, none⟩) (ns ++ [(i : Int)]).length unk, ms ++ [(i : Int) / 16], ns ++ [(i : Int)], (by (try simp only [rdF, rd_none, rd_same, rd_ne, ne_eq, Nat.reduceEqDiff, not_false_eq_true, Nat.reduceLT, g0, g2, g3, g8]) <;> rfl), (by (try simp only [rdF, rd_none, rd_same, rd_ne, ne_eq, Nat.reduceEqDiff, not_false_eq_true, Nat.reduceLT, g0, g2, g3, g8]) <;> rfl), (by (try simp only [rdF, rd_none, rd_same, rd_ne, ne_eq, Nat.reduceEqDiff, not_false_eq_true, Nat.reduceLT, g0, g2, g3, g8]) <;> rfl), (by (try simp only [rdF, rd_none, rd_same, rd_ne, ne_eq, Nat.reduceEqDiff, not_false_eq_true, Nat.reduceLT, g0, g2, g3, g8]) <;> rfl), by omega, hp3.swap, (pl4 hlt (by simpa using hs) (by simpa using hw) (by simpa using hc)).trans hM, by have := hlm.1; have := hlm.2; refine ⟨?_, ?_⟩ <;> (try simp only [List.length_append, List.length_cons, List.length_nil]) <;> omega, rfl⟩
            omega
          ·
            repeat (refine GoP.seq ?_)
            refine GoP.skip ?_
            repeat (refine GoP.seq ?_)
            refine GoP.region ?_ ?_
            · rfl
            refine OpsG.cons (o_bin (by (try simp only [rdF, rd_none, rd_same, rd_ne, ne_eq, Nat.reduceEqDiff, not_false_eq_true, Nat.reduceLT, g0, g2, g3, g8]) <;> rfl) (by (try simp only [rdF, rd_none, rd_same, rd_ne, ne_eq, Nat.reduceEqDiff, not_false_eq_true, Nat.reduceLT, g0, g2, g3, g8]) <;> rfl) (by first | (refine b_add64 ?_ ?_ <;> omega) | exact binA_add)) ?_
            refine OpsG.cons (o_move (by (try simp only [rdF, rd_none, rd_same, rd_ne, ne_eq, Nat.reduceEqDiff, not_false_eq_true, Nat.reduceLT, g0, g2, g3, g8]) <;> rfl)) ?_
            refine OpsG.nil ?_
            refine ⟨_, ?_, i + 1, σ.next + 1, b2, .slice (some ⟨σ.next + 1, 0, none⟩) (ms ++ [(i : Int) / 16]).length unk, v2, ms ++ [(i : Int) / 16], ns, (by (try simp only [rdF, rd_none, rd_same, rd_ne, ne_eq, Nat.reduceEqDiff, not_false_eq_true, Nat.reduceLT, g0, g2, g3, g8]) <;> rfl), (by (try simp only [rdF, rd_none, rd_same, rd_ne, ne_eq, Nat.reduceEqDiff, not_false_eq_true, Nat.reduceLT, g0, g2, g3, g8]) <;> rfl), (by (try simp only [rdF, rd_none, rd_same, rd_ne, ne_eq, Nat.reduceEqDiff, not_false_eq_true, Nat.reduceLT, g0, g2, g3, g8]) <;> rfl), (by (try simp only [rdF, rd_none, rd_same, rd_ne, ne_eq, Nat.reduceEqDiff, not_false_eq_true, Nat.reduceLT, g0, g2, g3, g8]) <;> rfl), by omega, hp2, (pl2 hlt (by simpa using hs) (by simpa using hw) (by simpa using hc)).trans hM, by have := hlm.1; have := hlm.2; refine ⟨?_, ?_⟩ <;> (try simp only [List.length_append, List.length_cons, List.length_nil]) <;> omega, rfl⟩
            omega
        ·
          repeat (refine GoP.seq ?_)
          refine GoP.skip ?_
          repeat (refine GoP.seq ?_)
          refine GoP.region ?_ ?_
          · rfl
          refine OpsG.cons (o_move (by (try simp only [rdF, rd_none, rd_same, rd_ne, ne_eq, Nat.reduceEqDiff, not_false_eq_true, Nat.reduceLT, g0, g2, g3, g8]) <;> rfl)) ?_
          refine OpsG.cons (o_un (by (try simp only [rdF, rd_none, rd_same, rd_ne, ne_eq, Nat.reduceEqDiff, not_false_eq_true, Nat.reduceLT, g0, g2, g3, g8]) <;> rfl) un_not) ?_
          refine OpsG.nil ?_
          repeat (refine GoP.seq ?_)
          refine GoP.cond (by rfl) (by (try simp only [rdF, rd_none, rd_same, rd_ne, ne_eq, Nat.reduceEqDiff, not_false_eq_true, Nat.reduceLT, g0, g2, g3, g8]) <;> rfl) (fun hw => ?_) (fun hw => ?_)
          ·
            repeat (refine GoP.seq ?_)
            refine GoP.region ?_ ?_
            · rfl
            refine OpsG.cons (o_move (by (try simp only [rdF, rd_none, rd_same, rd_ne, ne_eq, Nat.reduceEqDiff, not_false_eq_true, Nat.reduceLT, g0, g2, g3, g8]) <;> rfl)) ?_
            refine OpsG.cons (o_move (by (try simp only [rdF, rd_none, rd_same, rd_ne, ne_eq, Nat.reduceEqDiff, not_false_eq_true, Nat.reduceLT, g0, g2, g3, g8]) <;> rfl)) ?_
            refine OpsG.cons (o_makesOf (fun _ => .int .i64 (i : Int)) rfl (by intro x hx; have e : x = .tmp 32 := (by simpa [Op.operands] using hx); rw [e]; exact (by (try simp only [rdF, rd_none, rd_same, rd_ne, ne_eq, Nat.reduceEqDiff, not_false_eq_true, Nat.reduceLT, g0, g2, g3, g8]) <;> rfl)) (bs57 ..)) ?_
            first | refine OpsG.cons (o_append (by (try simp only [List.map_cons, List.map_nil, rdF, rd_none, rd_same, rd_ne, ne_eq, Nat.reduceEqDiff, not_false_eq_true, Nat.reduceLT, g0, g2, g3, g8]) <;> rfl) (hp2.swap.app1 (i : Int) (by omega))) ?_ | refine OpsG.cons (o_append (by (try simp only [List.map_cons, List.map_nil, rdF, rd_none, rd_same, rd_ne, ne_eq, Nat.reduceEqDiff, not_false_eq_true, Nat.reduceLT, g0, g2, g3, g8]) <;> rfl) (hp.swap.app1 (i : Int) (by omega))) ?_
            refine OpsG.cons (o_assign (by (try simp only [rdF, rd_none, rd_same, rd_ne, ne_eq, Nat.reduceEqDiff, not_false_eq_true, Nat.reduceLT, g0, g2, g3, g8]) <;> rfl)) ?_
            refine OpsG.nil ?_
            repeat (refine GoP.seq ?_)
            refine GoP.name ?_
            rintro σ3 hσ3
            have hp3 : PInv σ1 σ3 (.slice (some ⟨σ.next + 1, 0, none⟩) (ns ++ [(i : Int)]).length unk) (ns ++ [(i : Int)]) (σ.next + 1) (v1) (ms) (b1) := by rw [hσ3]; exact hp.swap.grow1 i
            refine GoP.region ?_ ?_
            · rfl
            refine OpsG.cons (o_bin (by (try simp only [rdF, rd_none, rd_same, rd_ne, ne_eq, Nat.reduceEqDiff, not_false_eq_true, Nat.reduceLT, g0, g2, g3, g8]) <;> rfl) (by (try simp only [rdF, rd_none, rd_same, rd_ne, ne_eq, Nat.reduceEqDiff, not_false_eq_true, Nat.reduceLT, g0, g2, g3, g8]) <;> rfl) (by first | (refine b_add64 ?_ ?_ <;> omega) | exact binA_add)) ?_
            refine OpsG.cons (o_move (by (try simp only [rdF, rd_none, rd_same, rd_ne, ne_eq, Nat.reduceEqDiff, not_false_eq_true, Nat.reduceLT, g0, g2, g3, g8]) <;> rfl)) ?_
            refine OpsG.nil ?_
            refine ⟨_, ?_, i + 1, b1, σ.next + 1, v1, .slice (some ⟨σ.next + 1, 0, none⟩) (ns ++ [(i : Int)]).length unk, ms, ns ++ [(i : Int)], (by (try simp only [rdF, rd_none, rd_same, rd_ne, ne_eq, Nat.reduceEqDiff, not_false_eq_true, Nat.reduceLT, g0, g2, g3, g8]) <;> rfl), (by (try simp only [rdF, rd_none, rd_same, rd_ne, ne_eq, Nat.reduceEqDiff, not_false_eq_true, Nat.reduceLT, g0, g2, g3, g8]) <;> rfl), (by (try simp only [rdF, rd_none, rd_same, rd_ne, ne_eq, Nat.reduceEqDiff, not_false_eq_true, Nat.reduceLT, g0, g2, g3, g8]) <;> rfl), (by (try simp only [rdF, rd_none, rd_same, rd_ne, ne_eq, Nat.reduceEqDiff, not_false_eq_true, Nat.reduceLT, g0, g2, g3, g8]) <;> rfl), by omega, hp3.swap, (pl3 hlt (by simpa using hs) (by simpa using hw) (by simpa using hc)).trans hM, by have := hlm.1; have := hlm.2; refine ⟨?_, ?_⟩ <;> (try simp only [List.length_append, List.length_cons, List.length_nil]) <;> omega, rfl⟩
            omega
          ·
            repeat (refine GoP.seq ?_)
            refine GoP.skip ?_
            repeat (refine GoP.seq ?_)
            refine GoP.region ?_ ?_
            · rfl
            refine OpsG.cons (o_bin (by (try simp only [rdF, rd_none, rd_same, rd_ne, ne_eq, Nat.reduceEqDiff, not_false_eq_true, Nat.reduceLT, g0, g2, g3, g8]) <;> rfl) (by (try simp only [rdF, rd_none, rd_same, rd_ne, ne_eq, Nat.reduceEqDiff, not_false_eq_true, Nat.reduceLT, g0, g2, g3, g8]) <;> rfl) (by first | (refine b_add64 ?_ ?_ <;> omega) | exact binA_add)) ?_
            refine OpsG.cons (o_move (by (try simp only [rdF, rd_none, rd_same, rd_ne, ne_eq, Nat.reduceEqDiff, not_false_eq_true, Nat.reduceLT, g0, g2, g3, g8]) <;> rfl)) ?_
            refine OpsG.nil ?_
            refine ⟨_, ?_, i + 1, b1, b2, v1, v2, ms, ns, (by (try simp only [rdF, rd_none, rd_same, rd_ne, ne_eq, Nat.reduceEqDiff, not_false_eq_true, Nat.reduceLT, g0, g2, g3, g8]) <;> rfl), (by (try simp only [rdF, rd_none, rd_same, rd_ne, ne_eq, Nat.reduceEqDiff, not_false_eq_true, Nat.reduceLT, g0, g2, g3, g8]) <;> rfl), (by (try simp only [rdF, rd_none, rd_same, rd_ne, ne_eq, Nat.reduceEqDiff, not_false_eq_true, Nat.reduceLT, g0, g2, g3, g8]) <;> rfl), (by (try simp only [rdF, rd_none, rd_same, rd_ne, ne_eq, Nat.reduceEqDiff, not_false_eq_true, Nat.reduceLT, g0, g2, g3, g8]) <;> rfl), by omega, hp, (pl1 hlt (by simpa using hs) (by simpa using hw) (by simpa using hc)).trans hM, by have := hlm.1; have := hlm.2; refine ⟨?_, ?_⟩ <;> (try simp only [List.length_append, List.length_cons, List.length_nil]) <;> omega, rfl⟩
            omega
    ·
      repeat (refine GoP.seq ?_)
      refine GoP.exit ?_
      refine Eq.mpr (if_pos rfl) ?_
      repeat (refine GoP.seq ?_)
      refine GoP.region ?_ ?_
      · rfl
      refine OpsG.cons (o_move (by (try simp only [rdF, rd_none, rd_same, rd_ne, ne_eq, Nat.reduceEqDiff, not_false_eq_true, Nat.reduceLT, g0, g2, g3, g8]) <;> rfl)) ?_
      refine OpsG.cons (o_move (by (try simp only [rdF, rd_none, rd_same, rd_ne, ne_eq, Nat.reduceEqDiff, not_false_eq_true, Nat.reduceLT, g0, g2, g3, g8]) <;> rfl)) ?_
      refine OpsG.cons (o_assign (by (try simp only [rdF, rd_none, rd_same, rd_ne, ne_eq, Nat.reduceEqDiff, not_false_eq_true, Nat.reduceLT, g0, g2, g3, g8]) <;> rfl)) ?_
      refine OpsG.cons (o_assign (by (try simp only [rdF, rd_none, rd_same, rd_ne, ne_eq, Nat.reduceEqDiff, not_false_eq_true, Nat.reduceLT, g0, g2, g3, g8]) <;> rfl)) ?_
      refine OpsG.nil ?_
      repeat (refine GoP.seq ?_)
      refine GoP.ret ?_
      refine ⟨.inl rfl, [v1, v2], ?_, ?_⟩
      · exact (by (try simp only [resAllF, resOneF, rdF, rd_none, rd_same, rd_ne, ne_eq, Nat.reduceEqDiff, not_false_eq_true, Nat.reduceLT, g0, g2, g3, g8]) <;> rfl)
      · have hi256 : i = 256 := (by have := of_decide_eq_false hcc; omega)
        subst hi256
        have hM2 : (ms, ns) = M := hM
        rw [← hM2]
        exact ⟨v1, b1, v2, b2, rfl, hp⟩
  ·
    exact ⟨0, 0, 0, .slice none 0 0, .slice none 0 0, [], [], (by (try simp only [rdF, rd_none, rd_same, rd_ne, ne_eq, Nat.reduceEqDiff, not_false_eq_true, Nat.reduceLT, f0]) <;> rfl), (by (try simp only [rdF, rd_none, rd_same, rd_ne, ne_eq, Nat.reduceEqDiff, not_false_eq_true, Nat.reduceLT, f0]) <;> rfl), (by (try simp only [rdF, rd_none, rd_same, rd_ne, ne_eq, Nat.reduceEqDiff, not_false_eq_true, Nat.reduceLT, f0]) <;> rfl), (by (try simp only [rdF, rd_none, rd_same, rd_ne, ne_eq, Nat.reduceEqDiff, not_false_eq_true, Nat.reduceLT, f0]) <;> rfl), by omega, ⟨But.refl _ _, .inl ⟨rfl, rfl⟩, .inl ⟨rfl, rfl⟩, fun h => absurd rfl h, fun h => absurd rfl h, fun h => absurd rfl h⟩, hMM, ⟨Nat.le_refl _, Nat.le_refl _⟩, rfl⟩
end Go.Proofs.YtfffmmgmjlfkoaaGreat
