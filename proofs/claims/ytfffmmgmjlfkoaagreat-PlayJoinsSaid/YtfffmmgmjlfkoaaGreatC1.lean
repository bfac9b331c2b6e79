/- What sixteen pages of a map are told to be: the walk. -/
import Derived.Test.YtfffmmgmjlfkoaaGreatProg
import Derived.KernelRfl
import Derived.Test.YtfffmmgmjlfkoaaGreatA26
namespace Go.Proofs.YtfffmmgmjlfkoaaGreat
set_option linter.unusedSimpArgs false
set_option linter.unusedVariables false
open Go.As

def lf (a b : Int) : Value := .agg #[.int .i64 a, .int .i64 b]
def isLf (v : Value) : Prop := ∃ a b, v = lf a b
def lfOf (v : Value) : Int × Int := match v with | .agg ⟨[.int _ a, .int _ b]⟩ => (a, b) | _ => (0, 0)
theorem lfOf_lf (a b : Int) : lfOf (lf a b) = (a, b) := rfl

def grp (es : List (Int × Value)) (g f p : Int) : Nat → Int → Bool → Bool → Bool × Bool
  | 0, _, s, w => (s, w)
  | m + 1, i, s, w =>
    match lk es (g * 16 + i) with
    | none => grp es g f p m (i + 1) s false
    | some v => grp es g f p m (i + 1) true (w && (lfOf v).2 == p && (lfOf v).1 == IntKind.i64.wrap (f + i))

theorem grp_step {es : List (Int × Value)} {g f p : Int} {m : Nat} {i : Int} {s w : Bool} {a b : Int} (h : (lk es (g * 16 + i)).getD (lf 0 0) = lf a b) :
    grp es g f p (m + 1) i s w = grp es g f p m (i + 1) (s || (lk es (g * 16 + i)).isSome) (w && (lk es (g * 16 + i)).isSome && b == p && a == IntKind.i64.wrap (f + i)) := by
  rw [grp]
  cases hl : lk es (g * 16 + i) with
  | none => simp
  | some v =>
    rw [hl] at h
    have : v = lf a b := h
    subst this
    simp [lfOf_lf]

theorem z110 : zeroV Tryz.prog 110 = some (lf 0 0) := by kernel_rfl
theorem i110 : (Tryz.prog.info? 110).map (·.size) = some 2 := by kernel_rfl
theorem i110' : ∃ it, Tryz.prog.info? 110 = some it ∧ it.size = 2 := by
  have := i110
  cases h : Tryz.prog.info? 110 with
  | none => rw [h] at this; cases this
  | some it => rw [h] at this; exact ⟨it, rfl, by simpa using this⟩
theorem fa110_0 (b : Nat) : fieldAddrA Tryz.prog 110 0 (.pointer (some ⟨b, 0, none⟩)) = some (.pointer (some ⟨b, 0, none⟩)) := by kernel_rfl
theorem fa110_1 (b : Nat) : fieldAddrA Tryz.prog 110 1 (.pointer (some ⟨b, 0, none⟩)) = some (.pointer (some ⟨b, 1, none⟩)) := by kernel_rfl
theorem part3 (cs : List Value) (off : Nat) : partL Tryz.prog 3 cs off = cs[off]? := by kernel_rfl

theorem load3 {σ : St} {b off : Nat} {cs : List Value} {e : TypeId} {kd : Kd} (h : σ.get b = some (.cells cs e kd)) : loadA Tryz.prog σ.get 3 (.pointer (some ⟨b, off, none⟩)) = cs[off]? := by
  simp only [loadA, h, part3]

noncomputable def grpCode : Code := match Tryz.f154.body with | some c => c | none => .skip

theorem wrap_id {n : Int} (h0 : -9223372036854775808 ≤ n) (h1 : n < 9223372036854775808) : IntKind.i64.wrap n = n := by
  simp [IntKind.wrap, IntKind.bits, IntKind.signed]
  omega

/-- What is kept of a state. -/
structure Keeps (σ σ' : St) : Prop where
  get : ∀ b, b < σ.next → σ'.get b = σ.get b
  next : σ.next ≤ σ'.next
theorem Keeps.refl (σ : St) : Keeps σ σ := ⟨fun _ _ => rfl, Nat.le_refl _⟩
theorem Keeps.add {σ σ' : St} (h : Keeps σ σ') (o : AObj) : Keeps σ (σ'.at σ'.next o (σ'.next + 1)) :=
  ⟨fun b hb => by rw [St.get_at, if_neg (by have := h.next; omega)]; exact h.get b hb, Nat.le_succ_of_le h.next⟩
theorem Keeps.put {σ σ' : St} (h : Keeps σ σ') {b : Nat} (hb : σ.next ≤ b) (o : AObj) : Keeps σ (σ'.put b o) :=
  ⟨fun c hc => by rw [St.get_put, if_neg (by omega)]; exact h.get c hc, h.next⟩

theorem alloc110 {P : Program} (hz : zeroV P 110 = some (lf 0 0)) {ρ : Operand → Value} {dst : Option Tmp} {ty : TypeId} {pos : String} {af : Array Edge} {g : Option (Nat × Bool)} {σ : St} :
    allocTo P ρ none ⟨dst, .alloc 110, ty, pos, af, g⟩ σ = some (.pointer (some ⟨σ.next, 0, none⟩), σ.at σ.next (.cells [.int .i64 0, .int .i64 0] 110 .ex) (σ.next + 1)) := by
  simp only [allocTo, allocA, hz, Option.map_some, place]
  rfl

theorem store110 {ρ : Operand → Value} {dst : Option Tmp} {ty : TypeId} {pos : String} {af : Array Edge} {g : Option (Nat × Bool)} {σ : St} {K : Kn} {x y : Operand} {b : Nat} {a c d e : Int} (hb : σ.get b = some (.cells [.int .i64 a, .int .i64 c] 110 .ex))
    (hx : ρ x = .pointer (some ⟨b, 0, none⟩)) (hy : ρ y = lf d e) : writesA Tryz.prog K ρ ⟨dst, .store 110 x y, ty, pos, af, g⟩ σ = some (undef, σ.put b (.cells [.int .i64 d, .int .i64 e] 110 .ex)) := by
  obtain ⟨it, h1, h2⟩ := i110'
  simp only [writesA, hx, hy]
  rw [storeA_at hb h1 (by decide) (by rw [h2]; rfl) rfl (Nat.le_refl 2)]
  rfl

set_option maxRecDepth 4000 in
theorem grp_walk {σ : St} {r : Nat} {es : List (Int × Value)} {g : Int} (hr : σ.get r = some (.map .i64 es)) (hrn : r < σ.next) (hg0 : 0 ≤ g) (hg1 : g < 256) (hes : ∀ n v, lk es n = some v → isLf v) :
    EvP Tryz.prog noK 20 56 grpCode (fill .nil 0 [.map (some r), .int .i64 g]) σ fun e t' σ' => e = .ret ∧ Keeps σ σ' ∧
      rdT 56 t' 4 = .bool (grp es g ((lfOf ((lk es (g * 16)).getD (lf 0 0))).1) ((lfOf ((lk es (g * 16)).getD (lf 0 0))).2) 16 0 false (lk es (g * 16)).isSome).1 ∧
      rdT 56 t' 5 = .bool (grp es g ((lfOf ((lk es (g * 16)).getD (lf 0 0))).1) ((lfOf ((lk es (g * 16)).getD (lf 0 0))).2) 16 0 false (lk es (g * 16)).isSome).2 := by
  have hlf : ∀ n, isLf ((lk es n).getD (lf 0 0)) := by
    intro n
    cases h : lk es n with
    | none => exact ⟨0, 0, rfl⟩
    | some v => exact hes n v h
  have h16 : IntKind.i64.wrap (g * 16) = g * 16 := wrap_id (by omega) (by omega)
  generalize hF : lfOf ((lk es (g * 16)).getD (lf 0 0)) = F
  have hFl : (lk es (g * 16)).getD (lf 0 0) = lf F.1 F.2 := by
    obtain ⟨a, b, e⟩ := hlf (g * 16)
    rw [e] at hF ⊢
    rw [← hF]; rfl
  have f0 : rdT 56 (fill .nil 0 [.map (some r), .int .i64 g]) 0 = .map (some r) := rfl
  have f1 : rdT 56 (fill .nil 0 [.map (some r), .int .i64 g]) 1 = .int .i64 g := rfl
  generalize fill .nil 0 [.map (some r), .int .i64 g] = t at f0 f1
  unfold grpCode Tryz.f154
  refine EvP.seq (EvP.region ?_)
  refine OpsP.cons op_assign (OpsP.cons op_assign (OpsP.nil ?_))
  refine EvP.seq (EvP.region ?_)
  refine OpsP.cons op_move (OpsP.cons op_move ?_)
  refine OpsP.cons (op_bin (v := .int .i64 (g * 16)) ?_) ?_
  · simp only [rdF, rd_none, rd_same, rd_ne, ne_eq, Nat.reduceEqDiff, not_false_eq_true, Nat.reduceLT, f1, binA_mul, h16]
  refine OpsP.cons (op_silent (v := .tuple #[lf F.1 F.2, .bool (lk es (g * 16)).isSome]) rfl ?_) ?_
  · simp only [silentA, rdF, rd_none, rd_same, rd_ne, ne_eq, Nat.reduceEqDiff, not_false_eq_true, Nat.reduceLT, f0]
    rw [lookupA_ok2 Tryz.underlying170 Tryz.underlying3 z110 hr, hFl]
  refine OpsP.cons op_move ?_
  refine OpsP.cons (op_extract (v := lf F.1 F.2) (vs := #[lf F.1 F.2, .bool (lk es (g * 16)).isSome]) ?_ rfl) ?_
  · simp only [rdF, rd_same, ne_eq, Nat.reduceLT]
  refine OpsP.cons (op_extract (v := .bool (lk es (g * 16)).isSome) (vs := #[lf F.1 F.2, .bool (lk es (g * 16)).isSome]) ?_ rfl) ?_
  · simp only [rdF, rd_none, rd_same, rd_ne, ne_eq, Nat.reduceEqDiff, not_false_eq_true, Nat.reduceLT]
  refine OpsP.cons (op_makes rfl (alloc110 z110)) ?_
  refine OpsP.cons (op_writes rfl (store110 (b := σ.next) (a := 0) (c := 0) (d := F.1) (e := F.2) (by rw [St.get_at, if_pos rfl]) ?_ ?_)) ?_
  · simp only [rdF, rd_none, rd_same, rd_ne, ne_eq, Nat.reduceEqDiff, not_false_eq_true, Nat.reduceLT]
  · simp only [rdF, rd_none, rd_same, rd_ne, ne_eq, Nat.reduceEqDiff, not_false_eq_true, Nat.reduceLT]
  refine OpsP.cons op_assign (OpsP.nil ?_)
  refine EvP.seq (EvP.seq (EvP.region ?_))
  refine OpsP.cons op_move (OpsP.nil ?_)
  generalize hG : grp es g F.1 F.2 16 0 false (lk es (g * 16)).isSome = G
  refine EvP.block (EvP.loop (fun m t σ' => ∃ (i : Nat) (s w : Bool) (b6 : Nat), i + m = 16 ∧ Keeps σ σ' ∧ σ.next ≤ b6 ∧ b6 < σ'.next ∧ σ'.get b6 = some (.cells [.int .i64 F.1, .int .i64 F.2] 110 .ex) ∧
    rdT 56 t 0 = .map (some r) ∧ rdT 56 t 1 = .int .i64 g ∧ rdT 56 t 4 = .bool s ∧ rdT 56 t 5 = .bool w ∧ rdT 56 t 6 = .pointer (some ⟨b6, 0, none⟩) ∧ rdT 56 t 17 = .int .i64 i ∧ grp es g F.1 F.2 m i s w = G) ?_ (m := 16) (by decide) ?_)
  · rintro m t σ1 ⟨i, s, w, b6, him, hk, hb1, hb2, hb6, g0, g1, g4, g5, g6, g17, hgr⟩
    have hr1 : σ1.get r = some (.map .i64 es) := by rw [hk.get r hrn]; exact hr
    refine EvP.seq (EvP.region ?_)
    refine OpsP.cons (op_bin (v := .bool (decide ((i : Int) < 16))) ?_) (OpsP.nil ?_)
    · simp only [rdF, rd_none, rd_same, rd_ne, ne_eq, Nat.reduceEqDiff, not_false_eq_true, Nat.reduceLT, g17, binA_lss]
    refine EvP.seq ?_
    cases m with
    | zero =>
      have hi : i = 16 := by omega
      subst hi
      refine EvP.cond_false (by simp only [rdF, rd_none, rd_same, rd_ne, ne_eq, Nat.reduceEqDiff, not_false_eq_true, Nat.reduceLT]; rfl) (EvP.exit ?_)
      refine Eq.mpr (if_pos rfl) ?_
      refine EvP.seq (EvP.region ?_)
      refine OpsP.cons op_move (OpsP.cons op_move (OpsP.cons op_assign (OpsP.cons op_assign (OpsP.nil ?_))))
      refine EvP.ret ⟨rfl, hk, ?_, ?_⟩
      · simp only [rdF, rd_none, rd_same, rd_ne, ne_eq, Nat.reduceEqDiff, not_false_eq_true, Nat.reduceLT, g4, ← hgr, grp]
      · simp only [rdF, rd_none, rd_same, rd_ne, ne_eq, Nat.reduceEqDiff, not_false_eq_true, Nat.reduceLT, g5, ← hgr, grp]
    | succ m =>
      have hi : i < 16 := by omega
      refine EvP.cond_true (by simp only [rdF, rd_none, rd_same, rd_ne, ne_eq, Nat.reduceEqDiff, not_false_eq_true, Nat.reduceLT]; simp; omega) (EvP.skip ?_)
      have hgi : IntKind.i64.wrap (g * 16 + i) = g * 16 + i := wrap_id (by omega) (by omega)
      refine EvP.seq (EvP.block (EvP.seq (EvP.region ?_)))
      refine OpsP.cons op_move (OpsP.cons op_assign (OpsP.nil ?_))
      refine EvP.seq (EvP.region ?_)
      refine OpsP.cons op_move (OpsP.cons op_move ?_)
      refine OpsP.cons (op_bin (v := .int .i64 (g * 16)) ?_) ?_
      · simp only [rdF, rd_none, rd_same, rd_ne, ne_eq, Nat.reduceEqDiff, not_false_eq_true, Nat.reduceLT, g1, binA_mul, h16]
      refine OpsP.cons op_move ?_
      refine OpsP.cons (op_bin (v := .int .i64 (g * 16 + i)) ?_) ?_
      · simp only [rdF, rd_none, rd_same, rd_ne, ne_eq, Nat.reduceEqDiff, not_false_eq_true, Nat.reduceLT, g17, binA_add, hgi]
      obtain ⟨a, b, hab⟩ := hlf (g * 16 + i)
      refine OpsP.cons (op_silent (v := .tuple #[lf a b, .bool (lk es (g * 16 + i)).isSome]) rfl ?_) ?_
      · simp only [silentA, rdF, rd_none, rd_same, rd_ne, ne_eq, Nat.reduceEqDiff, not_false_eq_true, Nat.reduceLT, g0]
        rw [lookupA_ok2 Tryz.underlying170 Tryz.underlying3 z110 hr1, hab]
      refine OpsP.cons op_move ?_
      refine OpsP.cons (op_extract (v := lf a b) (vs := #[lf a b, .bool (lk es (g * 16 + i)).isSome]) ?_ rfl) ?_
      · simp only [rdF, rd_none, rd_same, rd_ne, ne_eq, Nat.reduceEqDiff, not_false_eq_true, Nat.reduceLT]
      refine OpsP.cons (op_extract (v := .bool (lk es (g * 16 + i)).isSome) (vs := #[lf a b, .bool (lk es (g * 16 + i)).isSome]) ?_ rfl) ?_
      · simp only [rdF, rd_none, rd_same, rd_ne, ne_eq, Nat.reduceEqDiff, not_false_eq_true, Nat.reduceLT]
      refine OpsP.cons (op_makes rfl (alloc110 z110)) ?_
      refine OpsP.cons (op_writes rfl (store110 (b := σ1.next) (a := 0) (c := 0) (d := a) (e := b) (by rw [St.get_at, if_pos rfl]) ?_ ?_)) ?_
      · simp only [rdF, rd_none, rd_same, rd_ne, ne_eq, Nat.reduceEqDiff, not_false_eq_true, Nat.reduceLT]
      · simp only [rdF, rd_none, rd_same, rd_ne, ne_eq, Nat.reduceEqDiff, not_false_eq_true, Nat.reduceLT]
      refine OpsP.cons op_assign (OpsP.nil ?_)
      have hk2 : Keeps σ ((σ1.at σ1.next (.cells [.int .i64 0, .int .i64 0] 110 .ex) (σ1.next + 1)).put σ1.next (.cells [.int .i64 a, .int .i64 b] 110 .ex)) := (hk.add _).put hk.next _
      have hb6' : ((σ1.at σ1.next (.cells [.int .i64 0, .int .i64 0] 110 .ex) (σ1.next + 1)).put σ1.next (.cells [.int .i64 a, .int .i64 b] 110 .ex)).get b6 = some (.cells [.int .i64 F.1, .int .i64 F.2] 110 .ex) := by
        rw [St.get_put, if_neg (by omega), St.get_at, if_neg (by omega), hb6]
      have hb8 : ((σ1.at σ1.next (.cells [.int .i64 0, .int .i64 0] 110 .ex) (σ1.next + 1)).put σ1.next (.cells [.int .i64 a, .int .i64 b] 110 .ex)).get σ1.next = some (.cells [.int .i64 a, .int .i64 b] 110 .ex) := by
        rw [St.get_put, if_pos rfl]
      have hnx : ((σ1.at σ1.next (.cells [.int .i64 0, .int .i64 0] 110 .ex) (σ1.next + 1)).put σ1.next (.cells [.int .i64 a, .int .i64 b] 110 .ex)).next = σ1.next + 1 := rfl
      generalize (σ1.at σ1.next (.cells [.int .i64 0, .int .i64 0] 110 .ex) (σ1.next + 1)).put σ1.next (.cells [.int .i64 a, .int .i64 b] 110 .ex) = σ2 at hk2 hb6' hb8 hnx
      generalize hT2 : putF _ (some 9) _ = t2
      have q0 : rdT 56 t2 0 = .map (some r) := by rw [← hT2]; simp only [rdF, rd_none, rd_same, rd_ne, ne_eq, Nat.reduceEqDiff, not_false_eq_true, Nat.reduceLT, g0]
      have q1 : rdT 56 t2 1 = .int .i64 g := by rw [← hT2]; simp only [rdF, rd_none, rd_same, rd_ne, ne_eq, Nat.reduceEqDiff, not_false_eq_true, Nat.reduceLT, g1]
      have q4 : rdT 56 t2 4 = .bool s := by rw [← hT2]; simp only [rdF, rd_none, rd_same, rd_ne, ne_eq, Nat.reduceEqDiff, not_false_eq_true, Nat.reduceLT, g4]
      have q5 : rdT 56 t2 5 = .bool w := by rw [← hT2]; simp only [rdF, rd_none, rd_same, rd_ne, ne_eq, Nat.reduceEqDiff, not_false_eq_true, Nat.reduceLT, g5]
      have q6 : rdT 56 t2 6 = .pointer (some ⟨b6, 0, none⟩) := by rw [← hT2]; simp only [rdF, rd_none, rd_same, rd_ne, ne_eq, Nat.reduceEqDiff, not_false_eq_true, Nat.reduceLT, g6]
      have q7 : rdT 56 t2 7 = .int .i64 i := by rw [← hT2]; simp only [rdF, rd_none, rd_same, rd_ne, ne_eq, Nat.reduceEqDiff, not_false_eq_true, Nat.reduceLT, g17]
      have q8 : rdT 56 t2 8 = .pointer (some ⟨σ1.next, 0, none⟩) := by rw [← hT2]; simp only [rdF, rd_none, rd_same, rd_ne, ne_eq, Nat.reduceEqDiff, not_false_eq_true, Nat.reduceLT]
      have q9 : rdT 56 t2 9 = .bool (lk es (g * 16 + i)).isSome := by rw [← hT2]; simp only [rdF, rd_none, rd_same, rd_ne, ne_eq, Nat.reduceEqDiff, not_false_eq_true, Nat.reduceLT]
      have q17 : rdT 56 t2 17 = .int .i64 i := by rw [← hT2]; simp only [rdF, rd_none, rd_same, rd_ne, ne_eq, Nat.reduceEqDiff, not_false_eq_true, Nat.reduceLT, g17]
      clear hT2
      rw [grp_step hab] at hgr
      generalize hs' : (lk es (g * 16 + i)).isSome = is at q9 hgr
      refine EvP.seq (EvP.region (Q := fun e t' σ' => e = .normal ∧ σ' = σ2 ∧ rdT 56 t' 4 = .bool (s || is) ∧ (∀ j, j = 0 ∨ j = 1 ∨ j = 5 ∨ j = 6 ∨ j = 7 ∨ j = 8 ∨ j = 9 ∨ j = 17 → rdT 56 t' j = rdT 56 t2 j)) ?_ |>.mono ?_)
      · refine OpsP.cons op_move (OpsP.cons op_move ?_)
        cases s with
        | true =>
          refine OpsP.skip rfl rfl (by simp only [rdF, rd_none, rd_same, rd_ne, ne_eq, Nat.reduceEqDiff, not_false_eq_true, Nat.reduceLT, q4]; rfl) ?_
          refine OpsP.cons (op_pick_true (by simp only [rdF, rd_none, rd_same, rd_ne, ne_eq, Nat.reduceEqDiff, not_false_eq_true, Nat.reduceLT, q4])) ?_
          refine OpsP.cons op_assign (OpsP.nil ⟨rfl, rfl, ?_, ?_⟩)
          · simp only [rdF, rd_none, rd_same, rd_ne, ne_eq, Nat.reduceEqDiff, not_false_eq_true, Nat.reduceLT, q9]; rfl
          · rintro j (rfl | rfl | rfl | rfl | rfl | rfl | rfl | rfl) <;> simp only [rdF, rd_none, rd_same, rd_ne, ne_eq, Nat.reduceEqDiff, not_false_eq_true, Nat.reduceLT]
        | false =>
          refine OpsP.want rfl rfl (by simp only [rdF, rd_none, rd_same, rd_ne, ne_eq, Nat.reduceEqDiff, not_false_eq_true, Nat.reduceLT, q4]) op_move ?_
          refine OpsP.cons (op_pick_false (by simp only [rdF, rd_none, rd_same, rd_ne, ne_eq, Nat.reduceEqDiff, not_false_eq_true, Nat.reduceLT, q4])) ?_
          refine OpsP.cons op_assign (OpsP.nil ⟨rfl, rfl, ?_, ?_⟩)
          · simp only [rdF, rd_none, rd_same, rd_ne, ne_eq, Nat.reduceEqDiff, not_false_eq_true, Nat.reduceLT, q9]; rfl
          · rintro j (rfl | rfl | rfl | rfl | rfl | rfl | rfl | rfl) <;> simp only [rdF, rd_none, rd_same, rd_ne, ne_eq, Nat.reduceEqDiff, not_false_eq_true, Nat.reduceLT]
      rintro e t3 σ3 ⟨rfl, rfl, p4, pk⟩
      replace q0 := (pk 0 (by decide)).trans q0
      replace q1 := (pk 1 (by decide)).trans q1
      replace q5 := (pk 5 (by decide)).trans q5
      replace q6 := (pk 6 (by decide)).trans q6
      replace q7 := (pk 7 (by decide)).trans q7
      replace q8 := (pk 8 (by decide)).trans q8
      replace q9 := (pk 9 (by decide)).trans q9
      replace q17 := (pk 17 (by decide)).trans q17
      clear pk q4
      refine EvP.mono (Q := fun e t' σ' => e = .normal ∧ σ' = σ3 ∧ rdT 56 t' 5 = .bool (w && is && b == F.2 && a == IntKind.i64.wrap (F.1 + i)) ∧ (∀ j, j = 0 ∨ j = 1 ∨ j = 4 ∨ j = 6 ∨ j = 17 → rdT 56 t' j = rdT 56 t3 j)) (EvP.region ?_) ?_
      · refine OpsP.cons op_move (OpsP.cons op_move ?_)
        cases w with
        | false =>
          refine OpsP.skip rfl rfl (by simp only [rdF, rd_none, rd_same, rd_ne, ne_eq, Nat.reduceEqDiff, not_false_eq_true, Nat.reduceLT, q5]; rfl) ?_
          refine OpsP.cons (op_pick_false (by simp only [rdF, rd_none, rd_same, rd_ne, ne_eq, Nat.reduceEqDiff, not_false_eq_true, Nat.reduceLT, q5])) (OpsP.cons op_move ?_)
          refine OpsP.skip rfl rfl (by simp only [rdF, rd_none, rd_same, rd_ne, ne_eq, Nat.reduceEqDiff, not_false_eq_true, Nat.reduceLT]; rfl) ?_
          refine OpsP.skip rfl rfl (by simp only [rdF, rd_none, rd_same, rd_ne, ne_eq, Nat.reduceEqDiff, not_false_eq_true, Nat.reduceLT]; rfl) ?_
          refine OpsP.skip rfl rfl (by simp only [rdF, rd_none, rd_same, rd_ne, ne_eq, Nat.reduceEqDiff, not_false_eq_true, Nat.reduceLT]; rfl) ?_
          refine OpsP.skip rfl rfl (by simp only [rdF, rd_none, rd_same, rd_ne, ne_eq, Nat.reduceEqDiff, not_false_eq_true, Nat.reduceLT]; rfl) ?_
          refine OpsP.skip rfl rfl (by simp only [rdF, rd_none, rd_same, rd_ne, ne_eq, Nat.reduceEqDiff, not_false_eq_true, Nat.reduceLT]; rfl) ?_
          refine OpsP.cons (op_pick_false (by simp only [rdF, rd_none, rd_same, rd_ne, ne_eq, Nat.reduceEqDiff, not_false_eq_true, Nat.reduceLT])) (OpsP.cons op_move ?_)
          refine OpsP.skip rfl rfl (by simp only [rdF, rd_none, rd_same, rd_ne, ne_eq, Nat.reduceEqDiff, not_false_eq_true, Nat.reduceLT]; rfl) ?_
          refine OpsP.skip rfl rfl (by simp only [rdF, rd_none, rd_same, rd_ne, ne_eq, Nat.reduceEqDiff, not_false_eq_true, Nat.reduceLT]; rfl) ?_
          refine OpsP.skip rfl rfl (by simp only [rdF, rd_none, rd_same, rd_ne, ne_eq, Nat.reduceEqDiff, not_false_eq_true, Nat.reduceLT]; rfl) ?_
          refine OpsP.skip rfl rfl (by simp only [rdF, rd_none, rd_same, rd_ne, ne_eq, Nat.reduceEqDiff, not_false_eq_true, Nat.reduceLT]; rfl) ?_
          refine OpsP.skip rfl rfl (by simp only [rdF, rd_none, rd_same, rd_ne, ne_eq, Nat.reduceEqDiff, not_false_eq_true, Nat.reduceLT]; rfl) ?_
          refine OpsP.skip rfl rfl (by simp only [rdF, rd_none, rd_same, rd_ne, ne_eq, Nat.reduceEqDiff, not_false_eq_true, Nat.reduceLT]; rfl) ?_
          refine OpsP.skip rfl rfl (by simp only [rdF, rd_none, rd_same, rd_ne, ne_eq, Nat.reduceEqDiff, not_false_eq_true, Nat.reduceLT]; rfl) ?_
          refine OpsP.cons (op_pick_false (by simp only [rdF, rd_none, rd_same, rd_ne, ne_eq, Nat.reduceEqDiff, not_false_eq_true, Nat.reduceLT])) (OpsP.cons op_assign (OpsP.nil ⟨rfl, rfl, ?_, ?_⟩))
          · simp only [rdF, rd_none, rd_same, rd_ne, ne_eq, Nat.reduceEqDiff, not_false_eq_true, Nat.reduceLT]; rfl
          · rintro j (rfl | rfl | rfl | rfl | rfl) <;> simp only [rdF, rd_none, rd_same, rd_ne, ne_eq, Nat.reduceEqDiff, not_false_eq_true, Nat.reduceLT]
        | true =>
          refine OpsP.want rfl rfl (by simp only [rdF, rd_none, rd_same, rd_ne, ne_eq, Nat.reduceEqDiff, not_false_eq_true, Nat.reduceLT, q5]) op_move ?_
          refine OpsP.cons (op_pick_true (by simp only [rdF, rd_none, rd_same, rd_ne, ne_eq, Nat.reduceEqDiff, not_false_eq_true, Nat.reduceLT, q5])) (OpsP.cons op_move ?_)
          cases is with
          | false =>
            refine OpsP.skip rfl rfl (by simp only [rdF, rd_none, rd_same, rd_ne, ne_eq, Nat.reduceEqDiff, not_false_eq_true, Nat.reduceLT, q9]; rfl) ?_
            refine OpsP.skip rfl rfl (by simp only [rdF, rd_none, rd_same, rd_ne, ne_eq, Nat.reduceEqDiff, not_false_eq_true, Nat.reduceLT, q9]; rfl) ?_
            refine OpsP.skip rfl rfl (by simp only [rdF, rd_none, rd_same, rd_ne, ne_eq, Nat.reduceEqDiff, not_false_eq_true, Nat.reduceLT, q9]; rfl) ?_
            refine OpsP.skip rfl rfl (by simp only [rdF, rd_none, rd_same, rd_ne, ne_eq, Nat.reduceEqDiff, not_false_eq_true, Nat.reduceLT, q9]; rfl) ?_
            refine OpsP.skip rfl rfl (by simp only [rdF, rd_none, rd_same, rd_ne, ne_eq, Nat.reduceEqDiff, not_false_eq_true, Nat.reduceLT, q9]; rfl) ?_
            refine OpsP.cons (op_pick_false (by simp only [rdF, rd_none, rd_same, rd_ne, ne_eq, Nat.reduceEqDiff, not_false_eq_true, Nat.reduceLT, q9])) (OpsP.cons op_move ?_)
            refine OpsP.skip rfl rfl (by simp only [rdF, rd_none, rd_same, rd_ne, ne_eq, Nat.reduceEqDiff, not_false_eq_true, Nat.reduceLT, q9]; rfl) ?_
            refine OpsP.skip rfl rfl (by simp only [rdF, rd_none, rd_same, rd_ne, ne_eq, Nat.reduceEqDiff, not_false_eq_true, Nat.reduceLT, q9]; rfl) ?_
            refine OpsP.skip rfl rfl (by simp only [rdF, rd_none, rd_same, rd_ne, ne_eq, Nat.reduceEqDiff, not_false_eq_true, Nat.reduceLT, q9]; rfl) ?_
            refine OpsP.skip rfl rfl (by simp only [rdF, rd_none, rd_same, rd_ne, ne_eq, Nat.reduceEqDiff, not_false_eq_true, Nat.reduceLT, q9]; rfl) ?_
            refine OpsP.skip rfl rfl (by simp only [rdF, rd_none, rd_same, rd_ne, ne_eq, Nat.reduceEqDiff, not_false_eq_true, Nat.reduceLT, q9]; rfl) ?_
            refine OpsP.skip rfl rfl (by simp only [rdF, rd_none, rd_same, rd_ne, ne_eq, Nat.reduceEqDiff, not_false_eq_true, Nat.reduceLT, q9]; rfl) ?_
            refine OpsP.skip rfl rfl (by simp only [rdF, rd_none, rd_same, rd_ne, ne_eq, Nat.reduceEqDiff, not_false_eq_true, Nat.reduceLT, q9]; rfl) ?_
            refine OpsP.cons (op_pick_false (by simp only [rdF, rd_none, rd_same, rd_ne, ne_eq, Nat.reduceEqDiff, not_false_eq_true, Nat.reduceLT, q9])) (OpsP.cons op_assign (OpsP.nil ⟨rfl, rfl, ?_, ?_⟩))
            · simp only [rdF, rd_none, rd_same, rd_ne, ne_eq, Nat.reduceEqDiff, not_false_eq_true, Nat.reduceLT, q9]; rfl
            · rintro j (rfl | rfl | rfl | rfl | rfl) <;> simp only [rdF, rd_none, rd_same, rd_ne, ne_eq, Nat.reduceEqDiff, not_false_eq_true, Nat.reduceLT]
          | true =>
            refine OpsP.want rfl rfl (by simp only [rdF, rd_none, rd_same, rd_ne, ne_eq, Nat.reduceEqDiff, not_false_eq_true, Nat.reduceLT, q9]) (op_field (v := .pointer (some ⟨σ1.next, 1, none⟩)) (by simp only [rdF, rd_none, rd_same, rd_ne, ne_eq, Nat.reduceEqDiff, not_false_eq_true, Nat.reduceLT, q8, fa110_1])) ?_
            refine OpsP.want rfl rfl (by simp only [rdF, rd_none, rd_same, rd_ne, ne_eq, Nat.reduceEqDiff, not_false_eq_true, Nat.reduceLT, q9]) (op_load (v := .int .i64 b) (by simp only [rdF, rd_none, rd_same, rd_ne, ne_eq, Nat.reduceEqDiff, not_false_eq_true, Nat.reduceLT]; rw [load3 hb8]; rfl)) ?_
            refine OpsP.want rfl rfl (by simp only [rdF, rd_none, rd_same, rd_ne, ne_eq, Nat.reduceEqDiff, not_false_eq_true, Nat.reduceLT, q9]) (op_field (v := .pointer (some ⟨b6, 1, none⟩)) (by simp only [rdF, rd_none, rd_same, rd_ne, ne_eq, Nat.reduceEqDiff, not_false_eq_true, Nat.reduceLT, q6, fa110_1])) ?_
            refine OpsP.want rfl rfl (by simp only [rdF, rd_none, rd_same, rd_ne, ne_eq, Nat.reduceEqDiff, not_false_eq_true, Nat.reduceLT, q9]) (op_load (v := .int .i64 F.2) (by simp only [rdF, rd_none, rd_same, rd_ne, ne_eq, Nat.reduceEqDiff, not_false_eq_true, Nat.reduceLT]; rw [load3 hb6']; rfl)) ?_
            refine OpsP.want rfl rfl (by simp only [rdF, rd_none, rd_same, rd_ne, ne_eq, Nat.reduceEqDiff, not_false_eq_true, Nat.reduceLT, q9]) (op_bin (v := .bool (b == F.2)) (by simp only [rdF, rd_none, rd_same, rd_ne, ne_eq, Nat.reduceEqDiff, not_false_eq_true, Nat.reduceLT, binA_eql])) ?_
            refine OpsP.cons (op_pick_true (by simp only [rdF, rd_none, rd_same, rd_ne, ne_eq, Nat.reduceEqDiff, not_false_eq_true, Nat.reduceLT, q9])) (OpsP.cons op_move ?_)
            cases hbp : (b == F.2) with
            | false =>
              refine OpsP.skip rfl rfl (by simp only [rdF, rd_none, rd_same, rd_ne, ne_eq, Nat.reduceEqDiff, not_false_eq_true, Nat.reduceLT, hbp]; rfl) ?_
              refine OpsP.skip rfl rfl (by simp only [rdF, rd_none, rd_same, rd_ne, ne_eq, Nat.reduceEqDiff, not_false_eq_true, Nat.reduceLT, hbp]; rfl) ?_
              refine OpsP.skip rfl rfl (by simp only [rdF, rd_none, rd_same, rd_ne, ne_eq, Nat.reduceEqDiff, not_false_eq_true, Nat.reduceLT, hbp]; rfl) ?_
              refine OpsP.skip rfl rfl (by simp only [rdF, rd_none, rd_same, rd_ne, ne_eq, Nat.reduceEqDiff, not_false_eq_true, Nat.reduceLT, hbp]; rfl) ?_
              refine OpsP.skip rfl rfl (by simp only [rdF, rd_none, rd_same, rd_ne, ne_eq, Nat.reduceEqDiff, not_false_eq_true, Nat.reduceLT, hbp]; rfl) ?_
              refine OpsP.skip rfl rfl (by simp only [rdF, rd_none, rd_same, rd_ne, ne_eq, Nat.reduceEqDiff, not_false_eq_true, Nat.reduceLT, hbp]; rfl) ?_
              refine OpsP.skip rfl rfl (by simp only [rdF, rd_none, rd_same, rd_ne, ne_eq, Nat.reduceEqDiff, not_false_eq_true, Nat.reduceLT, hbp]; rfl) ?_
              refine OpsP.cons (op_pick_false (by simp only [rdF, rd_none, rd_same, rd_ne, ne_eq, Nat.reduceEqDiff, not_false_eq_true, Nat.reduceLT, hbp])) (OpsP.cons op_assign (OpsP.nil ⟨rfl, rfl, ?_, ?_⟩))
              · simp only [rdF, rd_none, rd_same, rd_ne, ne_eq, Nat.reduceEqDiff, not_false_eq_true, Nat.reduceLT, hbp]; rfl
              · rintro j (rfl | rfl | rfl | rfl | rfl) <;> simp only [rdF, rd_none, rd_same, rd_ne, ne_eq, Nat.reduceEqDiff, not_false_eq_true, Nat.reduceLT]
            | true =>
              refine OpsP.want rfl rfl (by simp only [rdF, rd_none, rd_same, rd_ne, ne_eq, Nat.reduceEqDiff, not_false_eq_true, Nat.reduceLT, hbp]) (op_field (v := .pointer (some ⟨σ1.next, 0, none⟩)) (by simp only [rdF, rd_none, rd_same, rd_ne, ne_eq, Nat.reduceEqDiff, not_false_eq_true, Nat.reduceLT, q8, fa110_0])) ?_
              refine OpsP.want rfl rfl (by simp only [rdF, rd_none, rd_same, rd_ne, ne_eq, Nat.reduceEqDiff, not_false_eq_true, Nat.reduceLT, hbp]) (op_load (v := .int .i64 a) (by simp only [rdF, rd_none, rd_same, rd_ne, ne_eq, Nat.reduceEqDiff, not_false_eq_true, Nat.reduceLT]; rw [load3 hb8]; rfl)) ?_
              refine OpsP.want rfl rfl (by simp only [rdF, rd_none, rd_same, rd_ne, ne_eq, Nat.reduceEqDiff, not_false_eq_true, Nat.reduceLT, hbp]) (op_field (v := .pointer (some ⟨b6, 0, none⟩)) (by simp only [rdF, rd_none, rd_same, rd_ne, ne_eq, Nat.reduceEqDiff, not_false_eq_true, Nat.reduceLT, q6, fa110_0])) ?_
              refine OpsP.want rfl rfl (by simp only [rdF, rd_none, rd_same, rd_ne, ne_eq, Nat.reduceEqDiff, not_false_eq_true, Nat.reduceLT, hbp]) (op_load (v := .int .i64 F.1) (by simp only [rdF, rd_none, rd_same, rd_ne, ne_eq, Nat.reduceEqDiff, not_false_eq_true, Nat.reduceLT]; rw [load3 hb6']; rfl)) ?_
              refine OpsP.want rfl rfl (by simp only [rdF, rd_none, rd_same, rd_ne, ne_eq, Nat.reduceEqDiff, not_false_eq_true, Nat.reduceLT, hbp]) op_move ?_
              refine OpsP.want rfl rfl (by simp only [rdF, rd_none, rd_same, rd_ne, ne_eq, Nat.reduceEqDiff, not_false_eq_true, Nat.reduceLT, hbp]) (op_bin (v := .int .i64 (IntKind.i64.wrap (F.1 + i))) (by simp only [rdF, rd_none, rd_same, rd_ne, ne_eq, Nat.reduceEqDiff, not_false_eq_true, Nat.reduceLT, q7, binA_add])) ?_
              refine OpsP.want rfl rfl (by simp only [rdF, rd_none, rd_same, rd_ne, ne_eq, Nat.reduceEqDiff, not_false_eq_true, Nat.reduceLT, hbp]) (op_bin (v := .bool (a == IntKind.i64.wrap (F.1 + i))) (by simp only [rdF, rd_none, rd_same, rd_ne, ne_eq, Nat.reduceEqDiff, not_false_eq_true, Nat.reduceLT, binA_eql])) ?_
              refine OpsP.cons (op_pick_true (by simp only [rdF, rd_none, rd_same, rd_ne, ne_eq, Nat.reduceEqDiff, not_false_eq_true, Nat.reduceLT, hbp])) (OpsP.cons op_assign (OpsP.nil ⟨rfl, rfl, ?_, ?_⟩))
              · simp only [rdF, rd_none, rd_same, rd_ne, ne_eq, Nat.reduceEqDiff, not_false_eq_true, Nat.reduceLT]; rfl
              · rintro j (rfl | rfl | rfl | rfl | rfl) <;> simp only [rdF, rd_none, rd_same, rd_ne, ne_eq, Nat.reduceEqDiff, not_false_eq_true, Nat.reduceLT]
      rintro e t4 σ4 ⟨rfl, rfl, p5, pk⟩
      replace q0 := (pk 0 (by decide)).trans q0
      replace q1 := (pk 1 (by decide)).trans q1
      replace p4 := (pk 4 (by decide)).trans p4
      replace q6 := (pk 6 (by decide)).trans q6
      replace q17 := (pk 17 (by decide)).trans q17
      have hi1 : IntKind.i64.wrap ((i : Int) + 1) = ((i + 1 : Nat) : Int) := by rw [wrap_id (by omega) (by omega)]; omega
      refine EvP.region ?_
      refine OpsP.cons (op_bin (v := .int .i64 ((i + 1 : Nat) : Int)) (by simp only [rdF, rd_none, rd_same, rd_ne, ne_eq, Nat.reduceEqDiff, not_false_eq_true, Nat.reduceLT, q17, binA_add, hi1])) (OpsP.cons op_move (OpsP.nil ?_))
      refine ⟨m, Nat.lt_succ_self m, i + 1, s || is, w && is && b == F.2 && a == IntKind.i64.wrap (F.1 + i), b6, by omega, hk2, hb1, by omega, hb6', ?_, ?_, ?_, ?_, ?_, ?_, by rw [← hgr]; rfl⟩
      · simp only [rdF, rd_none, rd_same, rd_ne, ne_eq, Nat.reduceEqDiff, not_false_eq_true, Nat.reduceLT, q0]
      · simp only [rdF, rd_none, rd_same, rd_ne, ne_eq, Nat.reduceEqDiff, not_false_eq_true, Nat.reduceLT, q1]
      · simp only [rdF, rd_none, rd_same, rd_ne, ne_eq, Nat.reduceEqDiff, not_false_eq_true, Nat.reduceLT, p4]
      · simp only [rdF, rd_none, rd_same, rd_ne, ne_eq, Nat.reduceEqDiff, not_false_eq_true, Nat.reduceLT, p5]
      · simp only [rdF, rd_none, rd_same, rd_ne, ne_eq, Nat.reduceEqDiff, not_false_eq_true, Nat.reduceLT, q6]
      · simp only [rdF, rd_none, rd_same, rd_ne, ne_eq, Nat.reduceEqDiff, not_false_eq_true, Nat.reduceLT]
  · refine ⟨0, false, (lk es (g * 16)).isSome, σ.next, rfl, ?_, Nat.le_refl _, Nat.lt_succ_self _, ?_, ?_, ?_, ?_, ?_, ?_, ?_, hG⟩
    · exact ((Keeps.refl σ).add _).put (Nat.le_refl _) _
    · rw [St.get_put, if_pos rfl]
    · simp only [rdF, rd_none, rd_same, rd_ne, ne_eq, Nat.reduceEqDiff, not_false_eq_true, Nat.reduceLT, f0]
    · simp only [rdF, rd_none, rd_same, rd_ne, ne_eq, Nat.reduceEqDiff, not_false_eq_true, Nat.reduceLT, f1]
    · simp only [rdF, rd_none, rd_same, rd_ne, ne_eq, Nat.reduceEqDiff, not_false_eq_true, Nat.reduceLT]
    · simp only [rdF, rd_none, rd_same, rd_ne, ne_eq, Nat.reduceEqDiff, not_false_eq_true, Nat.reduceLT]
    · simp only [rdF, rd_none, rd_same, rd_ne, ne_eq, Nat.reduceEqDiff, not_false_eq_true, Nat.reduceLT]
    · simp only [rdF, rd_none, rd_same, rd_ne, ne_eq, Nat.reduceEqDiff, not_false_eq_true, Nat.reduceLT]
      rfl
end Go.Proofs.YtfffmmgmjlfkoaaGreat
