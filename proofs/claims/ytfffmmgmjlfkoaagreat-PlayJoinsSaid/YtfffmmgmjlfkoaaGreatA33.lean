/- Words for walks that a program prints. -/
import Derived.Test.YtfffmmgmjlfkoaaGreatA32
namespace Go.As
set_option linter.unusedSimpArgs false
set_option linter.unusedVariables false

theorem un_not {P : Program} {b : Bool} : unA P .not (.bool b) = some (.bool !b) := by cases b <;> rfl

theorem look_ok {P : Program} {rd : Nat → Option AObj} {t kt et : TypeId} {k kk : IntKind} {es : List (Int × Value)} {r : Nat} {n : Int} {z : Value} (ht : P.underlying t = some (.map kt et)) (hk : P.underlying kt = some (.int kk)) (hz : zeroV P et = some z)
    (hr : rd r = some (.map k es)) : lookupA P rd t (.map (some r)) (.int k n) true = some (.tuple #[(lk es n).getD z, .bool (lk es n).isSome]) := lookupA_ok2 ht hk hz hr
theorem look_no {P : Program} {rd : Nat → Option AObj} {t kt et : TypeId} {k kk : IntKind} {es : List (Int × Value)} {r : Nat} {n : Int} {z : Value} (ht : P.underlying t = some (.map kt et)) (hk : P.underlying kt = some (.int kk)) (hz : zeroV P et = some z)
    (hr : rd r = some (.map k es)) : lookupA P rd t (.map (some r)) (.int k n) false = some ((lk es n).getD z) := by
  unfold lookupA
  simp only [ht, hk, hr, hz, if_true]
  cases lk es n <;> rfl

theorem ChecksG.of {P : Program} {ops : Array Oper} {base nt : Nat} {tr : TraceF} {t' : TT} {σ' : St} {l1 l2 : List (Nat × Nat)} (h1 : stillPairs P ops = l1) (h2 : cleanPts P ops = l2)
    (a : ∀ p ∈ l1, StillG P ops base nt tr t' σ' p) (b : ∀ p ∈ l2, (sAtF tr σ' p.2).get (base + p.1) = none) : ChecksG P ops base nt tr t' σ' := by
  subst h1 h2
  exact ⟨a, b⟩

theorem cl1 {v : Value} (h : v.oneCell' = true) : v.cells.toList = [v] := by cases v <;> first | rfl | cases h

/-- What is kept of a state, but for a few blocks. -/
structure But (σ σ' : St) (S : Nat → Prop) : Prop where
  get : ∀ b, b < σ.next → ¬ S b → σ'.get b = σ.get b
  next : σ.next ≤ σ'.next
theorem But.refl (σ : St) (S : Nat → Prop) : But σ σ S := ⟨fun _ _ _ => rfl, Nat.le_refl _⟩
theorem But.trans {σ σ1 σ2 : St} {S : Nat → Prop} (h : But σ σ1 S) (g : But σ1 σ2 S) : But σ σ2 S := ⟨fun b hb hs => (g.get b (Nat.lt_of_lt_of_le hb h.next) hs).trans (h.get b hb hs), Nat.le_trans h.next g.next⟩
theorem But.mono {σ σ' : St} {S S' : Nat → Prop} (h : But σ σ' S) (hs : ∀ b, S b → S' b) : But σ σ' S' := ⟨fun b hb hn => h.get b hb (fun e => hn (hs b e)), h.next⟩
theorem But.at {σ σ' : St} {S : Nat → Prop} (h : But σ σ' S) {b nx : Nat} {o : AObj} (hb : σ.next ≤ b) (hn : σ'.next ≤ nx) : But σ (σ'.at b o nx) S :=
  ⟨fun c hc hs => by rw [St.get_at_ne (by omega)]; exact h.get c hc hs, Nat.le_trans h.next hn⟩
theorem But.room {σ σ' : St} {S : Nat → Prop} (h : But σ σ' S) (m : Nat) : But σ (σ'.room m) S := ⟨fun c hc hs => h.get c hc hs, Nat.le_trans h.next (Nat.le_add_right _ _)⟩
theorem But.putNew {σ σ' : St} {S : Nat → Prop} (h : But σ σ' S) {b : Nat} {o : AObj} (hb : σ.next ≤ b) : But σ (σ'.put b o) S :=
  ⟨fun c hc hs => by rw [St.get_put_ne (by omega)]; exact h.get c hc hs, h.next⟩
theorem But.putOf {σ σ' : St} {S : Nat → Prop} (h : But σ σ' S) {b : Nat} {o : AObj} (hb : S b) : But σ (σ'.put b o) S :=
  ⟨fun c hc hs => by
    have e : c ≠ b := fun e => hs (by rw [e]; exact hb)
    rw [St.get_put_ne e]; exact h.get c hc hs, h.next⟩
/-- A block that is put as it was. -/
theorem But.putSame {σ σ' : St} {S : Nat → Prop} (h : But σ σ' S) {b : Nat} {o : AObj} (hb : b < σ.next) (ho : σ.get b = some o) : But σ (σ'.put b o) S :=
  ⟨fun c hc hs => by
    by_cases e : c = b
    · subst e; rw [St.get_put_eq rfl, ho]
    · rw [St.get_put_ne e]; exact h.get c hc hs, h.next⟩

theorem CallsA.keepBut {P : Program} {g : FuncId} {args : List Value} {σ σ' : St} {v : Value} (h : CallsA P g args σ v σ') (hv : ∀ f f' v', Inj.le f f' → VRel f' v v' → VRel f v v') (hb : But σ σ' fun _ => False) : CallsA P g args σ v σ :=
  h.keep hv fun b o hbn ho => by rw [hb.get b hbn id]; exact ho
/-- Nothing is left but the value. -/
theorem Con.quiet {P : Program} {g : FuncId} {args : List Value} {σ : St} {v : Value} (h : Con P g args σ fun v' σ' => v' = v ∧ But σ σ' fun _ => False) (hv : ∀ f f' v', Inj.le f f' → VRel f' v v' → VRel f v v') : Callable P g ∧ CallsA P g args σ v σ := by
  obtain ⟨v', σ', ⟨h1, h2⟩, rfl, hb⟩ := h
  exact ⟨h1, h2.keepBut hv hb⟩
theorem Con.of_calls {P : Program} {g : FuncId} {args : List Value} {σ σ' : St} {v : Value} (h : Callable P g ∧ CallsA P g args σ v σ') : Con P g args σ fun v1 σ1 => v = v1 ∧ σ' = σ1 := ⟨v, σ', h, rfl, rfl⟩
end Go.As
