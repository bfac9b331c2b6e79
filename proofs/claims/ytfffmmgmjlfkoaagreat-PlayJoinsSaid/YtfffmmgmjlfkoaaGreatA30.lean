/- The tree's run once more, with drawn regions held by what is true and not by what is reckoned. -/
import Derived.Test.YtfffmmgmjlfkoaaGreatA29
namespace Go.As
set_option linter.unusedSimpArgs false
set_option linter.unusedVariables false

theorem evRegD_RegF (P : Program) : RegF.ok P (evRegD P) := fun _ _ _ _ _ h => h

/-- So many numbers are set aside. -/
def St.room (σ : St) (m : Nat) : St := { σ with next := σ.next + m }
theorem St.get_room (σ : St) (m b : Nat) : (σ.room m).get b = σ.get b := rfl
theorem St.next_room (σ : St) (m : Nat) : (σ.room m).next = σ.next + m := rfl

def StillG (P : Program) (ops : Array Oper) (base nt : Nat) (tr : TraceF) (t' : TT) (σ' : St) (p : Nat × Nat) : Prop :=
  match ops[p.1]? with
  | some o =>
    Region.wanted o (yieldF ops nt (tAtF tr t' p.1)) = true → ∀ b, blkF P base p.1 (rdF nt (tAtF tr t' p.1)) o = some b → (sAtF tr σ' p.2).get b = (sAtF tr σ' (p.2 + 1)).get b
  | none => True

def ChecksG (P : Program) (ops : Array Oper) (base nt : Nat) (tr : TraceF) (t' : TT) (σ' : St) : Prop :=
  (∀ p, p ∈ stillPairs P ops → StillG P ops base nt tr t' σ' p) ∧ ∀ p, p ∈ cleanPts P ops → (sAtF tr σ' p.2).get (base + p.1) = none

open Classical in
noncomputable def regG (P : Program) (K : Kn) (nt : Nat) (ops : Array Oper) (t : TT) (σ : St) : Option (TT × St) :=
  if planB P ops then
    match trF P K ops σ.next nt ops.toList 0 t (σ.room ops.size) with
    | some (tr, t', σ') => if ChecksG P ops σ.next nt tr t' σ' then some (t', σ') else none
    | none => none
  else none

theorem blkF_eq {P : Program} {base i nt : Nat} {T : List Value} {t : TT} (h : TR nt T t) (o : Oper) : blkF P base i (rdF nt t) o = blkOf P base i T o := by
  rw [rdF_eq h]
  rfl

theorem regG_sim {P : Program} {K : Kn} {nt : Nat} {ops : Array Oper} {T : List Value} {t : TT} {σ : St} {t' : TT} {σ' : St} (h : TR nt T t) (hr : regG P K nt ops t σ = some (t', σ')) : ∃ T', evRegD P K ops T σ = some (T', σ') ∧ TR nt T' t' := by
  unfold regG at hr
  unfold evRegD
  split at hr
  · rename_i hp
    rw [if_pos hp]
    split at hr
    · rename_i trf t1 σ1 htr
      split at hr
      · rename_i hc
        simp only [Option.some.injEq, Prod.mk.injEq] at hr
        obtain ⟨rfl, rfl⟩ := hr
        obtain ⟨tr, T1, g1, g2, g3⟩ := trF_sim _ _ T t _ trf t1 σ1 h htr
        have g1' : evTr P K ops σ.next ops.toList 0 T { σ with next := σ.next + ops.size } = some (tr, T1, σ1) := g1
        simp only [g1']
        refine ⟨T1, ?_, g2⟩
        have hck : Checks P ops σ.next tr T1 σ1 := by
          refine ⟨fun p hp => ?_, fun p hp => by rw [(g3 p.2).2]; exact hc.2 p hp⟩
          have := hc.1 p hp
          unfold StillG at this
          unfold stillAt
          cases ho : ops[p.1]? with
          | none => trivial
          | some o =>
            rw [ho] at this
            simp only at this ⊢
            intro hw b hb
            rw [(g3 p.2).2, (g3 (p.2 + 1)).2]
            rw [yieldF_eq (g3 p.1).1] at this
            exact this hw b (by rw [blkF_eq (g3 p.1).1]; exact hb)
        exact if_pos hck
      · cases hr
    · cases hr
  · cases hr

noncomputable def evG (P : Program) (K : Kn) (n nt : Nat) : Code → GoF × (Nat → Option GoF)
  | .skip => (fun t σ => some (.normal, t, σ), fun _ => none)
  | .label l => (fun t σ => some (.normal, t, σ), fun l' => if l == l' then some fun t σ => some (.normal, t, σ) else none)
  | .region _ ops draw => (fun t σ => normF (match draw with | true => regG P K nt ops t σ | false => opsF P K ops nt ops.toList t σ), fun _ => none)
  | .seq a b => (fun t σ => thenF ((evG P K n nt a).1 t σ) (evG P K n nt b).1, fun l => match (evG P K n nt a).2 l with | some g => some fun t σ => thenF (g t σ) (evG P K n nt b).1 | none => (evG P K n nt b).2 l)
  | .cond c a b => (fun t σ => match rdF nt t c with | .bool q => (match q with | true => (evG P K n nt a).1 t σ | false => (evG P K n nt b).1 t σ) | _ => none, fun _ => none)
  | .block id c => (fun t σ => inBlkF id ((evG P K n nt c).1 t σ), fun _ => none)
  | .loop c => (iterF n (evG P K n nt c).1, fun _ => none)
  | .exit id => (fun t σ => some (.exit id, t, σ), fun _ => none)
  | .scope c => (scopeF n (evG P K n nt c).2 (evG P K n nt c).1, fun _ => none)
  | .goto l => (fun t σ => some (.goto l, t, σ), fun _ => none)
  | .ret => (fun t σ => some (.ret, t, σ), fun _ => none)
  | _ => (fun _ _ => none, fun _ => none)


theorem evG_sim {P : Program} {K : Kn} {n nt : Nat} : ∀ c : Code, Sim nt (ev P (evRegD P) K n c).1 (evG P K n nt c).1 ∧ (∀ l gf, (evG P K n nt c).2 l = some gf → ∃ g, (ev P (evRegD P) K n c).2 l = some g ∧ Sim nt g gf) ∧ (∀ l, (evG P K n nt c).2 l = none → (ev P (evRegD P) K n c).2 l = none) := by
  have stay : ∀ e0 : Exit, Sim nt (fun T σ => some (e0, T, σ)) (fun t σ => some (e0, t, σ)) := by
    intro e0 T t σ e t' σ' h hr
    cases hr
    exact ⟨T, rfl, h⟩
  have nowhere : ∀ (l : Nat) (gf : GoF), (fun _ : Nat => (none : Option GoF)) l = some gf → False := fun l gf h => by cases h
  have never : Sim nt (fun _ _ => none) (fun _ _ => none) := fun T t σ e t' σ' h hr => by cases hr
  intro c
  induction c with
  | skip => exact ⟨stay .normal, fun l gf h => (nowhere l gf h).elim, fun l _ => rfl⟩
  | label l0 =>
    refine ⟨stay .normal, fun l gf h => ?_, fun l h => ?_⟩
    · simp only [evG] at h
      simp only [ev]
      split at h
      · rename_i he
        cases h
        exact ⟨_, if_pos he, stay .normal⟩
      · cases h
    · simp only [evG] at h
      simp only [ev]
      split at h
      · cases h
      · rename_i he
        exact if_neg he
  | region id ops draw =>
    refine ⟨?_, fun l gf h => (nowhere l gf h).elim, fun l _ => rfl⟩
    intro T t σ e t' σ' h hr
    simp only [evG] at hr
    simp only [ev]
    cases draw with
    | true =>
      simp only [if_true] at hr ⊢
      cases hg : regG P K nt ops t σ with
      | none => rw [hg] at hr; cases hr
      | some p =>
        obtain ⟨t1, σ1⟩ := p
        rw [hg] at hr
        simp only [normF, Option.some.injEq, Prod.mk.injEq] at hr
        obtain ⟨rfl, rfl, rfl⟩ := hr
        obtain ⟨T1, h1, h2⟩ := regG_sim h hg
        exact ⟨T1, by rw [h1]; rfl, h2⟩
    | false =>
      simp only [Bool.false_eq_true, if_false] at hr ⊢
      cases hg : opsF P K ops nt ops.toList t σ with
      | none => rw [hg] at hr; cases hr
      | some p =>
        obtain ⟨t1, σ1⟩ := p
        rw [hg] at hr
        simp only [normF, Option.some.injEq, Prod.mk.injEq] at hr
        obtain ⟨rfl, rfl, rfl⟩ := hr
        obtain ⟨T1, h1, h2⟩ := opsF_sim _ _ _ _ _ _ h hg
        exact ⟨T1, by rw [h1]; rfl, h2⟩
  | seq x y ihx ihy =>
    obtain ⟨x1, x2, x3⟩ := ihx
    obtain ⟨y1, y2, y3⟩ := ihy
    refine ⟨Sim.then x1 y1, fun l gf h => ?_, fun l h => ?_⟩
    · simp only [evG] at h
      simp only [ev]
      split at h
      · rename_i g0 hg0
        cases h
        obtain ⟨g, h1, h2⟩ := x2 l g0 hg0
        rw [h1]
        exact ⟨_, rfl, Sim.then h2 y1⟩
      · rename_i hg0
        rw [x3 l hg0]
        exact y2 l gf h
    · simp only [evG] at h
      simp only [ev]
      split at h
      · cases h
      · rename_i hg0
        rw [x3 l hg0]
        exact y3 l h
  | cond c0 x y ihx ihy =>
    refine ⟨?_, fun l gf h => (nowhere l gf h).elim, fun l _ => rfl⟩
    intro T t σ e t' σ' h hr
    simp only [evG, rdF_eq h] at hr
    simp only [ev]
    split at hr
    · rename_i q hq
      rw [hq]
      cases q with
      | true => exact ihx.1 T t σ e t' σ' h hr
      | false => exact ihy.1 T t σ e t' σ' h hr
    · cases hr
  | block id c ih => exact ⟨Sim.block ih.1 id, fun l gf h => (nowhere l gf h).elim, fun l _ => rfl⟩
  | loop c ih => exact ⟨Sim.iter ih.1 n, fun l gf h => (nowhere l gf h).elim, fun l _ => rfl⟩
  | rangeFunc x ps as b iha ihb => exact ⟨never, fun l gf h => (nowhere l gf h).elim, fun l _ => rfl⟩
  | exit id => exact ⟨stay _, fun l gf h => (nowhere l gf h).elim, fun l _ => rfl⟩
  | scope c ih => exact ⟨Sim.scope ih.2.1 ih.2.2 n _ _ ih.1, fun l gf h => (nowhere l gf h).elim, fun l _ => rfl⟩
  | goto l0 => exact ⟨stay _, fun l gf h => (nowhere l gf h).elim, fun l _ => rfl⟩
  | ret => exact ⟨stay _, fun l gf h => (nowhere l gf h).elim, fun l _ => rfl⟩
  | refuse why => exact ⟨never, fun l gf h => (nowhere l gf h).elim, fun l _ => rfl⟩


noncomputable def callG (P : Program) (K : Kn) (n : Nat) : Kn := fun g args σ =>
  match P.funcs[g]? with
  | some fn =>
    if fnOk fn && decide (args.length ≤ fn.ntmps) then
      match fn.body with
      | some c =>
        match (evG P K n fn.ntmps c).1 (fill .nil 0 args) σ with
        | some (.ret, t, σ') => match resAllF P (rdT fn.ntmps t) σ' fn.results.toList with | some vs => some (packed vs, σ') | none => none
        | some (.normal, t, σ') => match resAllF P (rdT fn.ntmps t) σ' fn.results.toList with | some vs => some (packed vs, σ') | none => none
        | _ => none
      | none => none
    else none
  | none => none


theorem callG_sim {P : Program} {K : Kn} {n : Nat} {g : FuncId} {args : List Value} {σ : St} {r : Value × St} (h : callG P K n g args σ = some r) : callA P (evRegD P) K n g args σ = some r := by
  unfold callG at h
  unfold callA
  split at h
  · rename_i fn hfn
    split at h
    · rename_i hok
      simp only [Bool.and_eq_true, decide_eq_true_eq] at hok
      rw [hfn]
      simp only
      rw [if_pos hok.1]
      split at h
      · rename_i c hc
        rw [hc]
        simp only
        have key : ∀ (e : Exit) (t : TT) (σ' : St), (evG P K n fn.ntmps c).1 (fill .nil 0 args) σ = some (e, t, σ') → (e = .ret ∨ e = .normal) → (match resAllF P (rdT fn.ntmps t) σ' fn.results.toList with | some vs => some (packed vs, σ') | none => none) = some r →
            leave P fn ((ev P (evRegD P) K n c).1 (start fn args) σ) = some r := by
          intro e t σ' he hee hres
          obtain ⟨T', h1, h2⟩ := (evG_sim c).1 _ _ _ _ _ _ (fill_start hok.2) he
          rw [h1]
          rw [resAllF_eq h2] at hres
          split at hres
          · rename_i vs hvs
            rcases hee with rfl | rfl <;> simp only [leave, resA, hvs, Option.map_some] <;> exact hres
          · cases hres
        split at h
        · rename_i t σ' he; exact key _ _ _ he (.inl rfl) h
        · rename_i t σ' he; exact key _ _ _ he (.inr rfl) h
        · cases h
      · cases h
    · cases h
  · cases h


noncomputable def kG (P : Program) (B : Kn) : Nat → Kn
  | 0 => B
  | n + 1 => fun g args σ => match B g args σ with | some r => some r | none => callG P (kG P B n) n g args σ

theorem kG_ok {P : Program} {B : Kn} (hB : B.ok P) (hm : P.follows .mixedOrders = true) : ∀ n, (kG P B n).ok P
  | 0 => hB
  | n + 1 => by
    intro g args σ v σ' h
    simp only [kG] at h
    split at h
    · rename_i r hr
      cases h
      exact hB g args σ v σ' hr
    · exact callA_ok (evRegD_RegF P) (kG_ok hB hm n) hm n g args σ v σ' (callG_sim h)

end Go.As
