/- The abstract machine's run with its values held in a tree: what it comes to, the run with values in a row comes to. -/
import Derived.Test.YtfffmmgmjlfkoaaGreatA22
namespace Go.As
set_option linter.unusedSimpArgs false
set_option linter.unusedVariables false

abbrev TT := Tr Value

def rdT (nt : Nat) (t : TT) (i : Nat) : Value :=
  match Nat.blt i nt with
  | true => (match t.get i with | some v => v | none => undef)
  | false => undef

theorem rdT_eq (nt : Nat) (t : TT) (i : Nat) : rdT nt t i = if i < nt then (match t.get i with | some v => v | none => undef) else undef := by
  unfold rdT
  by_cases h : i < nt
  · rw [if_pos h, show Nat.blt i nt = true from by rw [Nat.blt_eq]; exact h]
  · rw [if_neg h]
    cases hb : Nat.blt i nt with
    | false => rfl
    | true => exact absurd (by rw [Nat.blt_eq] at hb; exact hb) h

structure TR (nt : Nat) (T : List Value) (t : TT) : Prop where
  len : T.length = nt
  get : ∀ i, T.getD i undef = rdT nt t i

def rdF (nt : Nat) (t : TT) : Operand → Value
  | .tmp i => rdT nt t i
  | .const v => v
  | .global g => .pointer (some ⟨g, 0, none⟩)
  | .func f => .func (.func f) #[] #[]

theorem rdF_eq {nt : Nat} {T : List Value} {t : TT} (h : TR nt T t) : rdF nt t = evA T := by
  funext x
  cases x with
  | tmp i => simp only [rdF, evA, h.get]
  | _ => rfl

def putF (t : TT) (dst : Option Tmp) (v : Value) : TT :=
  match dst with
  | some d => t.set d (some v)
  | none => t

theorem TR.put {nt : Nat} {T : List Value} {t : TT} (h : TR nt T t) (dst : Option Tmp) (v : Value) : TR nt (putL T dst v) (putF t dst v) := by
  cases dst with
  | none => exact h
  | some d =>
    refine ⟨by simp [putL, h.len], fun i => ?_⟩
    have hi := h.get i
    simp only [putL, putF, rdT_eq, Tr.get_set, List.getD_eq_getElem?_getD, List.getElem?_set] at hi ⊢
    by_cases hd : d = i
    · subst hd
      simp only [if_true, h.len]
      by_cases hn : d < nt <;> simp [hn]
    · simp only [hd, if_false, Ne.symm hd] at hi ⊢
      exact hi

def yieldF (ops : Array Oper) (nt : Nat) (t : TT) (j : Nat) : Option Bool :=
  match ops[j]? with
  | some o => match o.dst with
    | some d => match rdT nt t d with
      | .bool b => some b
      | _ => none
    | none => none
  | none => none

theorem yieldF_eq {nt : Nat} {T : List Value} {t : TT} (h : TR nt T t) (ops : Array Oper) : yieldF ops nt t = yieldedL ops T := by
  funext j
  unfold yieldF yieldedL
  cases ops[j]? with
  | none => rfl
  | some o =>
    simp only [Option.bind_some]
    cases o.dst with
    | none => rfl
    | some d =>
      simp only [Option.bind_some]
      have := h.get d
      rw [← this, List.getD_eq_getElem?_getD]
      cases T[d]? with
      | none => rfl
      | some v => cases v <;> rfl

def opF (P : Program) (K : Kn) (nid : Option Nat) (ρ : Operand → Value) (o : Oper) (σ : St) : Option (Value × St) :=
  match o.op with
  | .move x => some (ρ x, σ)
  | .assign x => some (ρ x, σ)
  | .load t a => match loadA P σ.get t (ρ a) with | some v => some (v, σ) | none => none
  | .fieldAddr s x i => match fieldAddrA P s i (ρ x) with | some v => some (v, σ) | none => none
  | .binOp op t x y _ => match binA P op t x y (ρ x) (ρ y) with | some v => some (v, σ) | none => none
  | .extract t i => match ρ t with | .tuple vs => (match vs.toList[i]? with | some v => some (v, σ) | none => none) | _ => none
  | _ =>
    match okind P o with
    | .silent => (silentA P ρ σ.get o).map (·, σ)
    | .makes => allocTo P ρ nid o σ
    | .writes => writesA P K ρ o σ

theorem opF_eq {P : Program} {K : Kn} {nid : Option Nat} {T : List Value} {o : Oper} {σ : St} : opF P K nid (evA T) o σ = evOper P K nid T o σ := by
  obtain ⟨dst, op, type, pos, after, guard⟩ := o
  cases op <;> simp only [opF, evOper, okind, silentA] <;> try rfl
  case load t a => cases loadA P σ.get t (evA T a) <;> rfl
  case fieldAddr s x i => cases fieldAddrA P s i (evA T x) <;> rfl
  case binOp op t x y _ => cases binA P op t x y (evA T x) (evA T y) <;> rfl
  case extract t i =>
    cases evA T t <;> simp only [] <;> try rfl
    rename_i vs
    cases vs.toList[i]? <;> rfl

def opsF (P : Program) (K : Kn) (ops : Array Oper) (nt : Nat) : List Oper → TT → St → Option (TT × St)
  | [], t, σ => some (t, σ)
  | o :: l, t, σ =>
    match Region.wanted o (yieldF ops nt t) with
    | true =>
      match opF P K none (rdF nt t) o σ with
      | some (v, σ') => opsF P K ops nt l (putF t o.dst v) σ'
      | none => none
    | false => opsF P K ops nt l (putF t o.dst undef) σ

theorem opsF_sim {P : Program} {K : Kn} {ops : Array Oper} {nt : Nat} : ∀ (l : List Oper) (T : List Value) (t : TT) (σ : St) (t' : TT) (σ' : St), TR nt T t → opsF P K ops nt l t σ = some (t', σ') → ∃ T', evOps P K ops l T σ = some (T', σ') ∧ TR nt T' t'
  | [], T, t, σ, t', σ', h, hr => by
    simp only [opsF, Option.some.injEq, Prod.mk.injEq] at hr
    obtain ⟨rfl, rfl⟩ := hr
    exact ⟨T, rfl, h⟩
  | o :: l, T, t, σ, t', σ', h, hr => by
    simp only [opsF, yieldF_eq h, rdF_eq h, opF_eq] at hr
    simp only [evOps]
    split at hr
    · rename_i hw
      rw [if_pos hw]
      split at hr
      · rename_i v σ1 hv
        rw [hv]
        exact opsF_sim l _ _ σ1 t' σ' (h.put o.dst v) hr
      · cases hr
    · rename_i hw
      rw [if_neg (by rw [hw]; exact Bool.false_ne_true)]
      exact opsF_sim l _ _ σ t' σ' (h.put o.dst undef) hr

/-! ### Drawn regions -/
abbrev TraceF := List (TT × St)

def trF (P : Program) (K : Kn) (ops : Array Oper) (base nt : Nat) : List Oper → Nat → TT → St → Option (TraceF × TT × St)
  | [], _, t, σ => some ([], t, σ)
  | o :: l, k, t, σ =>
    match Region.wanted o (yieldF ops nt t) with
    | true =>
      match opF P K (some (base + k)) (rdF nt t) o σ with
      | some (v, σ') =>
        match trF P K ops base nt l (k + 1) (putF t o.dst v) σ' with
        | some (tr, r) => some ((t, σ) :: tr, r)
        | none => none
      | none => none
    | false =>
      match trF P K ops base nt l (k + 1) (putF t o.dst undef) σ with
      | some (tr, r) => some ((t, σ) :: tr, r)
      | none => none

def tAtF (tr : TraceF) (t' : TT) (k : Nat) : TT := match tr[k]? with | some x => x.1 | none => t'
def sAtF (tr : TraceF) (σ' : St) (k : Nat) : St := match tr[k]? with | some x => x.2 | none => σ'

theorem trF_sim {P : Program} {K : Kn} {ops : Array Oper} {base nt : Nat} : ∀ (l : List Oper) (k : Nat) (T : List Value) (t : TT) (σ : St) (trf : TraceF) (t' : TT) (σ' : St), TR nt T t → trF P K ops base nt l k t σ = some (trf, t', σ') →
    ∃ tr T', evTr P K ops base l k T σ = some (tr, T', σ') ∧ TR nt T' t' ∧ ∀ j, TR nt (tAt tr T' j) (tAtF trf t' j) ∧ sAt tr σ' j = sAtF trf σ' j
  | [], k, T, t, σ, trf, t', σ', h, hr => by
    simp only [trF, Option.some.injEq, Prod.mk.injEq] at hr
    obtain ⟨rfl, rfl, rfl⟩ := hr
    exact ⟨[], T, rfl, h, fun j => ⟨by simpa [tAt, tAtF] using h, by simp [sAt, sAtF]⟩⟩
  | o :: l, k, T, t, σ, trf, t', σ', h, hr => by
    have shift : ∀ (x : List Value × St × Value) (tr1 : Trace) (T1 : List Value) (y : TT × St) (trf1 : TraceF), TR nt x.1 y.1 → x.2.1 = y.2 → (∀ j, TR nt (tAt tr1 T1 j) (tAtF trf1 t' j) ∧ sAt tr1 σ' j = sAtF trf1 σ' j) →
        ∀ j, TR nt (tAt (x :: tr1) T1 j) (tAtF (y :: trf1) t' j) ∧ sAt (x :: tr1) σ' j = sAtF (y :: trf1) σ' j := by
      intro x tr1 T1 y trf1 h1 h2 h3 j
      cases j with
      | zero => simpa [tAt, tAtF, sAt, sAtF] using ⟨h1, h2⟩
      | succ j => simpa [tAt, tAtF, sAt, sAtF] using h3 j
    simp only [trF, yieldF_eq h, rdF_eq h, opF_eq] at hr
    simp only [evTr]
    split at hr
    · rename_i hw
      rw [if_pos hw]
      split at hr
      · rename_i v σ1 hv
        rw [hv]
        split at hr
        · rename_i tr1 r hr1
          simp only [Option.some.injEq, Prod.mk.injEq] at hr
          obtain ⟨rfl, rfl⟩ := hr
          obtain ⟨tr, T1, g1, g2, g3⟩ := trF_sim l (k + 1) _ _ σ1 tr1 t' σ' (h.put o.dst v) hr1
          simp only [g1]
          exact ⟨_, T1, rfl, g2, shift _ _ _ _ _ h rfl g3⟩
        · cases hr
      · cases hr
    · rename_i hw
      rw [if_neg (by rw [hw]; exact Bool.false_ne_true)]
      split at hr
      · rename_i tr1 r hr1
        simp only [Option.some.injEq, Prod.mk.injEq] at hr
        obtain ⟨rfl, rfl⟩ := hr
        obtain ⟨tr, T1, g1, g2, g3⟩ := trF_sim l (k + 1) _ _ σ tr1 t' σ' (h.put o.dst undef) hr1
        simp only [g1]
        exact ⟨_, T1, rfl, g2, shift _ _ _ _ _ h rfl g3⟩
      · cases hr

def blkF (P : Program) (base i : Nat) (ρ : Operand → Value) (o : Oper) : Option Nat :=
  match okind P o with
  | .makes => some (base + i)
  | .silent => readBlock ρ o
  | .writes => none

def stillF (P : Program) (ops : Array Oper) (base nt : Nat) (tr : TraceF) (t' : TT) (σ' : St) (p : Nat × Nat) : Bool :=
  match ops[p.1]? with
  | some o =>
    if Region.wanted o (yieldF ops nt (tAtF tr t' p.1)) then
      match blkF P base p.1 (rdF nt (tAtF tr t' p.1)) o with
      | some b => oeq ((sAtF tr σ' p.2).get b) ((sAtF tr σ' (p.2 + 1)).get b)
      | none => true
    else true
  | none => true

def checksF (P : Program) (ops : Array Oper) (base nt : Nat) (tr : TraceF) (t' : TT) (σ' : St) : Bool :=
  (stillPairs P ops).all (stillF P ops base nt tr t' σ') && (cleanPts P ops).all fun p => ((sAtF tr σ' p.2).get (base + p.1)).isNone

def regF (P : Program) (K : Kn) (nt : Nat) (ops : Array Oper) (t : TT) (σ : St) : Option (TT × St) :=
  if planB P ops then
    match trF P K ops σ.next nt ops.toList 0 t { σ with next := σ.next + ops.size } with
    | some (tr, t', σ') => if checksF P ops σ.next nt tr t' σ' then some (t', σ') else none
    | none => none
  else none

theorem regF_sim {P : Program} {K : Kn} {nt : Nat} {ops : Array Oper} {T : List Value} {t : TT} {σ : St} {t' : TT} {σ' : St} (h : TR nt T t) (hr : regF P K nt ops t σ = some (t', σ')) : ∃ T', evRegB P K ops T σ = some (T', σ') ∧ TR nt T' t' := by
  unfold regF at hr
  unfold evRegB
  split at hr
  · rename_i hp
    rw [if_pos hp]
    split at hr
    · rename_i trf t1 σ1 htr
      split at hr
      · rename_i hc
        simp only [Option.some.injEq, Prod.mk.injEq] at hr
        obtain ⟨rfl, rfl⟩ := hr
        obtain ⟨tr, T1, g1, g2, g3⟩ := trF_sim _ _ T t _ trf t1 σ1 h htr
        simp only [g1]
        refine ⟨T1, ?_, g2⟩
        have hck : checksB P ops σ.next tr T1 σ1 = true := by
          unfold checksF at hc
          unfold checksB
          simp only [Bool.and_eq_true, List.all_eq_true] at hc ⊢
          refine ⟨fun p hp => ?_, fun p hp => by rw [(g3 p.2).2]; exact hc.2 p hp⟩
          have := hc.1 p hp
          unfold stillF at this
          unfold stillB
          rw [yieldF_eq (g3 p.1).1, rdF_eq (g3 p.1).1] at this
          rw [(g3 p.2).2, (g3 (p.2 + 1)).2]
          exact this
        exact if_pos hck
      · cases hr
    · cases hr
  · cases hr

/-! ### Code -/
abbrev ResF := Option (Exit × TT × St)
abbrev GoF := TT → St → ResF

def thenF (r : ResF) (k : GoF) : ResF :=
  match r with
  | some (.normal, t, σ) => k t σ
  | r => r

def iterF : Nat → GoF → GoF
  | 0, _, _, _ => none
  | n + 1, g, t, σ => thenF (g t σ) (iterF n g)

def inBlkF (id : Nat) (r : ResF) : ResF :=
  match r with
  | some (.exit id', t, σ) => if id' = id then some (.normal, t, σ) else some (.exit id', t, σ)
  | r => r

def scopeF : Nat → (Nat → Option GoF) → GoF → GoF
  | 0, _, _, _, _ => none
  | n + 1, jump, g, t, σ =>
    match g t σ with
    | some (.goto l, t1, σ1) =>
      match jump l with
      | some g' => scopeF n jump g' t1 σ1
      | none => some (.goto l, t1, σ1)
    | r => r

def normF (r : Option (TT × St)) : ResF := match r with | some (t, σ) => some (.normal, t, σ) | none => none

def evF (P : Program) (K : Kn) (n nt : Nat) : Code → GoF × (Nat → Option GoF)
  | .skip => (fun t σ => some (.normal, t, σ), fun _ => none)
  | .label l => (fun t σ => some (.normal, t, σ), fun l' => if l == l' then some fun t σ => some (.normal, t, σ) else none)
  | .region _ ops draw => (fun t σ => normF (match draw with | true => regF P K nt ops t σ | false => opsF P K ops nt ops.toList t σ), fun _ => none)
  | .seq a b => (fun t σ => thenF ((evF P K n nt a).1 t σ) (evF P K n nt b).1, fun l => match (evF P K n nt a).2 l with | some g => some fun t σ => thenF (g t σ) (evF P K n nt b).1 | none => (evF P K n nt b).2 l)
  | .cond c a b => (fun t σ => match rdF nt t c with | .bool q => (match q with | true => (evF P K n nt a).1 t σ | false => (evF P K n nt b).1 t σ) | _ => none, fun _ => none)
  | .block id c => (fun t σ => inBlkF id ((evF P K n nt c).1 t σ), fun _ => none)
  | .loop c => (iterF n (evF P K n nt c).1, fun _ => none)
  | .exit id => (fun t σ => some (.exit id, t, σ), fun _ => none)
  | .scope c => (scopeF n (evF P K n nt c).2 (evF P K n nt c).1, fun _ => none)
  | .goto l => (fun t σ => some (.goto l, t, σ), fun _ => none)
  | .ret => (fun t σ => some (.ret, t, σ), fun _ => none)
  | _ => (fun _ _ => none, fun _ => none)

def Sim (nt : Nat) (g : Go1) (gf : GoF) : Prop := ∀ T t σ e t' σ', TR nt T t → gf t σ = some (e, t', σ') → ∃ T', g T σ = some (e, T', σ') ∧ TR nt T' t'

theorem Sim.then {nt : Nat} {a b : Go1} {af bf : GoF} (ha : Sim nt a af) (hb : Sim nt b bf) : Sim nt (fun T σ => thenR (a T σ) b) (fun t σ => thenF (af t σ) bf) := by
  intro T t σ e t' σ' h hr
  change thenF (af t σ) bf = _ at hr
  cases hg : af t σ with
  | none => rw [hg] at hr; cases hr
  | some p =>
    obtain ⟨e1, t1, σ1⟩ := p
    rw [hg] at hr
    obtain ⟨T1, h1, h2⟩ := ha T t σ e1 t1 σ1 h hg
    simp only [h1]
    cases e1 with
    | normal => exact hb T1 t1 σ1 e t' σ' h2 hr
    | _ => cases hr; exact ⟨T1, rfl, h2⟩

theorem Sim.iter {nt : Nat} {a : Go1} {af : GoF} (ha : Sim nt a af) : ∀ n, Sim nt (As.iter n a) (iterF n af)
  | 0 => fun T t σ e t' σ' h hr => by simp only [iterF] at hr; cases hr
  | n + 1 => by
    intro T t σ e t' σ' h hr
    exact Sim.then ha (Sim.iter ha n) T t σ e t' σ' h hr

theorem Sim.block {nt : Nat} {a : Go1} {af : GoF} (ha : Sim nt a af) (id : Nat) : Sim nt (fun T σ => inBlk id (a T σ)) (fun t σ => inBlkF id (af t σ)) := by
  intro T t σ e t' σ' h hr
  change inBlkF id (af t σ) = _ at hr
  cases hg : af t σ with
  | none => rw [hg] at hr; cases hr
  | some p =>
    obtain ⟨e1, t1, σ1⟩ := p
    rw [hg] at hr
    obtain ⟨T1, h1, h2⟩ := ha T t σ e1 t1 σ1 h hg
    simp only [h1]
    cases e1 with
    | exit id' =>
      simp only [inBlkF] at hr
      simp only [inBlk]
      split at hr
      · rename_i he; rw [if_pos he]; cases hr; exact ⟨T1, rfl, h2⟩
      · rename_i he; rw [if_neg he]; cases hr; exact ⟨T1, rfl, h2⟩
    | _ => cases hr; exact ⟨T1, rfl, h2⟩

theorem Sim.scope {nt : Nat} {jump : Nat → Option Go1} {jumpF : Nat → Option GoF} (hj : ∀ l gf, jumpF l = some gf → ∃ g, jump l = some g ∧ Sim nt g gf) (hn : ∀ l, jumpF l = none → jump l = none) : ∀ n (a : Go1) (af : GoF), Sim nt a af → Sim nt (scopeGo n jump a) (scopeF n jumpF af)
  | 0, a, af, ha => fun T t σ e t' σ' h hr => by simp only [scopeF] at hr; cases hr
  | n + 1, a, af, ha => by
    intro T t σ e t' σ' h hr
    simp only [scopeF] at hr
    simp only [scopeGo]
    cases hg : af t σ with
    | none => rw [hg] at hr; cases hr
    | some p =>
      obtain ⟨e1, t1, σ1⟩ := p
      rw [hg] at hr
      obtain ⟨T1, h1, h2⟩ := ha T t σ e1 t1 σ1 h hg
      rw [h1]
      cases e1 with
      | goto l =>
        simp only at hr ⊢
        cases hl : jumpF l with
        | none => rw [hl] at hr; rw [hn l hl]; cases hr; exact ⟨T1, rfl, h2⟩
        | some gf =>
          rw [hl] at hr
          obtain ⟨g, hg1, hg2⟩ := hj l gf hl
          rw [hg1]
          exact Sim.scope hj hn n g gf hg2 T1 t1 σ1 e t' σ' h2 hr
      | _ => cases hr; exact ⟨T1, rfl, h2⟩

theorem evF_sim {P : Program} {K : Kn} {n nt : Nat} : ∀ c : Code, Sim nt (ev P (evRegB P) K n c).1 (evF P K n nt c).1 ∧ (∀ l gf, (evF P K n nt c).2 l = some gf → ∃ g, (ev P (evRegB P) K n c).2 l = some g ∧ Sim nt g gf) ∧ (∀ l, (evF P K n nt c).2 l = none → (ev P (evRegB P) K n c).2 l = none) := by
  have stay : ∀ e0 : Exit, Sim nt (fun T σ => some (e0, T, σ)) (fun t σ => some (e0, t, σ)) := by
    intro e0 T t σ e t' σ' h hr
    cases hr
    exact ⟨T, rfl, h⟩
  have nowhere : ∀ (l : Nat) (gf : GoF), (fun _ : Nat => (none : Option GoF)) l = some gf → False := fun l gf h => by cases h
  have never : Sim nt (fun _ _ => none) (fun _ _ => none) := fun T t σ e t' σ' h hr => by cases hr
  intro c
  induction c with
  | skip => exact ⟨stay .normal, fun l gf h => (nowhere l gf h).elim, fun l _ => rfl⟩
  | label l0 =>
    refine ⟨stay .normal, fun l gf h => ?_, fun l h => ?_⟩
    · simp only [evF] at h
      simp only [ev]
      split at h
      · rename_i he
        cases h
        exact ⟨_, if_pos he, stay .normal⟩
      · cases h
    · simp only [evF] at h
      simp only [ev]
      split at h
      · cases h
      · rename_i he
        exact if_neg he
  | region id ops draw =>
    refine ⟨?_, fun l gf h => (nowhere l gf h).elim, fun l _ => rfl⟩
    intro T t σ e t' σ' h hr
    simp only [evF] at hr
    simp only [ev]
    cases draw with
    | true =>
      simp only [if_true] at hr ⊢
      cases hg : regF P K nt ops t σ with
      | none => rw [hg] at hr; cases hr
      | some p =>
        obtain ⟨t1, σ1⟩ := p
        rw [hg] at hr
        simp only [normF, Option.some.injEq, Prod.mk.injEq] at hr
        obtain ⟨rfl, rfl, rfl⟩ := hr
        obtain ⟨T1, h1, h2⟩ := regF_sim h hg
        exact ⟨T1, by rw [h1]; rfl, h2⟩
    | false =>
      simp only [Bool.false_eq_true, if_false] at hr ⊢
      cases hg : opsF P K ops nt ops.toList t σ with
      | none => rw [hg] at hr; cases hr
      | some p =>
        obtain ⟨t1, σ1⟩ := p
        rw [hg] at hr
        simp only [normF, Option.some.injEq, Prod.mk.injEq] at hr
        obtain ⟨rfl, rfl, rfl⟩ := hr
        obtain ⟨T1, h1, h2⟩ := opsF_sim _ _ _ _ _ _ h hg
        exact ⟨T1, by rw [h1]; rfl, h2⟩
  | seq x y ihx ihy =>
    obtain ⟨x1, x2, x3⟩ := ihx
    obtain ⟨y1, y2, y3⟩ := ihy
    refine ⟨Sim.then x1 y1, fun l gf h => ?_, fun l h => ?_⟩
    · simp only [evF] at h
      simp only [ev]
      split at h
      · rename_i g0 hg0
        cases h
        obtain ⟨g, h1, h2⟩ := x2 l g0 hg0
        rw [h1]
        exact ⟨_, rfl, Sim.then h2 y1⟩
      · rename_i hg0
        rw [x3 l hg0]
        exact y2 l gf h
    · simp only [evF] at h
      simp only [ev]
      split at h
      · cases h
      · rename_i hg0
        rw [x3 l hg0]
        exact y3 l h
  | cond c0 x y ihx ihy =>
    refine ⟨?_, fun l gf h => (nowhere l gf h).elim, fun l _ => rfl⟩
    intro T t σ e t' σ' h hr
    simp only [evF, rdF_eq h] at hr
    simp only [ev]
    split at hr
    · rename_i q hq
      rw [hq]
      cases q with
      | true => exact ihx.1 T t σ e t' σ' h hr
      | false => exact ihy.1 T t σ e t' σ' h hr
    · cases hr
  | block id c ih => exact ⟨Sim.block ih.1 id, fun l gf h => (nowhere l gf h).elim, fun l _ => rfl⟩
  | loop c ih => exact ⟨Sim.iter ih.1 n, fun l gf h => (nowhere l gf h).elim, fun l _ => rfl⟩
  | rangeFunc x ps as b iha ihb => exact ⟨never, fun l gf h => (nowhere l gf h).elim, fun l _ => rfl⟩
  | exit id => exact ⟨stay _, fun l gf h => (nowhere l gf h).elim, fun l _ => rfl⟩
  | scope c ih => exact ⟨Sim.scope ih.2.1 ih.2.2 n _ _ ih.1, fun l gf h => (nowhere l gf h).elim, fun l _ => rfl⟩
  | goto l0 => exact ⟨stay _, fun l gf h => (nowhere l gf h).elim, fun l _ => rfl⟩
  | ret => exact ⟨stay _, fun l gf h => (nowhere l gf h).elim, fun l _ => rfl⟩
  | refuse why => exact ⟨never, fun l gf h => (nowhere l gf h).elim, fun l _ => rfl⟩

/-! ### Calls -/
def resOneF (P : Program) (ρ : Nat → Value) (σ : St) : ResultVar → Option Value
  | .tmp t => some (ρ t)
  | .cell a t => loadA P σ.get t (ρ a)

def resAllF (P : Program) (ρ : Nat → Value) (σ : St) : List ResultVar → Option (List Value)
  | [] => some []
  | r :: rs =>
    match resOneF P ρ σ r, resAllF P ρ σ rs with
    | some v, some vs => some (v :: vs)
    | _, _ => none

theorem resAllF_eq {P : Program} {nt : Nat} {T : List Value} {t : TT} (h : TR nt T t) (σ : St) : ∀ rs, resAllF P (rdT nt t) σ rs = resAll P T σ rs
  | [] => rfl
  | r :: rs => by
    have h1 : resOneF P (rdT nt t) σ r = resOne P T σ r := by
      cases r <;> simp only [resOneF, resOne, h.get]
    simp only [resAllF, resAll, h1, resAllF_eq h σ rs]
    rfl

def fill (t : TT) : Nat → List Value → TT
  | _, [] => t
  | i, v :: vs => fill (t.set i (some v)) (i + 1) vs

theorem fill_get : ∀ (vs : List Value) (t : TT) (i j : Nat), (fill t i vs).get j = if i ≤ j ∧ j < i + vs.length then vs[j - i]? else t.get j
  | [], t, i, j => by
    simp only [fill, List.length_nil]
    rw [if_neg (by omega)]
  | v :: vs, t, i, j => by
    simp only [fill]
    rw [fill_get vs, Tr.get_set, List.length_cons]
    by_cases h1 : j = i
    · subst h1
      rw [if_neg (by omega), if_pos rfl, if_pos (by omega), Nat.sub_self]
      rfl
    · rw [if_neg h1]
      by_cases h2 : i + 1 ≤ j ∧ j < i + 1 + vs.length
      · rw [if_pos h2, if_pos (by omega), show j - i = (j - (i + 1)) + 1 by omega, List.getElem?_cons_succ]
      · rw [if_neg h2, if_neg (by omega)]

theorem fill_start {fn : Func} {args : List Value} (h : args.length ≤ fn.ntmps) : TR fn.ntmps (start fn args) (fill .nil 0 args) := by
  refine ⟨by simp [start]; omega, fun i => ?_⟩
  simp only [start, rdT_eq, fill_get, Nat.zero_le, true_and, Nat.zero_add, Nat.sub_zero, List.getD_eq_getElem?_getD, List.getElem?_append]
  by_cases h1 : i < args.length
  · simp [h1, show i < fn.ntmps by omega]
  · simp only [h1, if_false, Tr.get_nil, ite_self]
    rw [List.getElem?_replicate]
    split <;> rfl

def callF (P : Program) (K : Kn) (n : Nat) : Kn := fun g args σ =>
  match P.funcs[g]? with
  | some fn =>
    if fnOk fn && decide (args.length ≤ fn.ntmps) then
      match fn.body with
      | some c =>
        match (evF P K n fn.ntmps c).1 (fill .nil 0 args) σ with
        | some (.ret, t, σ') => match resAllF P (rdT fn.ntmps t) σ' fn.results.toList with | some vs => some (packed vs, σ') | none => none
        | some (.normal, t, σ') => match resAllF P (rdT fn.ntmps t) σ' fn.results.toList with | some vs => some (packed vs, σ') | none => none
        | _ => none
      | none => none
    else none
  | none => none

theorem callF_sim {P : Program} {K : Kn} {n : Nat} {g : FuncId} {args : List Value} {σ : St} {r : Value × St} (h : callF P K n g args σ = some r) : callA P (evRegB P) K n g args σ = some r := by
  unfold callF at h
  unfold callA
  split at h
  · rename_i fn hfn
    split at h
    · rename_i hok
      simp only [Bool.and_eq_true, decide_eq_true_eq] at hok
      rw [hfn]
      simp only
      rw [if_pos hok.1]
      split at h
      · rename_i c hc
        rw [hc]
        simp only
        have key : ∀ (e : Exit) (t : TT) (σ' : St), (evF P K n fn.ntmps c).1 (fill .nil 0 args) σ = some (e, t, σ') → (e = .ret ∨ e = .normal) → (match resAllF P (rdT fn.ntmps t) σ' fn.results.toList with | some vs => some (packed vs, σ') | none => none) = some r →
            leave P fn ((ev P (evRegB P) K n c).1 (start fn args) σ) = some r := by
          intro e t σ' he hee hres
          obtain ⟨T', h1, h2⟩ := (evF_sim c).1 _ _ _ _ _ _ (fill_start hok.2) he
          rw [h1]
          rw [resAllF_eq h2] at hres
          split at hres
          · rename_i vs hvs
            rcases hee with rfl | rfl <;> simp only [leave, resA, hvs, Option.map_some] <;> exact hres
          · cases hres
        split at h
        · rename_i t σ' he; exact key _ _ _ he (.inl rfl) h
        · rename_i t σ' he; exact key _ _ _ he (.inr rfl) h
        · cases h
      · cases h
    · cases h
  · cases h

def kF (P : Program) (B : Kn) : Nat → Kn
  | 0 => B
  | n + 1 => fun g args σ => match B g args σ with | some r => some r | none => callF P (kF P B n) n g args σ

theorem kF_ok {P : Program} {B : Kn} (hB : B.ok P) (hm : P.follows .mixedOrders = true) : ∀ n, (kF P B n).ok P
  | 0 => hB
  | n + 1 => by
    intro g args σ v σ' h
    simp only [kF] at h
    split at h
    · rename_i r hr
      cases h
      exact hB g args σ v σ' hr
    · exact callA_ok (evRegB_ok P) (kF_ok hB hm n) hm n g args σ v σ' (callF_sim h)

/-- A call without memory of ours among its arguments. -/
theorem Calls.of_ok {P : Program} {K : Kn} (hK : K.ok P) {g : FuncId} {args : List Value} {v : Value} {σ' : St} (h : K g args St.none = some (v, σ')) (hv : closedV v = true ∧ discV v = true)
    (w : World) (args' : Array Value) (ha : LRel (fun _ => Option.none) args args'.toList) : Calls P g args' w fun e w' => e = .returned v ∧ RowKit.Below w.heap.size w w' := by
  refine ((hK g args St.none v σ' h).2 _ w args' (Rel.none w) ha).mono ?_
  rintro e w' ⟨v', rfl, f', hx, _, hvr⟩
  exact ⟨by rw [hvr.disc hv.2], below_of_ext hx⟩
end Go.As
