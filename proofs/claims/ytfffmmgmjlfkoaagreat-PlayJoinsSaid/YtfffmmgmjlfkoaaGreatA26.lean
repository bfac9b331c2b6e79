/- What stands behind a piece of code of the tree's run: rules to walk by. -/
import Derived.Test.YtfffmmgmjlfkoaaGreatA25
namespace Go.As
set_option linter.unusedSimpArgs false
set_option linter.unusedVariables false

section
variable {P : Program} {K : Kn} {ops : Array Oper} {nt n : Nat}

def OpsP (P : Program) (K : Kn) (ops : Array Oper) (nt : Nat) (l : List Oper) (t : TT) (σ : St) (Q : TT → St → Prop) : Prop := ∃ t' σ', opsF P K ops nt l t σ = some (t', σ') ∧ Q t' σ'
def EvP (P : Program) (K : Kn) (n nt : Nat) (c : Code) (t : TT) (σ : St) (Q : Exit → TT → St → Prop) : Prop := ∃ e t' σ', (evF P K n nt c).1 t σ = some (e, t', σ') ∧ Q e t' σ'

theorem OpsP.nil {t : TT} {σ : St} {Q : TT → St → Prop} (h : Q t σ) : OpsP P K ops nt [] t σ Q := ⟨t, σ, rfl, h⟩

variable {dst : Option Tmp} {ty : TypeId} {pos : String} {af : Array Edge} {l : List Oper} {t : TT} {σ : St} {Q : TT → St → Prop}

theorem OpsP.cons {op : Op} {v : Value} {σ' : St} (h : opF P K none (rdF nt t) ⟨dst, op, ty, pos, af, none⟩ σ = some (v, σ')) (k : OpsP P K ops nt l (putF t dst v) σ' Q) : OpsP P K ops nt (⟨dst, op, ty, pos, af, none⟩ :: l) t σ Q := by
  obtain ⟨t', σ1, h1, h2⟩ := k
  exact ⟨t', σ1, (ops_cons h).trans h1, h2⟩

/-- A guarded operation that is not wanted. -/
theorem OpsP.skip {op : Op} {j : Nat} {b : Bool} {o : Oper} {d : Nat} (ho : ops[j]? = some o) (hd : o.dst = some d) (hv : rdT nt t d = .bool (!b)) (k : OpsP P K ops nt l (putF t dst undef) σ Q) : OpsP P K ops nt (⟨dst, op, ty, pos, af, some (j, b)⟩ :: l) t σ Q := by
  obtain ⟨t', σ1, h1, h2⟩ := k
  refine ⟨t', σ1, (ops_skip ?_).trans h1, h2⟩
  simp only [Region.wanted, yieldF, ho, hd, hv]
  cases b <;> rfl

/-- A guarded operation that is wanted. -/
theorem OpsP.want {op : Op} {j : Nat} {b : Bool} {o : Oper} {d : Nat} {v : Value} {σ' : St} (ho : ops[j]? = some o) (hd : o.dst = some d) (hv : rdT nt t d = .bool b)
    (h : opF P K none (rdF nt t) ⟨dst, op, ty, pos, af, some (j, b)⟩ σ = some (v, σ')) (k : OpsP P K ops nt l (putF t dst v) σ' Q) : OpsP P K ops nt (⟨dst, op, ty, pos, af, some (j, b)⟩ :: l) t σ Q := by
  obtain ⟨t', σ1, h1, h2⟩ := k
  refine ⟨t', σ1, (ops_want ?_ h).trans h1, h2⟩
  simp only [Region.wanted, yieldF, ho, hd, hv]
  cases b <;> rfl

variable {ρ : Operand → Value} {g : Option (Nat × Bool)}

theorem op_move {x : Operand} : opF P K none ρ ⟨dst, .move x, ty, pos, af, g⟩ σ = some (ρ x, σ) := rfl
theorem op_assign {x : Operand} : opF P K none ρ ⟨dst, .assign x, ty, pos, af, g⟩ σ = some (ρ x, σ) := rfl
theorem op_bin {op : BinOp} {t : TypeId} {x y : Operand} {yt : TypeId} {v : Value} (h : binA P op t x y (ρ x) (ρ y) = some v) : opF P K none ρ ⟨dst, .binOp op t x y yt, ty, pos, af, g⟩ σ = some (v, σ) := by
  simp only [opF, h]
theorem op_load {t : TypeId} {a : Operand} {v : Value} (h : loadA P σ.get t (ρ a) = some v) : opF P K none ρ ⟨dst, .load t a, ty, pos, af, g⟩ σ = some (v, σ) := by
  simp only [opF, h]
theorem op_field {s : TypeId} {x : Operand} {i : Nat} {v : Value} (h : fieldAddrA P s i (ρ x) = some v) : opF P K none ρ ⟨dst, .fieldAddr s x i, ty, pos, af, g⟩ σ = some (v, σ) := by
  simp only [opF, h]
theorem op_extract {x : Operand} {i : Nat} {vs : Array Value} {v : Value} (h : ρ x = .tuple vs) (hi : vs.toList[i]? = some v) : opF P K none ρ ⟨dst, .extract x i, ty, pos, af, g⟩ σ = some (v, σ) := by
  simp only [opF, h, hi]
theorem op_silent {op : Op} {v : Value} (hk : okind P ⟨dst, op, ty, pos, af, g⟩ = .silent) (h : silentA P ρ σ.get ⟨dst, op, ty, pos, af, g⟩ = some v) : opF P K none ρ ⟨dst, op, ty, pos, af, g⟩ σ = some (v, σ) := by
  cases op <;> simp only [opF, hk, h, Option.map_some] <;> simp only [silentA] at h <;> first
    | (rw [h]; done)
    | (cases h; rfl)
    | (split at h <;> first | (cases h; done) | skip)
  all_goals try (rename_i hv; rw [hv]; simp only [h]; done)
  all_goals (cases h; rfl)
theorem op_pick_true {c a b : Operand} (h : ρ c = .bool true) : opF P K none ρ ⟨dst, .pick c a b, ty, pos, af, g⟩ σ = some (ρ a, σ) := by
  simp [opF, okind, silentA, h]
theorem op_pick_false {c a b : Operand} (h : ρ c = .bool false) : opF P K none ρ ⟨dst, .pick c a b, ty, pos, af, g⟩ σ = some (ρ b, σ) := by
  simp [opF, okind, silentA, h]
theorem op_makes {op : Op} {v : Value} {σ' : St} (hk : okind P ⟨dst, op, ty, pos, af, g⟩ = .makes) (h : allocTo P ρ none ⟨dst, op, ty, pos, af, g⟩ σ = some (v, σ')) : opF P K none ρ ⟨dst, op, ty, pos, af, g⟩ σ = some (v, σ') := by
  cases op <;> simp only [opF, hk, h] <;> simp [okind] at hk
theorem op_writes {op : Op} {v : Value} {σ' : St} (hk : okind P ⟨dst, op, ty, pos, af, g⟩ = .writes) (h : writesA P K ρ ⟨dst, op, ty, pos, af, g⟩ σ = some (v, σ')) : opF P K none ρ ⟨dst, op, ty, pos, af, g⟩ σ = some (v, σ') := by
  cases op <;> simp only [opF, hk, h] <;> simp [okind] at hk
end

section
variable {P : Program} {K : Kn} {n nt : Nat} {t : TT} {σ : St} {Q : Exit → TT → St → Prop}

theorem EvP.region {id : Nat} {ops : Array Oper} (h : OpsP P K ops nt ops.toList t σ fun t' σ' => Q .normal t' σ') : EvP P K n nt (.region id ops false) t σ Q := by
  obtain ⟨t', σ', h1, h2⟩ := h
  refine ⟨.normal, t', σ', ?_, h2⟩
  simp only [evF, h1, normF]

theorem EvP.seq {a b : Code} (h : EvP P K n nt a t σ fun e t' σ' => match e with | .normal => EvP P K n nt b t' σ' Q | e => Q e t' σ') : EvP P K n nt (.seq a b) t σ Q := by
  obtain ⟨e, t1, σ1, h1, h2⟩ := h
  cases e with
  | normal =>
    obtain ⟨e2, t2, σ2, h3, h4⟩ := h2
    exact ⟨e2, t2, σ2, by simp only [evF, h1, thenF, h3], h4⟩
  | _ => exact ⟨_, t1, σ1, by simp only [evF, h1, thenF], h2⟩

theorem EvP.cond_true {x : Operand} {a b : Code} (hx : rdF nt t x = .bool true) (h : EvP P K n nt a t σ Q) : EvP P K n nt (.cond x a b) t σ Q := by
  obtain ⟨e, t1, σ1, h1, h2⟩ := h
  exact ⟨e, t1, σ1, by simp only [evF, hx, h1], h2⟩
theorem EvP.cond_false {x : Operand} {a b : Code} (hx : rdF nt t x = .bool false) (h : EvP P K n nt b t σ Q) : EvP P K n nt (.cond x a b) t σ Q := by
  obtain ⟨e, t1, σ1, h1, h2⟩ := h
  exact ⟨e, t1, σ1, by simp only [evF, hx, h1], h2⟩
theorem EvP.skip (h : Q .normal t σ) : EvP P K n nt .skip t σ Q := ⟨_, _, _, rfl, h⟩
theorem EvP.label {l : Nat} (h : Q .normal t σ) : EvP P K n nt (.label l) t σ Q := ⟨_, _, _, rfl, h⟩
theorem EvP.ret (h : Q .ret t σ) : EvP P K n nt .ret t σ Q := ⟨_, _, _, rfl, h⟩
theorem EvP.exit {i : Nat} (h : Q (.exit i) t σ) : EvP P K n nt (.exit i) t σ Q := ⟨_, _, _, rfl, h⟩
theorem EvP.goto {i : Nat} (h : Q (.goto i) t σ) : EvP P K n nt (.goto i) t σ Q := ⟨_, _, _, rfl, h⟩

theorem EvP.block {id : Nat} {c : Code} (h : EvP P K n nt c t σ fun e t' σ' => match e with | .exit i => if i = id then Q .normal t' σ' else Q (.exit i) t' σ' | e => Q e t' σ') : EvP P K n nt (.block id c) t σ Q := by
  obtain ⟨e, t1, σ1, h1, h2⟩ := h
  cases e with
  | exit i =>
    simp only at h2
    by_cases hi : i = id
    · rw [if_pos hi] at h2
      exact ⟨_, t1, σ1, by simp only [evF, h1, inBlkF, hi, if_true], h2⟩
    · rw [if_neg hi] at h2
      exact ⟨_, t1, σ1, by simp only [evF, h1, inBlkF, hi, if_false], h2⟩
  | _ => exact ⟨_, t1, σ1, by simp only [evF, h1, inBlkF], h2⟩

/-- A loop: so many rounds are left at most. -/
theorem EvP.loop {c : Code} (I : Nat → TT → St → Prop) (hs : ∀ m t σ, I m t σ → EvP P K n nt c t σ fun e t' σ' => match e with | .normal => ∃ m', m' < m ∧ I m' t' σ' | e => Q e t' σ') {m : Nat} (hm : m < n) (h : I m t σ) : EvP P K n nt (.loop c) t σ Q := by
  have key : ∀ k m t σ, m < k → I m t σ → ∃ e t' σ', iterF k (evF P K n nt c).1 t σ = some (e, t', σ') ∧ Q e t' σ' := by
    intro k
    induction k with
    | zero => intro m t σ hk _; omega
    | succ k ih =>
      intro m t σ hk hI
      obtain ⟨e, t1, σ1, h1, h2⟩ := hs m t σ hI
      cases e with
      | normal =>
        obtain ⟨m', hm', hI'⟩ := h2
        obtain ⟨e2, t2, σ2, h3, h4⟩ := ih m' t1 σ1 (by omega) hI'
        exact ⟨e2, t2, σ2, by simp only [iterF, h1, thenF, h3], h4⟩
      | _ => exact ⟨_, t1, σ1, by simp only [iterF, h1, thenF], h2⟩
  obtain ⟨e, t', σ', h1, h2⟩ := key n m t σ hm h
  exact ⟨e, t', σ', h1, h2⟩

theorem EvP.mono {c : Code} {Q' : Exit → TT → St → Prop} (h : EvP P K n nt c t σ Q) (hq : ∀ e t σ, Q e t σ → Q' e t σ) : EvP P K n nt c t σ Q' := by
  obtain ⟨e, t1, σ1, h1, h2⟩ := h
  exact ⟨e, t1, σ1, h1, hq _ _ _ h2⟩
end

/-- A function's call, by its body. -/
theorem call_of_evP {P : Program} {K : Kn} (hK : K.ok P) (hm : P.follows .mixedOrders = true) {n : Nat} {g : FuncId} {fn : Func} {c : Code} (hfn : P.funcs[g]? = some fn) (hb : fn.body = some c) (hok : fnOk fn = true) {args : List Value} (hl : args.length ≤ fn.ntmps) {σ : St} {R : Value → St → Prop}
    (h : EvP P K n fn.ntmps c (fill .nil 0 args) σ fun e t σ' => (e = .ret ∨ e = .normal) ∧ ∃ vs, resAllF P (rdT fn.ntmps t) σ' fn.results.toList = some vs ∧ R (packed vs) σ') : ∃ v σ', R v σ' ∧ Callable P g ∧ CallsA P g args σ v σ' := by
  obtain ⟨e, t, σ', h1, he, vs, h2, h3⟩ := h
  refine ⟨packed vs, σ', h3, ?_⟩
  refine callA_ok (evRegB_ok P) hK hm n g args σ _ σ' (callF_sim ?_)
  unfold callF
  rw [hfn]
  simp only [hok, hl, decide_true, Bool.and_self, if_true, hb]
  rw [h1]
  rcases he with rfl | rfl <;> simp only [h2]
end Go.As
