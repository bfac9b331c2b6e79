/- Drawn regions run by a function that reckons: what it lets through, the machine does. -/
import Derived.Test.YtfffmmgmjlfkoaaGreatA21
namespace Go.As
set_option linter.unusedSimpArgs false
set_option linter.unusedVariables false

/-! ### Sameness that is reckoned -/
def veq1 : Value → Value → Bool
  | .bool a, .bool b => decide (a = b)
  | .int k a, .int j b => decide (k = j) && decide (a = b)
  | .float k a, .float j b => decide (k = j) && decide (a = b)
  | .complex k a b, .complex j c d => decide (k = j) && decide (a = c) && decide (b = d)
  | .string a, .string b => decide (a = b)
  | .pointer a, .pointer b => decide (a = b)
  | .slice a n c, .slice b m d => decide (a = b) && decide (n = m) && decide (c = d)
  | .map a, .map b => decide (a = b)
  | .nilFunc, .nilFunc => true
  | _, _ => false

theorem veq1_eq {a b : Value} (h : veq1 a b = true) : a = b := by
  cases a <;> cases b <;> simp only [veq1] at h <;> first
    | (cases h; done)
    | rfl
    | (rw [of_decide_eq_true h]; done)
    | (simp only [Bool.and_eq_true, decide_eq_true_eq] at h; first | (rw [h.1, h.2]; done) | (rw [h.1.1, h.1.2, h.2]; done))

def leq1 : List Value → List Value → Bool
  | [], [] => true
  | a :: l, b :: m => veq1 a b && leq1 l m
  | _, _ => false

theorem leq1_eq : ∀ {l m : List Value}, leq1 l m = true → l = m
  | [], [], _ => rfl
  | a :: l, b :: m, h => by
    simp only [leq1, Bool.and_eq_true] at h
    rw [veq1_eq h.1, leq1_eq h.2]
  | [], _ :: _, h => by cases h
  | _ :: _, [], h => by cases h

def veq : Value → Value → Bool
  | .agg ⟨a⟩, .agg ⟨b⟩ => leq1 a b
  | a, b => veq1 a b

theorem veq_eq {a b : Value} (h : veq a b = true) : a = b := by
  unfold veq at h
  split at h
  · rw [leq1_eq h]
  · exact veq1_eq h

def meq : List (Int × Value) → List (Int × Value) → Bool
  | [], [] => true
  | (k, v) :: l, (j, u) :: m => k == j && veq v u && meq l m
  | _, _ => false

theorem meq_eq : ∀ {l m : List (Int × Value)}, meq l m = true → l = m
  | [], [], _ => rfl
  | (k, v) :: l, (j, u) :: m, h => by
    simp only [meq, Bool.and_eq_true, beq_iff_eq] at h
    rw [h.1.1, veq_eq h.1.2, meq_eq h.2]
  | [], _ :: _, h => by cases h
  | _ :: _, [], h => by cases h

def oeq : Option AObj → Option AObj → Bool
  | none, none => true
  | some (.cells a e k), some (.cells b f j) => leq1 a b && e == f && decide (k = j)
  | some (.map k a), some (.map j b) => k == j && meq a b
  | some (.blob n), some (.blob m) => Nat.beq n m
  | _, _ => false

theorem oeq_eq {a b : Option AObj} (h : oeq a b = true) : a = b := by
  unfold oeq at h
  split at h
  · rfl
  · simp only [Bool.and_eq_true, beq_iff_eq, decide_eq_true_eq] at h
    rw [leq1_eq h.1.1, h.1.2, h.2]
  · simp only [Bool.and_eq_true, beq_iff_eq] at h
    rw [h.1, meq_eq h.2]
  · rw [Nat.eq_of_beq_eq_true h]
  · cases h

def stillB (P : Program) (ops : Array Oper) (base : Nat) (tr : Trace) (T' : List Value) (σ' : St) (p : Nat × Nat) : Bool :=
  match ops[p.1]? with
  | some o =>
    if Region.wanted o (yieldedL ops (tAt tr T' p.1)) then
      match blkOf P base p.1 (tAt tr T' p.1) o with
      | some b => oeq ((sAt tr σ' p.2).get b) ((sAt tr σ' (p.2 + 1)).get b)
      | none => true
    else true
  | none => true

def checksB (P : Program) (ops : Array Oper) (base : Nat) (tr : Trace) (T' : List Value) (σ' : St) : Bool :=
  (stillPairs P ops).all (stillB P ops base tr T' σ') && (cleanPts P ops).all fun p => ((sAt tr σ' p.2).get (base + p.1)).isNone

theorem checks_of {P : Program} {ops : Array Oper} {base : Nat} {tr : Trace} {T' : List Value} {σ' : St} (h : checksB P ops base tr T' σ' = true) : Checks P ops base tr T' σ' := by
  unfold checksB at h
  simp only [Bool.and_eq_true, List.all_eq_true] at h
  refine ⟨fun p hp => ?_, fun p hp => by simpa using h.2 p hp⟩
  have := h.1 p hp
  unfold stillB at this
  unfold stillAt
  cases ho : ops[p.1]? with
  | none => trivial
  | some o =>
    rw [ho] at this
    simp only at this ⊢
    intro hw b hb
    rw [if_pos hw, hb] at this
    exact oeq_eq this

def evRegB (P : Program) : RegF := fun K ops T σ =>
  if planB P ops then
    match evTr P K ops σ.next ops.toList 0 T { σ with next := σ.next + ops.size } with
    | some (tr, T', σ') => if checksB P ops σ.next tr T' σ' then some (T', σ') else none
    | none => none
  else none

theorem evRegB_ok (P : Program) : (evRegB P).ok P := by
  intro K ops T σ r h
  unfold evRegB at h
  unfold evRegD
  split at h
  · rename_i hp
    rw [if_pos hp]
    split at h
    · rename_i tr T' σ' htr
      split at h
      · rename_i hc
        rw [htr]
        exact (if_pos (checks_of hc)).trans h
      · cases h
    · cases h
  · cases h
end Go.As
