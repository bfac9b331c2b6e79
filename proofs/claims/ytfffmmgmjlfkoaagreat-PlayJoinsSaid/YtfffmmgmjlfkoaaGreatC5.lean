/- What is known of slices.Contains, as a table. -/
import Derived.Test.YtfffmmgmjlfkoaaGreatC4
namespace Go.Proofs.YtfffmmgmjlfkoaaGreat
set_option linter.unusedSimpArgs false
set_option linter.unusedVariables false
open Go.As

/-- One call that is known. -/
noncomputable def oneCall (g0 : FuncId) (args0 : List Value) (σ0 : St) (v : Value) (σ1 : St) : Kn := by
  classical exact fun g args σ => if g = g0 ∧ args = args0 ∧ σ = σ0 then some (v, σ1) else none
theorem oneCall_ok {P : Program} {g0 : FuncId} {args0 : List Value} {σ0 : St} {v : Value} {σ1 : St} (h : Callable P g0 ∧ CallsA P g0 args0 σ0 v σ1) : (oneCall g0 args0 σ0 v σ1).ok P := by
  intro g args σ v' σ' hr
  unfold oneCall at hr
  split at hr
  · rename_i hc
    obtain ⟨rfl, rfl, rfl⟩ := hc
    cases hr
    exact h
  · cases hr
theorem oneCall_eq (g0 : FuncId) (args0 : List Value) (σ0 : St) (v : Value) (σ1 : St) : oneCall g0 args0 σ0 v σ1 g0 args0 σ0 = some (v, σ1) := by
  unfold oneCall
  exact if_pos ⟨rfl, rfl, rfl⟩

theorem con_ok {σ : St} {b off n c : Nat} {cs : List Value} {e : TypeId} {kd : Kd} {xs : List Int} {k : Int} (hb : σ.get b = some (.cells cs e kd)) (hx : ∀ i x, xs[i]? = some x → cs[off + i]? = some (.int .i64 x)) (hn : xs.length = n) (hs : n < 1000000) :
    Callable Tryz.prog 75 ∧ CallsA Tryz.prog 75 [.slice (some ⟨b, off, none⟩) n c, .int .i64 k] σ (.bool (xs.contains k)) σ := by
  have h := call_of_evP (oneCall_ok (idx_ok (c := c) (k := k) hb hx hn hs)) mixed (fn := Tryz.f75) (n := 1) (args := [.slice (some ⟨b, off, none⟩) n c, .int .i64 k]) (R := fun v σ' => v = .bool (xs.contains k) ∧ σ' = σ) Tryz.func75 conCode_eq (by kernel_rfl) (by show 2 ≤ 9; omega)
    ((con_walk (oneCall_eq _ _ _ _ _)).mono fun e t σ' ⟨h1, h2, h3⟩ => ⟨.inl h1, [.bool (xs.contains k)], by rw [idxFrom_ge] at h3; rw [← h3]; rfl, rfl, h2⟩)
  obtain ⟨v, σ', ⟨rfl, rfl⟩, h1, h2⟩ := h
  exact ⟨h1, h2⟩

/-- The ints of a list of values, if they are that. -/
def ints : List Value → Option (List Int)
  | [] => some []
  | .int .i64 x :: l => match ints l with | some xs => some (x :: xs) | none => none
  | _ => none

theorem ints_spec : ∀ {l : List Value} {xs : List Int}, ints l = some xs → xs.length = l.length ∧ ∀ (i : Nat) (x : Int), xs[i]? = some x → l[i]? = some (Value.int .i64 x)
  | [], xs, h => by cases h; exact ⟨rfl, fun i x h => by simp at h⟩
  | v :: l, xs, h => by
    unfold ints at h
    split at h
    · rename_i h1; cases h1
    · rename_i x l' h1
      cases h1
      split at h
      · rename_i ys hys
        cases h
        obtain ⟨h2, h3⟩ := ints_spec hys
        refine ⟨by simp [h2], fun i y hy => ?_⟩
        cases i with
        | zero => simp at hy; subst hy; rfl
        | succ i => simpa using h3 i y (by simpa using hy)
      · cases h
    · cases h

/-- A slice's ints. -/
def rowOf (rd : Nat → Option AObj) (v : Value) : Option (List Int) :=
  match v with
  | .slice (some ⟨b, off, none⟩) n _ =>
    match rd b with
    | some (.cells cs _ _) =>
      match Nat.ble (off + n) cs.length && Nat.blt n 1000000 with
      | true => ints ((cs.drop off).take n)
      | false => none
    | _ => none
  | _ => none

theorem rowOf_spec {σ : St} {v : Value} {xs : List Int} (h : rowOf σ.get v = some xs) : ∃ b off n c cs e kd, v = .slice (some ⟨b, off, none⟩) n c ∧ σ.get b = some (.cells cs e kd) ∧ (∀ i x, xs[i]? = some x → cs[off + i]? = some (.int .i64 x)) ∧ xs.length = n ∧ n < 1000000 := by
  unfold rowOf at h
  split at h
  · rename_i b off n c
    split at h
    · rename_i cs e kd hb
      split at h
      · rename_i hc
        rw [Bool.and_eq_true] at hc
        have h1 := Nat.le_of_ble_eq_true hc.1
        have h2 : n < 1000000 := by have := hc.2; rw [Nat.blt_eq] at this; exact this
        obtain ⟨h3, h4⟩ := ints_spec h
        have hlen : xs.length = n := by rw [h3]; simp; omega
        refine ⟨b, off, n, c, cs, e, kd, rfl, hb, fun i x hx => ?_, hlen, h2⟩
        have h5 := h4 i x hx
        rw [List.getElem?_take] at h5
        split at h5
        · rwa [List.getElem?_drop] at h5
        · cases h5
      · cases h
    · cases h
  · cases h

/-- slices.Contains. -/
def kCon : Kn := fun g args σ =>
  match Nat.beq g 75 with
  | true =>
    match args with
    | [s, .int .i64 k] =>
      match rowOf σ.get s with
      | some xs => some (.bool (xs.contains k), σ)
      | none => none
    | _ => none
  | false => none

theorem kCon_ok : kCon.ok Tryz.prog := by
  intro g args σ v σ' h
  unfold kCon at h
  split at h
  · rename_i hg
    have hg := Nat.eq_of_beq_eq_true hg
    subst hg
    split at h
    · rename_i s k
      split at h
      · rename_i xs hxs
        cases h
        obtain ⟨b, off, n, c, cs, e, kd, rfl, hb, hx, hn, hs⟩ := rowOf_spec hxs
        exact con_ok hb hx hn hs
      · cases h
    · cases h
  · cases h
end Go.Proofs.YtfffmmgmjlfkoaaGreat
