/- Calls: the abstract machine's functions, one inside the other, and that the model's calls do the same. -/
import Derived.Test.YtfffmmgmjlfkoaaGreatA20
import Derived.Below
namespace Go.As
set_option linter.unusedSimpArgs false
set_option linter.unusedVariables false

def resOne (P : Program) (T : List Value) (σ : St) : ResultVar → Option Value
  | .tmp t => some (T.getD t undef)
  | .cell a t => loadA P σ.get t (T.getD a undef)

def resAll (P : Program) (T : List Value) (σ : St) : List ResultVar → Option (List Value)
  | [] => some []
  | r :: rs =>
    match resOne P T σ r, resAll P T σ rs with
    | some v, some vs => some (v :: vs)
    | _, _ => none

def packed : List Value → Value
  | [v] => v
  | vs => .tuple vs.toArray

def resA (P : Program) (rs : List ResultVar) (T : List Value) (σ : St) : Option Value := (resAll P T σ rs).map packed

theorem evTmp {f : Inj} {T : List Value} {a : Act} (hT : LRel f T a.tmps.toList) (t : Nat) : VRel f (T.getD t undef) (a.tmps.getD t undef) := evA_rel (x := .tmp t) hT rfl

def resSem (tmps : Array Value) : ResultVar → Sem Value
  | .tmp t => pure (tmps.getD t undef)
  | .cell b t => do loadVar t (← asAddr (tmps.getD b undef))

theorem results_eq (fn : Func) (tmps : Array Value) : results fn tmps = (do
    let vs ← fn.results.mapM (resSem tmps)
    pure (if h : vs.size = 1 then vs[0] else .tuple vs)) := by
  unfold results
  congr 1

theorem resAll_ok {P : Program} {f : Inj} {σ : St} {w : World} (hR : Rel f σ w) {T : List Value} {a : Act} (hT : LRel f T a.tmps.toList) : ∀ (rs : List ResultVar) (vs : List Value), resAll P T σ rs = some vs →
    ∃ vs', (rs.mapM (resSem a.tmps)).run P w = .ok vs' w ∧ LRel f vs vs'
  | [], vs, h => by
    simp only [resAll, Option.some.injEq] at h
    subst h
    exact ⟨[], by simp, LRel.nil⟩
  | r :: rs, vs, h => by
    simp only [resAll] at h
    split at h
    · rename_i v vs1 hv hvs
      cases h
      obtain ⟨vs', hrun, hrel⟩ := resAll_ok hR hT rs vs1 hvs
      have hone : ∃ v', (resSem a.tmps r).run P w = .ok v' w ∧ VRel f v v' := by
        cases r with
        | tmp t =>
          simp only [resOne, Option.some.injEq] at hv
          subst hv
          exact ⟨_, rfl, evTmp hT t⟩
        | cell b t =>
          simp only [resOne] at hv
          obtain ⟨v', hl, r'⟩ := loadA_ok hR (evTmp hT b) hv
          refine ⟨v', ?_, r'⟩
          have hx := evTmp hT b
          unfold loadA at hv
          split at hv
          · rename_i ad had
            rw [had] at hx
            obtain ⟨ad', e, _⟩ := hx.ptr_of
            simp only [Instr.loadAt, e, Instr.sureAddr, Sem.run_bind, Sem.run_pure, Result.andThen_ok] at hl
            simp only [resSem, e, asAddr, Sem.run_bind, Sem.run_pure, Result.andThen_ok]
            exact hl
          · cases hv
      obtain ⟨v', hr', hv'⟩ := hone
      refine ⟨v' :: vs', ?_, LRel.cons hv' hrel⟩
      rw [List.mapM_cons, Sem.run_bind, hr', Result.andThen_ok, Sem.run_bind, hrun, Result.andThen_ok]
      rfl
    · cases h

theorem resA_ok {P : Program} {f : Inj} {σ : St} {w : World} (hR : Rel f σ w) {T : List Value} {a : Act} (hT : LRel f T a.tmps.toList) {fn : Func} {v : Value} (h : resA P fn.results.toList T σ = some v) :
    ∃ v', (results fn a.tmps).run P w = .ok v' w ∧ VRel f v v' := by
  unfold resA at h
  cases hr : resAll P T σ fn.results.toList with
  | none => rw [hr] at h; cases h
  | some vs =>
    rw [hr] at h
    cases h
    obtain ⟨vs', hrun, hrel⟩ := resAll_ok hR hT _ _ hr
    rw [results_eq, Array.mapM_eq_mapM_toList]
    simp only [Sem.run_bind, Sem.run_map]
    rw [hrun]
    simp only [Result.andThen_ok, Sem.run_pure]
    refine ⟨_, rfl, ?_⟩
    cases vs with
    | nil =>
      have := hrel.of_nil
      subst this
      exact VRel.tuple_of LRel.nil
    | cons x xs =>
      obtain ⟨x', xs', rfl, hx, hxs⟩ := hrel.of_cons
      cases xs with
      | nil =>
        have := hxs.of_nil
        subst this
        exact hx
      | cons y ys =>
        obtain ⟨y', ys', rfl, hy, hys⟩ := hxs.of_cons
        rw [dif_neg (by simp)]
        exact VRel.tuple_of (by simpa using LRel.cons hx (LRel.cons hy hys))

/-- What is asked of a function's text. -/
def fnOk (fn : Func) : Bool :=
  !(fn.name == "runtime.NumGoroutine") && match fn.body with | some c => codeOk c | none => false

/-- The values with which a function's body begins. -/
def start (fn : Func) (args : List Value) : List Value := args ++ List.replicate (fn.ntmps - args.length) undef

def leave (P : Program) (fn : Func) (r : Res) : Option (Value × St) :=
  match r with
  | some (.ret, T, σ) => (resA P fn.results.toList T σ).map (·, σ)
  | some (.normal, T, σ) => (resA P fn.results.toList T σ).map (·, σ)
  | _ => none

def callA (P : Program) (F : RegF) (K : Kn) (n : Nat) : Kn := fun g args σ =>
  match P.funcs[g]? with
  | some fn =>
    if fnOk fn then
      match fn.body with
      | some c => leave P fn ((ev P F K n c).1 (start fn args) σ)
      | none => none
    else none
  | none => none

/-- Calls that go so deep at most; what B says goes first. -/
def kAt (P : Program) (F : RegF) (B : Kn) : Nat → Kn
  | 0 => B
  | n + 1 => fun g args σ => match B g args σ with | some r => some r | none => callA P F (kAt P F B n) n g args σ

theorem callA_ok {P : Program} {F : RegF} (hF : F.ok P) {K : Kn} (hK : K.ok P) (hm : P.follows .mixedOrders = true) (n : Nat) : (callA P F K n).ok P := by
  intro g args σ v σ' h
  unfold callA at h
  split at h
  · rename_i fn hfn
    split at h
    · rename_i hok
      split at h
      · rename_i c hb
        unfold fnOk at hok
        rw [hb] at hok
        simp only [Bool.and_eq_true, Bool.not_eq_true'] at hok
        refine ⟨⟨fn, hfn, hok.1, by rw [hb]; rfl⟩, ?_⟩
        intro f w args' hR ha
        refine calls_of_wp hfn hb ?_
        have hT : LRel f (start fn args) (args' ++ Array.replicate (fn.ntmps - args'.size) undef).toList := by
          have hl : args.length = args'.size := by have := ha.1; simpa using this
          simp only [start, Array.toList_append, Array.toList_replicate, ← hl]
          refine ha.append ⟨rfl, fun i x x' h1 h2 => ?_⟩
          rw [h1] at h2
          cases h2
          have : x = undef := List.eq_of_mem_replicate (List.mem_of_getElem? h1)
          rw [this]
          exact VRel.undef f
        have key : ∀ (e : Exit) (T' : List Value) (σ1 : St), (ev P F K n c).1 (start fn args) σ = some (e, T', σ1) → (e = .ret ∨ e = .normal) → (resA P fn.results.toList T' σ1).map (·, σ1) = some (v, σ') →
            c.wp P (bodyPost P fn fun e w' => ∃ v', e = .returned v' ∧ Turns f σ w v σ' v' w') { tmps := args' ++ Array.replicate (fn.ntmps - args'.size) undef, defers := [] } w := by
          intro e T' σ1 hev he hres
          refine (ev_sound hF hK hm n c hok.2).1 (start fn args) σ e T' σ1 hev f w _ _ hR hT ?_
          rintro a' w' ⟨f1, hx, hR1, hT1, hd⟩
          cases hrr : resA P fn.results.toList T' σ1 with
          | none => rw [hrr] at hres; cases hres
          | some u =>
            rw [hrr] at hres
            simp only [Option.map_some, Option.some.injEq, Prod.mk.injEq] at hres
            obtain ⟨rfl, rfl⟩ := hres
            obtain ⟨v', hrun, hv⟩ := resA_ok hR1 hT1 hrr
            rcases he with rfl | rfl
            · exact ⟨hd, v', hrun, v', rfl, f1, hx, hR1, hv⟩
            · exact ⟨hd, v', hrun, v', rfl, f1, hx, hR1, hv⟩
        unfold leave at h
        split at h
        · rename_i T' σ1 hev; exact key _ T' σ1 hev (.inl rfl) h
        · rename_i T' σ1 hev; exact key _ T' σ1 hev (.inr rfl) h
        · cases h
      · cases h
    · cases h
  · cases h

theorem kAt_ok {P : Program} {F : RegF} (hF : F.ok P) {B : Kn} (hB : B.ok P) (hm : P.follows .mixedOrders = true) : ∀ n, (kAt P F B n).ok P
  | 0 => hB
  | n + 1 => by
    intro g args σ v σ' h
    simp only [kAt] at h
    split at h
    · rename_i r hr
      cases h
      exact hB g args σ v σ' hr
    · exact callA_ok hF (kAt_ok hF hB hm n) hm n g args σ v σ' h

def noK : Kn := fun _ _ _ => none
theorem noK_ok (P : Program) : noK.ok P := fun _ _ _ _ _ h => by cases h

/-! ### A call from outside -/
def St.none : St := { heap := .nil, next := 0 }

theorem Rel.none (w : World) : Rel (fun _ => Option.none) St.none w :=
  ⟨(fun b o c k h => by cases h), (fun b b' o o' c k k' h => by cases h), (fun b x h => by cases h), (fun b c k h => by cases h)⟩

theorem below_of_ext {σ' : St} {f' : Inj} {w w' : World} (h : Ext (fun _ => Option.none) St.none w f' σ' w') : RowKit.Below w.heap.size w w' :=
  ⟨h.os, h.tape, h.output, h.size, fun c hc => h.keep c hc (fun ⟨_, _, _, _, _, h3⟩ => by cases h3)⟩

/-- A call without memory of ours among its arguments. -/
theorem Calls.of_kAt {P : Program} {F : RegF} (hF : F.ok P) {B : Kn} (hB : B.ok P) (hm : P.follows .mixedOrders = true) {n : Nat} {g : FuncId} {args : List Value} {v : Value} {σ' : St} (h : kAt P F B n g args St.none = some (v, σ')) (hv : closedV v = true ∧ discV v = true)
    (w : World) (args' : Array Value) (ha : LRel (fun _ => Option.none) args args'.toList) : Calls P g args' w fun e w' => e = .returned v ∧ RowKit.Below w.heap.size w w' := by
  refine ((kAt_ok hF hB hm n g args St.none v σ' h).2 _ w args' (Rel.none w) ha).mono ?_
  rintro e w' ⟨v', rfl, f', hx, _, hvr⟩
  exact ⟨by rw [hvr.disc hv.2], below_of_ext hx⟩
end Go.As
