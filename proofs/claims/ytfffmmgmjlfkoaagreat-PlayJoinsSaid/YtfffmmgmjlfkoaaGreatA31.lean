/- Walking by rules, over drawn regions too, each call by its own contract. -/
import Derived.Test.YtfffmmgmjlfkoaaGreatA30
namespace Go.As
set_option linter.unusedSimpArgs false
set_option linter.unusedVariables false

/-- What a call comes to, by what is known of it. -/
def Con (P : Program) (g : FuncId) (args : List Value) (σ : St) (R : Value → St → Prop) : Prop := ∃ v σ', (Callable P g ∧ CallsA P g args σ v σ') ∧ R v σ'

theorem Con.mono {P : Program} {g : FuncId} {args : List Value} {σ : St} {R R' : Value → St → Prop} (h : Con P g args σ R) (hr : ∀ v σ', R v σ' → R' v σ') : Con P g args σ R' := by
  obtain ⟨v, σ', h1, h2⟩ := h
  exact ⟨v, σ', h1, hr _ _ h2⟩
theorem Con.of_ok {P : Program} {K : Kn} (hK : K.ok P) {g : FuncId} {args : List Value} {σ : St} {v : Value} {σ' : St} (h : K g args σ = some (v, σ')) : Con P g args σ fun v1 σ1 => v1 = v ∧ σ1 = σ' :=
  ⟨v, σ', hK _ _ _ _ _ h, rfl, rfl⟩

open Classical in
/-- A table of one row. -/
noncomputable def kOne (g0 : FuncId) (a0 : List Value) (σ0 : St) (v : Value) (σ1 : St) : Kn := fun g a σ => if g = g0 ∧ a = a0 ∧ σ = σ0 then some (v, σ1) else none
theorem kOne_ok {P : Program} {g0 : FuncId} {a0 : List Value} {σ0 : St} {v : Value} {σ1 : St} (h : Callable P g0 ∧ CallsA P g0 a0 σ0 v σ1) : (kOne g0 a0 σ0 v σ1).ok P := by
  intro g a σ v' σ' hk
  unfold kOne at hk
  split at hk
  · rename_i he
    obtain ⟨rfl, rfl, rfl⟩ := he
    cases hk
    exact h
  · cases hk
theorem kOne_at {g0 : FuncId} {a0 : List Value} {σ0 : St} {v : Value} {σ1 : St} : kOne g0 a0 σ0 v σ1 g0 a0 σ0 = some (v, σ1) := if_pos ⟨rfl, rfl, rfl⟩
def kTwo (a b : Kn) : Kn := fun g args σ => match a g args σ with | some r => some r | none => b g args σ
theorem kTwo_ok {P : Program} {a b : Kn} (ha : a.ok P) (hb : b.ok P) : (kTwo a b).ok P := by
  intro g args σ v σ' h
  unfold kTwo at h
  split at h
  · rename_i r hr; cases h; exact ha g args σ v σ' hr
  · exact hb g args σ v σ' h
theorem kTwo_fst {a b : Kn} {g : FuncId} {args : List Value} {σ : St} {r : Value × St} (h : a g args σ = some r) : kTwo a b g args σ = some r := by
  unfold kTwo; rw [h]
theorem kTwo_snd {g0 : FuncId} {a0 : List Value} {σ0 : St} {v : Value} {σ1 : St} {b : Kn} {g : FuncId} {args : List Value} {σ : St} {r : Value × St} (hg : g ≠ g0) (h : b g args σ = some r) : kTwo (kOne g0 a0 σ0 v σ1) b g args σ = some r := by
  unfold kTwo
  have : kOne g0 a0 σ0 v σ1 g args σ = none := if_neg (fun e => hg e.1)
  rw [this]; exact h

/-! ### Pieces of code -/
def Runs (P : Program) (nt : Nat) (c : Code) (t : TT) (σ : St) (e : Exit) (t' : TT) (σ' : St) : Prop :=
  ∀ T, TR nt T t → ∃ T', TR nt T' t' ∧ ∀ (f : Inj) (w : World) (a : Act) (Q : Exit → Act → World → Prop), Rel f σ w → LRel f T a.tmps.toList → (∀ a' w', After f σ w T' σ' a.defers a' w' → Q e a' w') → c.wp P Q a w
def GoP (P : Program) (nt : Nat) (c : Code) (t : TT) (σ : St) (Q : Exit → TT → St → Prop) : Prop := ∃ e t' σ', Runs P nt c t σ e t' σ' ∧ Q e t' σ'

def RunsO (P : Program) (ops : Array Oper) (nt : Nat) (l : List Oper) (k : Nat) (t : TT) (σ : St) (t' : TT) (σ' : St) : Prop :=
  (∀ j, l[j]? = ops[k + j]?) → (∀ o, o ∈ l → operOk o = true) → ∀ T, TR nt T t → ∃ T', TR nt T' t' ∧
    ∀ (f : Inj) (w : World) (a : Act) (Q : Exit → Act → World → Prop), Rel f σ w → LRel f T a.tmps.toList → (∀ a' w', After f σ w T' σ' a.defers a' w' → Q .normal a' w') → wpOps P ops Q (List.range' k l.length) a w
def OpsG (P : Program) (ops : Array Oper) (nt : Nat) (l : List Oper) (k : Nat) (t : TT) (σ : St) (Q : TT → St → Prop) : Prop := ∃ t' σ', RunsO P ops nt l k t σ t' σ' ∧ Q t' σ'

section
variable {P : Program} {ops : Array Oper} {nt base : Nat}
variable {dst : Option Tmp} {op : Op} {ty : TypeId} {pos : String} {af : Array Edge} {l : List Oper} {k : Nat} {t : TT} {σ : St} {Q : TT → St → Prop}

theorem OpsG.nil (h : Q t σ) : OpsG P ops nt [] k t σ Q :=
  ⟨t, σ, fun _ _ T hT => ⟨T, hT, fun f w a Q' hR hL hQ => hQ a w ⟨f, Ext.refl f σ w, hR, hL, rfl⟩⟩, h⟩

theorem RunsO.step {K : Kn} (hK : K.ok P) {o : Oper} {v : Value} {σ1 : St} {t' : TT} {σ' : St} (hw : Region.wanted o (yieldF ops nt t) = true) (h : opF P K none (rdF nt t) o σ = some (v, σ1)) (r : RunsO P ops nt l (k + 1) (putF t o.dst v) σ1 t' σ') : RunsO P ops nt (o :: l) k t σ t' σ' := by
  intro hl ho T hT
  have h0 : ops[k]? = some o := by simpa using (hl 0).symm
  have hl' : ∀ j, l[j]? = ops[k + 1 + j]? := fun j => by have := hl (j + 1); simpa [Nat.add_assoc, Nat.add_comm 1 j] using this
  obtain ⟨T', hT', hr⟩ := r hl' (fun o' ho' => ho o' (by simp [ho'])) (putL T o.dst v) (hT.put o.dst v)
  refine ⟨T', hT', fun f w a Q' hR hL hQ => ?_⟩
  simp only [List.length_cons, List.range'_succ, wpOps, h0]
  rw [yielded_rel hL ops, ← yieldF_eq hT, if_pos hw]
  refine .inl ?_
  rw [rdF_eq hT, opF_eq] at h
  refine evOper_ok hK hR hL (ho o (by simp)) h _ _ ?_
  rintro v' w' ⟨f1, hx, hR1, hvv⟩
  refine hr f1 w' _ Q' hR1 (putL_rel (⟨hL.1, fun i x x' a b => (hL.2 i x x' a b).mono hx.le⟩) o.dst hvv) ?_
  rintro a' w2 ⟨f2, hx2, hR2, hT2, hd⟩
  exact hQ a' w2 ⟨f2, hx.trans hx2, hR2, hT2, by rw [hd, put_defers]⟩

theorem RunsO.pass {o : Oper} {t' : TT} {σ' : St} (hw : Region.wanted o (yieldF ops nt t) = false) (r : RunsO P ops nt l (k + 1) (putF t o.dst undef) σ t' σ') : RunsO P ops nt (o :: l) k t σ t' σ' := by
  intro hl ho T hT
  have h0 : ops[k]? = some o := by simpa using (hl 0).symm
  have hl' : ∀ j, l[j]? = ops[k + 1 + j]? := fun j => by have := hl (j + 1); simpa [Nat.add_assoc, Nat.add_comm 1 j] using this
  obtain ⟨T', hT', hr⟩ := r hl' (fun o' ho' => ho o' (by simp [ho'])) (putL T o.dst undef) (hT.put o.dst undef)
  refine ⟨T', hT', fun f w a Q' hR hL hQ => ?_⟩
  simp only [List.length_cons, List.range'_succ, wpOps, h0]
  rw [yielded_rel hL ops, ← yieldF_eq hT, if_neg (by rw [hw]; exact Bool.false_ne_true)]
  refine hr f w _ Q' hR (putL_rel hL o.dst (VRel.undef f)) ?_
  rintro a' w2 ⟨f2, hx2, hR2, hT2, hd⟩
  exact hQ a' w2 ⟨f2, hx2, hR2, hT2, by rw [hd, put_defers]⟩

theorem OpsG.cons {v : Value} {σ1 : St} (h : opF P noK none (rdF nt t) ⟨dst, op, ty, pos, af, none⟩ σ = some (v, σ1)) (r : OpsG P ops nt l (k + 1) (putF t dst v) σ1 Q) : OpsG P ops nt (⟨dst, op, ty, pos, af, none⟩ :: l) k t σ Q := by
  obtain ⟨t', σ', h1, h2⟩ := r
  exact ⟨t', σ', RunsO.step (noK_ok P) rfl h h1, h2⟩

/-- A call, by what is known of what it comes to. -/
theorem OpsG.call {h : FuncId} {xs : Array Operand} {ats : Array TypeId} {vs : List Value} {R : Value → St → Prop} (hl : xs.toList.map (rdF nt t) = vs) (hc : Con P h vs σ R)
    (r : ∀ v σ1, R v σ1 → OpsG P ops nt l (k + 1) (putF t dst v) σ1 Q) : OpsG P ops nt (⟨dst, .call ⟨.value (.func h), xs, ats⟩, ty, pos, af, none⟩ :: l) k t σ Q := by
  obtain ⟨v, σ1, hcc, hR⟩ := hc
  obtain ⟨t', σ', h1, h2⟩ := r v σ1 hR
  refine ⟨t', σ', RunsO.step (kOne_ok hcc) rfl ?_ h1, h2⟩
  simp only [opF, okind, writesA, rdF, hl]
  exact (congrArg (fun z => kOne h vs σ v σ1 h z σ) (List.append_nil vs)).trans kOne_at

theorem OpsG.skip {j : Nat} {b : Bool} {o : Oper} {d : Nat} (ho : ops[j]? = some o) (hd : o.dst = some d) (hv : rdT nt t d = .bool (!b)) (r : OpsG P ops nt l (k + 1) (putF t dst undef) σ Q) : OpsG P ops nt (⟨dst, op, ty, pos, af, some (j, b)⟩ :: l) k t σ Q := by
  obtain ⟨t', σ', h1, h2⟩ := r
  refine ⟨t', σ', RunsO.pass ?_ h1, h2⟩
  simp only [Region.wanted, yieldF, ho, hd, hv]
  cases b <;> rfl

theorem wanted_of {j : Nat} {b : Bool} {o : Oper} {d : Nat} (ho : ops[j]? = some o) (hd : o.dst = some d) (hv : rdT nt t d = .bool b) : Region.wanted ⟨dst, op, ty, pos, af, some (j, b)⟩ (yieldF ops nt t) = true := by
  simp only [Region.wanted, yieldF, ho, hd, hv]
  cases b <;> rfl

theorem OpsG.want {j : Nat} {b : Bool} {o : Oper} {d : Nat} {v : Value} {σ1 : St} (ho : ops[j]? = some o) (hd : o.dst = some d) (hv : rdT nt t d = .bool b)
    (h : opF P noK none (rdF nt t) ⟨dst, op, ty, pos, af, some (j, b)⟩ σ = some (v, σ1)) (r : OpsG P ops nt l (k + 1) (putF t dst v) σ1 Q) : OpsG P ops nt (⟨dst, op, ty, pos, af, some (j, b)⟩ :: l) k t σ Q := by
  obtain ⟨t', σ', h1, h2⟩ := r
  exact ⟨t', σ', RunsO.step (noK_ok P) (wanted_of ho hd hv) h h1, h2⟩

theorem OpsG.wantCall {j : Nat} {b : Bool} {o : Oper} {d : Nat} {h : FuncId} {xs : Array Operand} {ats : Array TypeId} {vs : List Value} {R : Value → St → Prop} (ho : ops[j]? = some o) (hd : o.dst = some d) (hv : rdT nt t d = .bool b) (hl : xs.toList.map (rdF nt t) = vs) (hc : Con P h vs σ R)
    (r : ∀ v σ1, R v σ1 → OpsG P ops nt l (k + 1) (putF t dst v) σ1 Q) : OpsG P ops nt (⟨dst, .call ⟨.value (.func h), xs, ats⟩, ty, pos, af, some (j, b)⟩ :: l) k t σ Q := by
  obtain ⟨v, σ1, hcc, hR⟩ := hc
  obtain ⟨t', σ', h1, h2⟩ := r v σ1 hR
  refine ⟨t', σ', RunsO.step (kOne_ok hcc) (wanted_of ho hd hv) ?_ h1, h2⟩
  simp only [opF, okind, writesA, rdF, hl]
  exact (congrArg (fun z => kOne h vs σ v σ1 h z σ) (List.append_nil vs)).trans kOne_at

/-- By cases on a guard. -/
theorem OpsG.split {d : Nat} {b : Bool} (hd : rdT nt t d = .bool b) (h1 : b = true → rdT nt t d = .bool true → OpsG P ops nt l k t σ Q) (h2 : b = false → rdT nt t d = .bool false → OpsG P ops nt l k t σ Q) : OpsG P ops nt l k t σ Q := by
  cases b with
  | true => exact h1 rfl hd
  | false => exact h2 rfl hd
end

/-! ### Drawn regions -/
section
variable {P : Program} {K : Kn} {ops : Array Oper} {nt base : Nat}

def TrP (P : Program) (K : Kn) (ops : Array Oper) (base nt : Nat) (l : List Oper) (k : Nat) (t : TT) (σ : St) (Q : TraceF → TT → St → Prop) : Prop := ∃ tr t' σ', trF P K ops base nt l k t σ = some (tr, t', σ') ∧ Q tr t' σ'

variable {dst : Option Tmp} {op : Op} {ty : TypeId} {pos : String} {af : Array Edge} {l : List Oper} {k : Nat} {t : TT} {σ : St} {Q : TraceF → TT → St → Prop}

theorem TrP.nil (h : Q [] t σ) : TrP P K ops base nt [] k t σ Q := ⟨[], t, σ, rfl, h⟩
theorem TrP.cons {v : Value} {σ' : St} (h : opF P K (some (base + k)) (rdF nt t) ⟨dst, op, ty, pos, af, none⟩ σ = some (v, σ')) (r : TrP P K ops base nt l (k + 1) (putF t dst v) σ' fun tr t' σ'' => Q ((t, σ) :: tr) t' σ'') : TrP P K ops base nt (⟨dst, op, ty, pos, af, none⟩ :: l) k t σ Q := by
  obtain ⟨tr, t', σ1, h1, h2⟩ := r
  refine ⟨(t, σ) :: tr, t', σ1, ?_, h2⟩
  rw [trF]
  have : Region.wanted ⟨dst, op, ty, pos, af, none⟩ (yieldF ops nt t) = true := rfl
  rw [this]
  simp only [h, h1]
theorem TrP.skip {j : Nat} {b : Bool} {o : Oper} {d : Nat} (ho : ops[j]? = some o) (hd : o.dst = some d) (hv : rdT nt t d = .bool (!b)) (r : TrP P K ops base nt l (k + 1) (putF t dst undef) σ fun tr t' σ'' => Q ((t, σ) :: tr) t' σ'') : TrP P K ops base nt (⟨dst, op, ty, pos, af, some (j, b)⟩ :: l) k t σ Q := by
  obtain ⟨tr, t', σ1, h1, h2⟩ := r
  refine ⟨(t, σ) :: tr, t', σ1, ?_, h2⟩
  rw [trF]
  have : Region.wanted ⟨dst, op, ty, pos, af, some (j, b)⟩ (yieldF ops nt t) = false := by
    simp only [Region.wanted, yieldF, ho, hd, hv]
    cases b <;> rfl
  rw [this]
  simp only [h1]
theorem TrP.want {j : Nat} {b : Bool} {o : Oper} {d : Nat} {v : Value} {σ' : St} (ho : ops[j]? = some o) (hd : o.dst = some d) (hv : rdT nt t d = .bool b)
    (h : opF P K (some (base + k)) (rdF nt t) ⟨dst, op, ty, pos, af, some (j, b)⟩ σ = some (v, σ')) (r : TrP P K ops base nt l (k + 1) (putF t dst v) σ' fun tr t' σ'' => Q ((t, σ) :: tr) t' σ'') : TrP P K ops base nt (⟨dst, op, ty, pos, af, some (j, b)⟩ :: l) k t σ Q := by
  obtain ⟨tr, t', σ1, h1, h2⟩ := r
  refine ⟨(t, σ) :: tr, t', σ1, ?_, h2⟩
  rw [trF, wanted_of ho hd hv]
  simp only [h, h1]
end

section
variable {P : Program} {nt : Nat} {t : TT} {σ : St} {Q : Exit → TT → St → Prop}

theorem After.go {f f1 : Inj} {σ σ1 : St} {w w1 : World} {T1 T' : List Value} {σ' : St} {ds : List Deferred} {a1 a' : Act} {w' : World} (h1 : After f σ w T1 σ1 ds a1 w1) (hf : ∀ f1, Ext f σ w f1 σ1 w1 → Rel f1 σ1 w1 → LRel f1 T1 a1.tmps.toList → After f1 σ1 w1 T' σ' a1.defers a' w') : After f σ w T' σ' ds a' w' := by
  obtain ⟨f1, hx, hR, hT, hd⟩ := h1
  have := hf f1 hx hR hT
  rw [hd] at this
  exact After.trans hx this

theorem Runs.seq {a b : Code} {e : Exit} {t1 t2 : TT} {σ1 σ2 : St} (ha : Runs P nt a t σ .normal t1 σ1) (hb : Runs P nt b t1 σ1 e t2 σ2) : Runs P nt (.seq a b) t σ e t2 σ2 := by
  intro T hT
  obtain ⟨T1, hT1, h1⟩ := ha T hT
  obtain ⟨T2, hT2, h2⟩ := hb T1 hT1
  refine ⟨T2, hT2, fun f w a Q hR hL hQ => wp_seq (h1 f w a _ hR hL ?_)⟩
  rintro a1 w1 ⟨f1, hx, hR1, hL1, hd⟩
  refine h2 f1 w1 a1 Q hR1 hL1 fun a2 w2 h => hQ a2 w2 ?_
  rw [hd] at h
  exact After.trans hx h
theorem Runs.seqOut {a b : Code} {e : Exit} {t1 : TT} {σ1 : St} (ha : Runs P nt a t σ e t1 σ1) (he : e ≠ .normal) : Runs P nt (.seq a b) t σ e t1 σ1 := by
  intro T hT
  obtain ⟨T1, hT1, h1⟩ := ha T hT
  refine ⟨T1, hT1, fun f w a Q hR hL hQ => wp_seq (h1 f w a _ hR hL fun a1 w1 h => ?_)⟩
  have := hQ a1 w1 h
  cases e <;> first | exact absurd rfl he | exact this

theorem GoP.region {id : Nat} {ops : Array Oper} (hops : ops.toList.all operOk = true) (h : OpsG P ops nt ops.toList 0 t σ fun t' σ' => Q .normal t' σ') : GoP P nt (.region id ops false) t σ Q := by
  obtain ⟨t', σ', h1, h2⟩ := h
  refine ⟨.normal, t', σ', fun T hT => ?_, h2⟩
  obtain ⟨T', hT', h3⟩ := h1 (fun j => by rw [Array.getElem?_toList, Nat.zero_add]) (fun o ho => List.all_eq_true.1 hops o ho) T hT
  refine ⟨T', hT', fun f w a Q hR hL hQ => wp_region ?_⟩
  have := h3 f w a Q hR hL hQ
  rw [Array.length_toList] at this
  rw [List.range_eq_range']
  exact this

theorem GoP.drawn {K : Kn} (hK : K.ok P) (hm : P.follows .mixedOrders = true) {id : Nat} {ops : Array Oper} (hops : ops.toList.all operOk = true) (hp : planB P ops = true) (h : TrP P K ops σ.next nt ops.toList 0 t (σ.room ops.size) fun tr t' σ' => ChecksG P ops σ.next nt tr t' σ' ∧ Q .normal t' σ') : GoP P nt (.region id ops true) t σ Q := by
  obtain ⟨tr, t', σ', h1, h2, h3⟩ := h
  have hr : regG P K nt ops t σ = some (t', σ') := by
    unfold regG
    rw [if_pos hp, h1]
    exact if_pos h2
  refine ⟨.normal, t', σ', fun T hT => ?_, h3⟩
  obtain ⟨T', g1, g2⟩ := regG_sim hT hr
  exact ⟨T', g2, fun f w a Q hR hL hQ => evRegD_ok hK hm (fun o ho => List.all_eq_true.1 hops o ho) g1 hR hL hQ⟩

theorem GoP.seq {a b : Code} (h : GoP P nt a t σ fun e t' σ' => match e with | .normal => GoP P nt b t' σ' Q | e => Q e t' σ') : GoP P nt (.seq a b) t σ Q := by
  obtain ⟨e, t1, σ1, h1, h2⟩ := h
  cases e with
  | normal =>
    obtain ⟨e2, t2, σ2, h3, h4⟩ := h2
    exact ⟨e2, t2, σ2, Runs.seq h1 h3, h4⟩
  | _ => exact ⟨_, t1, σ1, Runs.seqOut h1 (by simp), h2⟩

theorem GoP.cond_true {x : Operand} {a b : Code} (ho : opdOk x = true) (hx : rdF nt t x = .bool true) (h : GoP P nt a t σ Q) : GoP P nt (.cond x a b) t σ Q := by
  obtain ⟨e, t1, σ1, h1, h2⟩ := h
  refine ⟨e, t1, σ1, fun T hT => ?_, h2⟩
  obtain ⟨T1, hT1, h3⟩ := h1 T hT
  refine ⟨T1, hT1, fun f w a Q hR hL hQ => ?_⟩
  have hc := evA_rel hL ho
  rw [← rdF_eq hT, hx] at hc
  exact wp_cond hc.bool_of (h3 f w a Q hR hL hQ)
theorem GoP.cond_false {x : Operand} {a b : Code} (ho : opdOk x = true) (hx : rdF nt t x = .bool false) (h : GoP P nt b t σ Q) : GoP P nt (.cond x a b) t σ Q := by
  obtain ⟨e, t1, σ1, h1, h2⟩ := h
  refine ⟨e, t1, σ1, fun T hT => ?_, h2⟩
  obtain ⟨T1, hT1, h3⟩ := h1 T hT
  refine ⟨T1, hT1, fun f w a Q hR hL hQ => ?_⟩
  have hc := evA_rel hL ho
  rw [← rdF_eq hT, hx] at hc
  exact wp_cond hc.bool_of (h3 f w a Q hR hL hQ)
theorem GoP.cond {x : Operand} {a b : Code} {q : Bool} (ho : opdOk x = true) (hx : rdF nt t x = .bool q) (h1 : q = true → GoP P nt a t σ Q) (h2 : q = false → GoP P nt b t σ Q) : GoP P nt (.cond x a b) t σ Q := by
  cases q with
  | true => exact .cond_true ho hx (h1 rfl)
  | false => exact .cond_false ho hx (h2 rfl)
theorem GoP.skip (h : Q .normal t σ) : GoP P nt .skip t σ Q :=
  ⟨_, t, σ, fun T hT => ⟨T, hT, fun _ _ _ _ hR hL hQ => wp_skip (hQ _ _ (After.self hR hL))⟩, h⟩
theorem GoP.label {l : Nat} (h : Q .normal t σ) : GoP P nt (.label l) t σ Q :=
  ⟨_, t, σ, fun T hT => ⟨T, hT, fun _ _ _ _ hR hL hQ => wp_label (hQ _ _ (After.self hR hL))⟩, h⟩
theorem GoP.ret (h : Q .ret t σ) : GoP P nt .ret t σ Q :=
  ⟨_, t, σ, fun T hT => ⟨T, hT, fun _ _ _ _ hR hL hQ => wp_ret (hQ _ _ (After.self hR hL))⟩, h⟩
theorem GoP.exit {i : Nat} (h : Q (.exit i) t σ) : GoP P nt (.exit i) t σ Q :=
  ⟨_, t, σ, fun T hT => ⟨T, hT, fun _ _ _ _ hR hL hQ => wp_exit (hQ _ _ (After.self hR hL))⟩, h⟩
theorem GoP.goto {i : Nat} (h : Q (.goto i) t σ) : GoP P nt (.goto i) t σ Q :=
  ⟨_, t, σ, fun T hT => ⟨T, hT, fun _ _ _ _ hR hL hQ => wp_goto (hQ _ _ (After.self hR hL))⟩, h⟩

theorem GoP.block {id : Nat} {c : Code} (h : GoP P nt c t σ fun e t' σ' => match e with | .exit i => if i = id then Q .normal t' σ' else Q (.exit i) t' σ' | e => Q e t' σ') : GoP P nt (.block id c) t σ Q := by
  obtain ⟨e, t1, σ1, h1, h2⟩ := h
  have key : ∀ e', (∀ (Q' : Exit → Act → World → Prop) a w, Q' e' a w → Exit.inBlock id Q' e a w) → Q e' t1 σ1 → GoP P nt (.block id c) t σ Q := by
    intro e' hq hQ
    refine ⟨e', t1, σ1, fun T hT => ?_, hQ⟩
    obtain ⟨T1, hT1, h3⟩ := h1 T hT
    exact ⟨T1, hT1, fun f w a Q' hR hL hQ' => wp_block (h3 f w a _ hR hL fun a1 w1 ha => hq Q' a1 w1 (hQ' a1 w1 ha))⟩
  cases e with
  | exit i =>
    simp only at h2
    by_cases hi : i = id
    · rw [if_pos hi] at h2
      exact key .normal (fun Q' a w hq => by simp only [Exit.inBlock]; rw [if_pos hi]; exact hq) h2
    · rw [if_neg hi] at h2
      exact key (.exit i) (fun Q' a w hq => by simp only [Exit.inBlock]; rw [if_neg hi]; exact hq) h2
  | _ => exact key _ (fun Q' a w hq => hq) h2

/-- A loop: so many rounds are left at most. -/
theorem GoP.loop {c : Code} (I : Nat → TT → St → Prop) (hs : ∀ m t σ, I m t σ → GoP P nt c t σ fun e t' σ' => match e with | .normal => ∃ m', m' < m ∧ I m' t' σ' | e => Q e t' σ') {m : Nat} (h : I m t σ) : GoP P nt (.loop c) t σ Q := by
  have key : ∀ m t σ, I m t σ → ∃ k e t' σ', Q e t' σ' ∧ ∀ T, TR nt T t → ∃ T', TR nt T' t' ∧ ∀ (f : Inj) (w : World) (a : Act) (Q : Exit → Act → World → Prop), Rel f σ w → LRel f T a.tmps.toList → (∀ a' w', After f σ w T' σ' a.defers a' w' → Q e a' w') → Code.rounds P c Q k a w := by
    intro m
    induction m using Nat.strongRecOn with
    | ind m ih =>
      intro t σ hI
      obtain ⟨e, t1, σ1, h1, h2⟩ := hs m t σ hI
      by_cases he : e = .normal
      · subst he
        obtain ⟨m', hm', hI'⟩ := h2
        obtain ⟨k, e2, t2, σ2, hq, h3⟩ := ih m' hm' t1 σ1 hI'
        refine ⟨k + 1, e2, t2, σ2, hq, fun T hT => ?_⟩
        obtain ⟨T1, hT1, h4⟩ := h1 T hT
        obtain ⟨T2, hT2, h5⟩ := h3 T1 hT1
        refine ⟨T2, hT2, fun f w a Q hR hL hQ => ?_⟩
        rw [rounds_succ]
        refine h4 f w a _ hR hL ?_
        rintro a1 w1 ⟨f1, hx, hR1, hL1, hd⟩
        refine h5 f1 w1 a1 Q hR1 hL1 fun a2 w2 h => hQ a2 w2 ?_
        rw [hd] at h
        exact After.trans hx h
      · refine ⟨1, e, t1, σ1, ?_, fun T hT => ?_⟩
        · cases e <;> first | exact absurd rfl he | exact h2
        · obtain ⟨T1, hT1, h4⟩ := h1 T hT
          refine ⟨T1, hT1, fun f w a Q hR hL hQ => ?_⟩
          rw [rounds_succ]
          refine h4 f w a _ hR hL fun a1 w1 ha => ?_
          have := hQ a1 w1 ha
          cases e <;> first | exact absurd rfl he | exact this
  obtain ⟨k, e, t', σ', hq, h1⟩ := key m t σ h
  refine ⟨e, t', σ', fun T hT => ?_, hq⟩
  obtain ⟨T', hT', h2⟩ := h1 T hT
  exact ⟨T', hT', fun f w a Q hR hL hQ => wp_loop_rounds k (h2 f w a Q hR hL hQ)⟩

/-- A scope: at each label what is true there, and how many jumps are left. -/
theorem GoP.scope {c : Code} (I : Nat → Nat → TT → St → Prop) (rest : Nat → Code) (hrest : ∀ l m t σ, I l m t σ → findLabel c l = some (rest l))
    (hs : ∀ l m t σ, I l m t σ → GoP P nt (rest l) t σ fun e t' σ' => match e with | .goto l' => ∃ m', m' < m ∧ I l' m' t' σ' | e => Q e t' σ')
    (h : GoP P nt c t σ fun e t' σ' => match e with | .goto l' => ∃ m, I l' m t' σ' | e => Q e t' σ') : GoP P nt (.scope c) t σ Q := by
  have leave : ∀ (b : Frame) (k : List Item) (cs : List Frame) (x : Code) (e : Exit) (a1 : Act) (w1 : World) (m : Machine), (∀ l, e ≠ .goto l) → Arrives P m b (.inScope c :: k) cs e a1 w1 → Arrives P m b k cs e a1 w1 := by
    intro b k cs x e a1 w1 m he harr
    cases e with
    | goto l => exact absurd rfl (he l)
    | normal => exact Steps.trans harr (.one step_inScope)
    | exit id => exact fun k' hk => harr k' (by simp [exitTo, hk])
    | ret => exact harr
    | panic ch => exact harr
    | outgrown => exact harr
  -- from any piece of the scope on
  have key : ∀ m l t σ, I l m t σ → ∃ e t' σ', Q e t' σ' ∧ ∀ T, TR nt T t → ∃ T', TR nt T' t' ∧ ∀ (f : Inj) (w : World) (a : Act) (Q : Exit → Act → World → Prop), Rel f σ w → LRel f T a.tmps.toList → (∀ a' w', After f σ w T' σ' a.defers a' w' → Q e a' w') →
      ∀ (b : Frame) (k : List Item) (cs : List Frame), ∃ e a' w', Q e a' w' ∧ Arrives P (lone (b.at a (.code (rest l) :: .inScope c :: k)) cs w) b k cs e a' w' := by
    intro m
    induction m using Nat.strongRecOn with
    | ind m ih =>
      intro l t σ hI
      obtain ⟨e, t1, σ1, h1, h2⟩ := hs l m t σ hI
      by_cases he : ∃ l', e = .goto l'
      · obtain ⟨l', rfl⟩ := he
        obtain ⟨m', hm', hI'⟩ := h2
        obtain ⟨e2, t2, σ2, hq, h3⟩ := ih m' hm' l' t1 σ1 hI'
        refine ⟨e2, t2, σ2, hq, fun T hT => ?_⟩
        obtain ⟨T1, hT1, h4⟩ := h1 T hT
        obtain ⟨T2, hT2, h5⟩ := h3 T1 hT1
        refine ⟨T2, hT2, fun f w a Q hR hL hQ b k cs => ?_⟩
        obtain ⟨e3, a3, w3, ⟨rfl, haf⟩, harr⟩ := h4 f w a (fun e' a' w' => e' = .goto l' ∧ After f σ w T1 σ1 a.defers a' w') hR hL (fun a' w' h => ⟨rfl, h⟩) b (.inScope c :: k) cs
        obtain ⟨f1, hx, hR1, hL1, hd⟩ := haf
        obtain ⟨e4, a4, w4, hq4, harr4⟩ := h5 f1 w3 a3 Q hR1 hL1 (fun a' w' h => hQ a' w' (After.trans hx (by rw [hd] at h; exact h))) b k cs
        exact ⟨e4, a4, w4, hq4, .of_steps (harr _ (by simp [gotoIn, hrest l' m' t1 σ1 hI'])) harr4⟩
      · refine ⟨e, t1, σ1, ?_, fun T hT => ?_⟩
        · cases e <;> first | exact absurd ⟨_, rfl⟩ he | exact h2
        · obtain ⟨T1, hT1, h4⟩ := h1 T hT
          refine ⟨T1, hT1, fun f w a Q hR hL hQ b k cs => ?_⟩
          obtain ⟨e3, a3, w3, ⟨rfl, haf⟩, harr⟩ := h4 f w a (fun e' a' w' => e' = e ∧ After f σ w T1 σ1 a.defers a' w') hR hL (fun a' w' h => ⟨rfl, h⟩) b (.inScope c :: k) cs
          exact ⟨e3, a3, w3, hQ a3 w3 haf, leave b k cs .skip _ _ _ _ (fun l e => he ⟨l, e⟩) harr⟩
  obtain ⟨e, t1, σ1, h1, h2⟩ := h
  by_cases he : ∃ l', e = .goto l'
  · obtain ⟨l', rfl⟩ := he
    obtain ⟨m, hI⟩ := h2
    obtain ⟨e2, t2, σ2, hq, h3⟩ := key m l' t1 σ1 hI
    refine ⟨e2, t2, σ2, fun T hT => ?_, hq⟩
    obtain ⟨T1, hT1, h4⟩ := h1 T hT
    obtain ⟨T2, hT2, h5⟩ := h3 T1 hT1
    refine ⟨T2, hT2, fun f w a Q hR hL hQ b k cs => ?_⟩
    obtain ⟨e3, a3, w3, ⟨rfl, haf⟩, harr⟩ := h4 f w a (fun e' a' w' => e' = .goto l' ∧ After f σ w T1 σ1 a.defers a' w') hR hL (fun a' w' h => ⟨rfl, h⟩) b (.inScope c :: k) cs
    obtain ⟨f1, hx, hR1, hL1, hd⟩ := haf
    obtain ⟨e4, a4, w4, hq4, harr4⟩ := h5 f1 w3 a3 Q hR1 hL1 (fun a' w' h => hQ a' w' (After.trans hx (by rw [hd] at h; exact h))) b k cs
    exact ⟨e4, a4, w4, hq4, .of_steps (.one step_scope) (.of_steps (harr _ (by simp [gotoIn, hrest l' m t1 σ1 hI])) harr4)⟩
  · refine ⟨e, t1, σ1, fun T hT => ?_, ?_⟩
    · obtain ⟨T1, hT1, h4⟩ := h1 T hT
      refine ⟨T1, hT1, fun f w a Q hR hL hQ b k cs => ?_⟩
      obtain ⟨e3, a3, w3, ⟨rfl, haf⟩, harr⟩ := h4 f w a (fun e' a' w' => e' = e ∧ After f σ w T1 σ1 a.defers a' w') hR hL (fun a' w' h => ⟨rfl, h⟩) b (.inScope c :: k) cs
      exact ⟨e3, a3, w3, hQ a3 w3 haf, .of_steps (.one step_scope) (leave b k cs .skip _ _ _ _ (fun l e => he ⟨l, e⟩) harr)⟩
    · cases e <;> first | exact absurd ⟨_, rfl⟩ he | exact h2

theorem GoP.mono {c : Code} {Q' : Exit → TT → St → Prop} (h : GoP P nt c t σ Q) (hq : ∀ e t σ, Q e t σ → Q' e t σ) : GoP P nt c t σ Q' := by
  obtain ⟨e, t1, σ1, h1, h2⟩ := h
  exact ⟨e, t1, σ1, h1, hq _ _ _ h2⟩
end

/-- The state, the slots by a name. -/
theorem GoP.name {P : Program} {nt : Nat} {c : Code} {t : TT} {σ : St} {Q : Exit → TT → St → Prop} (h : ∀ s, s = σ → GoP P nt c t s Q) : GoP P nt c t σ Q := h σ rfl
theorem GoP.nameT {P : Program} {nt : Nat} {c : Code} {t : TT} {σ : St} {Q : Exit → TT → St → Prop} (h : ∀ s, s = t → GoP P nt c s σ Q) : GoP P nt c t σ Q := h t rfl
theorem OpsG.name {P : Program} {ops : Array Oper} {nt : Nat} {l : List Oper} {k : Nat} {t : TT} {σ : St} {Q : TT → St → Prop} (h : ∀ s, s = σ → OpsG P ops nt l k t s Q) : OpsG P ops nt l k t σ Q := h σ rfl

/-- A function's call, by its body. -/
theorem Con.of_goP {P : Program} {g : FuncId} {fn : Func} {c : Code} (hfn : P.funcs[g]? = some fn) (hb : fn.body = some c) (hok : fnOk fn = true) {nt : Nat} {rs : List ResultVar} (hnt : fn.ntmps = nt) (hrs : fn.results.toList = rs) {args : List Value} (hl : args.length ≤ nt) {σ : St} {R : Value → St → Prop}
    (h : GoP P nt c (fill .nil 0 args) σ fun e t σ' => (e = .ret ∨ e = .normal) ∧ ∃ vs, resAllF P (rdT nt t) σ' rs = some vs ∧ R (packed vs) σ') : Con P g args σ R := by
  subst hnt hrs
  obtain ⟨e, t, σ', h1, he, vs, h2, h3⟩ := h
  refine ⟨packed vs, σ', ⟨?_, ?_⟩, h3⟩
  · unfold fnOk at hok
    rw [hb] at hok
    simp only [Bool.and_eq_true, Bool.not_eq_true'] at hok
    exact ⟨fn, hfn, hok.1, by rw [hb]; rfl⟩
  · intro f w args' hR ha
    refine calls_of_wp hfn hb ?_
    obtain ⟨T', hT', hwp⟩ := h1 (start fn args) (fill_start hl)
    have hT : LRel f (start fn args) (args' ++ Array.replicate (fn.ntmps - args'.size) undef).toList := by
      have hl : args.length = args'.size := by have := ha.1; simpa using this
      simp only [start, Array.toList_append, Array.toList_replicate, ← hl]
      refine ha.append ⟨rfl, fun i x x' h1 h2 => ?_⟩
      rw [h1] at h2
      cases h2
      have : x = undef := List.eq_of_mem_replicate (List.mem_of_getElem? h1)
      rw [this]
      exact VRel.undef f
    refine hwp f w _ _ hR hT ?_
    rintro a' w' ⟨f1, hx, hR1, hT1, hd⟩
    rw [resAllF_eq hT'] at h2
    have hrr : resA P fn.results.toList T' σ' = some (packed vs) := by simp only [resA, h2, Option.map_some]
    obtain ⟨v', hrun, hv⟩ := resA_ok hR1 hT1 hrr
    rcases he with rfl | rfl
    · exact ⟨hd, v', hrun, v', rfl, f1, hx, hR1, hv⟩
    · exact ⟨hd, v', hrun, v', rfl, f1, hx, hR1, hv⟩
end Go.As
