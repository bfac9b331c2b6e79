/- The same run once more, written for the kernel's reckoning. -/
import Derived.Test.YtfffmmgmjlfkoaaGreatA23
namespace Go.As
set_option linter.unusedSimpArgs false
set_option linter.unusedVariables false

/-! ### Small whole numbers -/
noncomputable def limK (k : IntKind) : Nat := @IntKind.rec (fun _ => Nat) (nat_lit 128) (nat_lit 32768) (nat_lit 2147483648) (nat_lit 9223372036854775808) (nat_lit 256) (nat_lit 65536) (nat_lit 4294967296) (nat_lit 18446744073709551616) k

theorem wrap_small {k : IntKind} {n : Nat} (h : Nat.blt n (limK k) = true) : k.wrap (Int.ofNat n) = Int.ofNat n := by
  rw [Nat.blt_eq] at h
  cases k
  case i8 => replace h : n < 128 := h; simp [IntKind.wrap, IntKind.bits, IntKind.signed]; omega
  case i16 => replace h : n < 32768 := h; simp [IntKind.wrap, IntKind.bits, IntKind.signed]; omega
  case i32 => replace h : n < 2147483648 := h; simp [IntKind.wrap, IntKind.bits, IntKind.signed]; omega
  case i64 => replace h : n < 9223372036854775808 := h; simp [IntKind.wrap, IntKind.bits, IntKind.signed]; omega
  case u8 => replace h : n < 256 := h; simp [IntKind.wrap, IntKind.bits, IntKind.signed]; omega
  case u16 => replace h : n < 65536 := h; simp [IntKind.wrap, IntKind.bits, IntKind.signed]; omega
  case u32 => replace h : n < 4294967296 := h; simp [IntKind.wrap, IntKind.bits, IntKind.signed]; omega
  case u64 => replace h : n < 18446744073709551616 := h; simp [IntKind.wrap, IntKind.bits, IntKind.signed]; omega

noncomputable def binI (op : BinOp) (x y : Value) : Option Value :=
  match x, y with
  | .int k (.ofNat a), .int j (.ofNat b) =>
    match decide (k = j) with
    | true =>
      match op with
      | .add => (match Nat.blt (Nat.add a b) (limK k) with | true => some (.int k (.ofNat (Nat.add a b))) | false => none)
      | .sub => (match Nat.ble b a with | true => (match Nat.blt (Nat.sub a b) (limK k) with | true => some (.int k (.ofNat (Nat.sub a b))) | false => none) | false => none)
      | .mul => (match Nat.blt (Nat.mul a b) (limK k) with | true => some (.int k (.ofNat (Nat.mul a b))) | false => none)
      | .eql => some (.bool (Nat.beq a b))
      | .neq => some (.bool (!Nat.beq a b))
      | .lss => some (.bool (Nat.blt a b))
      | .leq => some (.bool (Nat.ble a b))
      | .gtr => some (.bool (Nat.blt b a))
      | .geq => some (.bool (Nat.ble b a))
      | _ => none
    | false => none
  | _, _ => none

theorem binA_int {P : Program} {op : BinOp} {t : TypeId} {xo yo : Operand} {k : IntKind} {a b : Int} {v : Value} (h : (binOp op t (.int k a) (.int k b)).run P default = .ok v default) (hv : closedV v = true) : binA P op t xo yo (.int k a) (.int k b) = some v := by
  have hg : (eqGuard op t xo yo (.int k a) (.int k b)).run P default = .ok () default := by cases op <;> rfl
  have key : (if discV (.int k a) && discV (.int k b) then
      match pureRun P (do eqGuard op t xo yo (.int k a) (.int k b); binOp op t (.int k a) (.int k b)) with
      | some v => if closedV v then some v else none
      | none => none
    else none) = some v := by
    have e : (discV (.int k a) && discV (.int k b)) = true := rfl
    rw [if_pos e]
    have : pureRun P (do eqGuard op t xo yo (.int k a) (.int k b); binOp op t (.int k a) (.int k b)) = some v := by
      unfold pureRun
      rw [Sem.run_bind, hg, Result.andThen_ok, h]
    rw [this]
    exact if_pos hv
  unfold binA
  split
  · rename_i h1 h2 h3; cases h2
  · rename_i h1 h2 h3; cases h2
  · rename_i h1 h2 h3; cases h2
  · exact key

theorem binI_ok {P : Program} {op : BinOp} {t : TypeId} {xo yo : Operand} {x y v : Value} (h : binI op x y = some v) : binA P op t xo yo x y = some v := by
  unfold binI at h
  split at h
  · rename_i k a j b
    split at h
    · rename_i hk
      have hk := of_decide_eq_true hk
      subst hk
      have cast : ∀ n : Nat, Int.ofNat n = (n : Int) := fun _ => rfl
      have hsub : Nat.ble b a = true → (Int.ofNat a - Int.ofNat b : Int) = Int.ofNat (Nat.sub a b) := fun hb => by
        have := Nat.le_of_ble_eq_true hb
        simp only [cast]
        show (a : Int) - (b : Int) = ((a - b : Nat) : Int)
        omega
      have hble : ∀ m n : Nat, decide ((Int.ofNat m : Int) ≤ Int.ofNat n) = Nat.ble m n := fun m n => by
        rw [Bool.eq_iff_iff, decide_eq_true_eq]
        simp only [cast, Int.ofNat_le]
        exact ⟨Nat.ble_eq_true_of_le, Nat.le_of_ble_eq_true⟩
      have hblt : ∀ m n : Nat, decide ((Int.ofNat m : Int) < Int.ofNat n) = Nat.blt m n := fun m n => by
        rw [Bool.eq_iff_iff, decide_eq_true_eq]
        simp only [cast, Int.ofNat_lt, Nat.blt_eq]
      have hbeq : ∀ m n : Nat, ((Int.ofNat m : Int) == Int.ofNat n) = Nat.beq m n := fun m n => by
        rw [Bool.eq_iff_iff, beq_iff_eq]
        exact ⟨fun h => by cases h; exact Nat.beq_refl m, fun h => by rw [Nat.eq_of_beq_eq_true h]⟩
      cases op <;> simp only at h <;> try (cases h; done)
      case add =>
        split at h
        · rename_i hl; cases h
          refine binA_int ?_ rfl
          simp only [binOp, Op.intArith, ne_eq, not_true_eq_false, if_false]
          rw [show (Int.ofNat a + Int.ofNat b : Int) = Int.ofNat (Nat.add a b) from rfl, wrap_small hl]
          rfl
        · cases h
      case sub =>
        split at h
        · rename_i hb
          split at h
          · rename_i hl; cases h
            refine binA_int ?_ rfl
            simp only [binOp, Op.intArith, ne_eq, not_true_eq_false, if_false]
            rw [hsub hb, wrap_small hl]
            rfl
          · cases h
        · cases h
      case mul =>
        split at h
        · rename_i hl; cases h
          refine binA_int ?_ rfl
          simp only [binOp, Op.intArith, ne_eq, not_true_eq_false, if_false]
          rw [show (Int.ofNat a * Int.ofNat b : Int) = Int.ofNat (Nat.mul a b) from rfl, wrap_small hl]
          rfl
        · cases h
      case eql =>
        cases h
        refine binA_int ?_ rfl
        simp only [binOp, Op.intCmp, ne_eq, not_true_eq_false, if_false]
        rw [hbeq]; rfl
      case neq =>
        cases h
        refine binA_int ?_ rfl
        simp only [binOp, Op.intCmp, ne_eq, not_true_eq_false, if_false, bne]
        rw [hbeq]; rfl
      case lss =>
        cases h
        refine binA_int ?_ rfl
        simp only [binOp, Op.intCmp, ne_eq, not_true_eq_false, if_false]
        rw [hblt]; rfl
      case leq =>
        cases h
        refine binA_int ?_ rfl
        simp only [binOp, Op.intCmp, ne_eq, not_true_eq_false, if_false]
        rw [hble]; rfl
      case gtr =>
        cases h
        refine binA_int ?_ rfl
        simp only [binOp, Op.intCmp, ne_eq, not_true_eq_false, if_false, gt_iff_lt]
        rw [hblt]; rfl
      case geq =>
        cases h
        refine binA_int ?_ rfl
        simp only [binOp, Op.intCmp, ne_eq, not_true_eq_false, if_false, ge_iff_le]
        rw [hble]; rfl
    · cases h
  · cases h

noncomputable def getR {α : Type} (t : Tr α) : Nat → Option α :=
  @Tr.rec α (fun _ => Nat → Option α) (fun _ => none) (fun _ v _ gl gr n =>
    @Bool.rec (fun _ => Option α) (@Bool.rec (fun _ => Option α) (gr (Nat.sub (Nat.div n (nat_lit 2)) (nat_lit 1))) (gl (Nat.div n (nat_lit 2))) (Nat.beq (Nat.mod n (nat_lit 2)) (nat_lit 1))) v (Nat.beq n (nat_lit 0))) t

theorem getR_eq {α : Type} : ∀ (t : Tr α) (n : Nat), getR t n = t.get n
  | .nil, n => by rw [Tr.get_nil]; rfl
  | .node l v r, n => by
    have hl := getR_eq l
    have hr := getR_eq r
    rw [Tr.get]
    rw [← hl, ← hr]
    show @Bool.rec (fun _ => Option α) (@Bool.rec (fun _ => Option α) _ _ _) _ _ = _
    cases Nat.beq n (nat_lit 0) with
    | true => rfl
    | false => cases Nat.beq (Nat.mod n (nat_lit 2)) (nat_lit 1) <;> rfl

noncomputable def setK {α : Type} (k : Nat) : Tr α → Nat → Option α → Tr α :=
  @Nat.rec (fun _ => Tr α → Nat → Option α → Tr α) (fun t _ _ => t) (fun _ ih t n x =>
    @Tr.rec α (fun _ => Tr α)
      (@Bool.rec (fun _ => Tr α) (@Bool.rec (fun _ => Tr α) (.node .nil none (ih .nil (Nat.sub (Nat.div n (nat_lit 2)) (nat_lit 1)) x)) (.node (ih .nil (Nat.div n (nat_lit 2)) x) none .nil) (Nat.beq (Nat.mod n (nat_lit 2)) (nat_lit 1))) (.node .nil x .nil) (Nat.beq n (nat_lit 0)))
      (fun l v r _ _ => @Bool.rec (fun _ => Tr α) (@Bool.rec (fun _ => Tr α) (.node l v (ih r (Nat.sub (Nat.div n (nat_lit 2)) (nat_lit 1)) x)) (.node (ih l (Nat.div n (nat_lit 2)) x) v r) (Nat.beq (Nat.mod n (nat_lit 2)) (nat_lit 1))) (.node l x r) (Nat.beq n (nat_lit 0)))
      t) k

theorem setK_eq {α : Type} : ∀ (k : Nat) (t : Tr α) (n : Nat) (x : Option α), setK k t n x = Tr.setF k t n x
  | 0, t, n, x => rfl
  | k + 1, t, n, x => by
    have ih := setK_eq (α := α) k
    cases t with
    | nil =>
      simp only [Tr.setF, ← ih]
      show @Bool.rec (fun _ => Tr α) (@Bool.rec (fun _ => Tr α) _ _ _) _ _ = _
      cases Nat.beq n (nat_lit 0) with
      | true => rfl
      | false => cases Nat.beq (Nat.mod n (nat_lit 2)) (nat_lit 1) <;> rfl
    | node l v r =>
      simp only [Tr.setF, ← ih]
      show @Bool.rec (fun _ => Tr α) (@Bool.rec (fun _ => Tr α) _ _ _) _ _ = _
      cases Nat.beq n (nat_lit 0) with
      | true => rfl
      | false => cases Nat.beq (Nat.mod n (nat_lit 2)) (nat_lit 1) <;> rfl

noncomputable def putR (t : TT) (dst : Option Tmp) (v : Value) : TT := @Option.rec Tmp (fun _ => TT) t (fun d => setK (Nat.succ (Nat.succ (Nat.log2 d))) t d (some v)) dst
theorem putR_eq (t : TT) (dst : Option Tmp) (v : Value) : putR t dst v = putF t dst v := by
  cases dst with
  | none => rfl
  | some d => exact setK_eq (Nat.log2 d + 2) t d (some v)

noncomputable def rdN (nt : Nat) (t : TT) (i : Nat) : Value := @Bool.rec (fun _ => Value) undef (@Option.rec Value (fun _ => Value) undef (fun v => v) (getR t i)) (Nat.blt i nt)
theorem rdN_eq (nt : Nat) (t : TT) (i : Nat) : rdN nt t i = rdT nt t i := by
  unfold rdN rdT
  rw [getR_eq]
  cases Nat.blt i nt with
  | false => rfl
  | true => cases t.get i <;> rfl

noncomputable def rdR (nt : Nat) (t : TT) (x : Operand) : Value :=
  @Operand.rec (fun _ => Value) (fun i => rdN nt t i) (fun v => v) (fun g => .pointer (some ⟨g, 0, none⟩)) (fun f => .func (.func f) #[] #[]) x
theorem rdR_eq (nt : Nat) (t : TT) : rdR nt t = rdF nt t := by
  funext x
  cases x with
  | tmp i => exact rdN_eq nt t i
  | _ => rfl

noncomputable def yieldR (ops : Array Oper) (nt : Nat) (t : TT) (j : Nat) : Option Bool :=
  match ops[j]? with
  | some o => match o.dst with
    | some d => match rdN nt t d with
      | .bool b => some b
      | _ => none
    | none => none
  | none => none
theorem yieldR_eq (ops : Array Oper) (nt : Nat) (t : TT) : yieldR ops nt t = yieldF ops nt t := by
  funext j
  simp only [yieldR, yieldF, rdN_eq]
  rfl

noncomputable def wantR (o : Oper) (y : Nat → Option Bool) : Bool :=
  @Option.rec (Nat × Bool) (fun _ => Bool) true (fun p => match y p.1 with | some b => b == p.2 | none => false) o.guard
theorem wantR_eq (o : Oper) (y : Nat → Option Bool) : wantR o y = Region.wanted o y := by
  unfold wantR Region.wanted
  cases o.guard with
  | none => rfl
  | some p =>
    obtain ⟨j, b⟩ := p
    simp only
    cases y j with
    | none => rfl
    | some c => cases c <;> cases b <;> rfl

noncomputable def rdH (σ : St) (b : Nat) : Option AObj := getR σ.heap b
theorem rdH_eq (σ : St) : rdH σ = σ.get := funext fun b => getR_eq _ b

noncomputable def opR (P : Program) (K : Kn) (nid : Option Nat) (ρ : Operand → Value) (o : Oper) (σ : St) : Option (Value × St) :=
  match o.op with
  | .move x => some (ρ x, σ)
  | .assign x => some (ρ x, σ)
  | .load t a => match loadA P (rdH σ) t (ρ a) with | some v => some (v, σ) | none => none
  | .fieldAddr s x i => match fieldAddrA P s i (ρ x) with | some v => some (v, σ) | none => none
  | .binOp op t x y _ =>
    match binI op (ρ x) (ρ y) with
    | some v => some (v, σ)
    | none => match binA P op t x y (ρ x) (ρ y) with | some v => some (v, σ) | none => none
  | .extract t i => match ρ t with | .tuple vs => (match vs.toList[i]? with | some v => some (v, σ) | none => none) | _ => none
  | _ =>
    match okind P o with
    | .silent => (silentA P ρ (rdH σ) o).map (·, σ)
    | .makes => allocTo P ρ nid o σ
    | .writes => writesA P K ρ o σ

theorem opR_eq (P : Program) (K : Kn) (nid : Option Nat) (ρ : Operand → Value) (o : Oper) (σ : St) : opR P K nid ρ o σ = opF P K nid ρ o σ := by
  unfold opR opF
  rw [rdH_eq]
  cases o.op <;> simp only [] <;> try rfl
  case binOp op t x y k =>
    cases hb : binI op (ρ x) (ρ y) with
    | none => rfl
    | some v => rw [binI_ok hb]

noncomputable def opsR (P : Program) (K : Kn) (ops : Array Oper) (nt : Nat) (l : List Oper) : TT → St → Option (TT × St) :=
  @List.rec Oper (fun _ => TT → St → Option (TT × St)) (fun t σ => some (t, σ)) (fun o _ ih t σ =>
    @Bool.rec (fun _ => Option (TT × St)) (ih (putR t o.dst undef) σ)
      (@Option.rec (Value × St) (fun _ => Option (TT × St)) none (fun p => @Prod.rec Value St (fun _ => Option (TT × St)) (fun v σ' => ih (putR t o.dst v) σ') p) (opR P K none (rdR nt t) o σ))
      (wantR o (yieldR ops nt t))) l

theorem opsR_eq {P : Program} {K : Kn} {ops : Array Oper} {nt : Nat} : ∀ (l : List Oper) (t : TT) (σ : St), opsR P K ops nt l t σ = opsF P K ops nt l t σ
  | [], t, σ => rfl
  | o :: l, t, σ => by
    have ih := opsR_eq (P := P) (K := K) (ops := ops) (nt := nt) l
    rw [opsF, ← opR_eq, ← wantR_eq, ← yieldR_eq, ← rdR_eq]
    simp only [← ih, ← putR_eq]
    show @Bool.rec (fun _ => Option (TT × St)) _ _ (wantR o (yieldR ops nt t)) = _
    cases wantR o (yieldR ops nt t) with
    | false => rfl
    | true => cases opR P K none (rdR nt t) o σ <;> rfl

noncomputable def trR (P : Program) (K : Kn) (ops : Array Oper) (base nt : Nat) (l : List Oper) : Nat → TT → St → Option (TraceF × TT × St) :=
  @List.rec Oper (fun _ => Nat → TT → St → Option (TraceF × TT × St)) (fun _ t σ => some ([], t, σ)) (fun o _ ih k t σ =>
    @Bool.rec (fun _ => Option (TraceF × TT × St))
      (match ih (k + 1) (putR t o.dst undef) σ with
        | some (tr, r) => some ((t, σ) :: tr, r)
        | none => none)
      (match opR P K (some (base + k)) (rdR nt t) o σ with
        | some (v, σ') =>
          match ih (k + 1) (putR t o.dst v) σ' with
          | some (tr, r) => some ((t, σ) :: tr, r)
          | none => none
        | none => none)
      (wantR o (yieldR ops nt t))) l

theorem trR_eq {P : Program} {K : Kn} {ops : Array Oper} {base nt : Nat} : ∀ (l : List Oper) (k : Nat) (t : TT) (σ : St), trR P K ops base nt l k t σ = trF P K ops base nt l k t σ
  | [], k, t, σ => rfl
  | o :: l, k, t, σ => by
    have ih := trR_eq (P := P) (K := K) (ops := ops) (base := base) (nt := nt) l
    rw [trF, ← opR_eq, ← wantR_eq, ← yieldR_eq, ← rdR_eq]
    simp only [← ih, ← putR_eq]
    show @Bool.rec (fun _ => Option (TraceF × TT × St)) _ _ (wantR o (yieldR ops nt t)) = _
    cases wantR o (yieldR ops nt t) <;> rfl

noncomputable def stillR (P : Program) (ops : Array Oper) (base nt : Nat) (tr : TraceF) (t' : TT) (σ' : St) (p : Nat × Nat) : Bool :=
  match ops[p.1]? with
  | some o =>
    match wantR o (yieldR ops nt (tAtF tr t' p.1)) with
    | true =>
      match blkF P base p.1 (rdR nt (tAtF tr t' p.1)) o with
      | some b => oeq (getR (sAtF tr σ' p.2).heap b) (getR (sAtF tr σ' (p.2 + 1)).heap b)
      | none => true
    | false => true
  | none => true

theorem stillR_eq (P : Program) (ops : Array Oper) (base nt : Nat) (tr : TraceF) (t' : TT) (σ' : St) (p : Nat × Nat) : stillR P ops base nt tr t' σ' p = stillF P ops base nt tr t' σ' p := by
  unfold stillR stillF
  simp only [yieldR_eq, rdR_eq, wantR_eq, getR_eq]
  cases ops[p.1]? with
  | none => rfl
  | some o =>
    simp only
    cases Region.wanted o (yieldF ops nt (tAtF tr t' p.1)) <;> rfl

noncomputable def checksR (P : Program) (ops : Array Oper) (base nt : Nat) (tr : TraceF) (t' : TT) (σ' : St) : Bool :=
  (stillPairs P ops).all (stillR P ops base nt tr t' σ') && (cleanPts P ops).all fun p => (getR (sAtF tr σ' p.2).heap (base + p.1)).isNone

noncomputable def regR (P : Program) (K : Kn) (nt : Nat) (ops : Array Oper) (t : TT) (σ : St) : Option (TT × St) :=
  match planB P ops with
  | true =>
    match trR P K ops σ.next nt ops.toList 0 t { σ with next := σ.next + ops.size } with
    | some (tr, t', σ') => (match checksR P ops σ.next nt tr t' σ' with | true => some (t', σ') | false => none)
    | none => none
  | false => none

theorem regR_eq (P : Program) (K : Kn) (nt : Nat) (ops : Array Oper) (t : TT) (σ : St) : regR P K nt ops t σ = regF P K nt ops t σ := by
  unfold regR regF
  rw [trR_eq]
  cases planB P ops with
  | false => rfl
  | true =>
    simp only [if_true]
    cases trF P K ops σ.next nt ops.toList 0 t { σ with next := σ.next + ops.size } with
    | none => rfl
    | some q =>
      obtain ⟨tr, t', σ'⟩ := q
      simp only
      have e : checksR P ops σ.next nt tr t' σ' = checksF P ops σ.next nt tr t' σ' := by
        unfold checksR checksF
        simp only [getR_eq]
        congr 1
        congr 1
        exact funext fun p => stillR_eq P ops σ.next nt tr t' σ' p
      rw [e]
      cases checksF P ops σ.next nt tr t' σ' <;> rfl

noncomputable def thenK (r : ResF) (k : GoF) : ResF :=
  @Option.rec (Exit × TT × St) (fun _ => ResF) none (fun p => @Prod.rec Exit (TT × St) (fun _ => ResF) (fun e q => match e with | .normal => @Prod.rec TT St (fun _ => ResF) (fun t σ => k t σ) q | _ => some (e, q)) p) r
theorem thenK_eq (r : ResF) (k : GoF) : thenK r k = thenF r k := by
  unfold thenK thenF
  cases r with
  | none => rfl
  | some p => obtain ⟨e, t, σ⟩ := p; cases e <;> rfl

noncomputable def iterK (n : Nat) (g : GoF) : GoF := @Nat.rec (fun _ => GoF) (fun _ _ => none) (fun _ ih t σ => thenK (g t σ) ih) n
theorem iterK_eq (g : GoF) : ∀ n, iterK n g = iterF n g
  | 0 => rfl
  | n + 1 => by
    funext t σ
    show thenK (g t σ) (iterK n g) = _
    rw [thenK_eq, iterK_eq g n]
    rfl

noncomputable def evK (P : Program) (K : Kn) (n nt : Nat) (c : Code) : GoF × (Nat → Option GoF) :=
  @Code.rec (fun _ => GoF × (Nat → Option GoF))
    (fun t σ => some (.normal, t, σ), fun _ => none)
    (fun _ ops draw => (fun t σ => normF (@Bool.rec (fun _ => Option (TT × St)) (opsR P K ops nt ops.toList t σ) (regR P K nt ops t σ) draw), fun _ => none))
    (fun _ _ a b => (fun t σ => thenK (a.1 t σ) b.1, fun l => match a.2 l with | some g => some fun t σ => thenK (g t σ) b.1 | none => b.2 l))
    (fun c _ _ a b => (fun t σ => match rdR nt t c with | .bool q => @Bool.rec (fun _ => ResF) (b.1 t σ) (a.1 t σ) q | _ => none, fun _ => none))
    (fun id _ c => (fun t σ => inBlkF id (c.1 t σ), fun _ => none))
    (fun _ c => (iterK n c.1, fun _ => none))
    (fun _ _ _ _ _ _ => (fun _ _ => none, fun _ => none))
    (fun id => (fun t σ => some (.exit id, t, σ), fun _ => none))
    (fun _ c => (scopeF n c.2 c.1, fun _ => none))
    (fun l => (fun t σ => some (.normal, t, σ), fun l' => if l == l' then some fun t σ => some (.normal, t, σ) else none))
    (fun l => (fun t σ => some (.goto l, t, σ), fun _ => none))
    (fun t σ => some (.ret, t, σ), fun _ => none)
    (fun _ => (fun _ _ => none, fun _ => none))
    c

theorem evK_eq {P : Program} {K : Kn} {n nt : Nat} : ∀ c, evK P K n nt c = evF P K n nt c := by
  intro c
  induction c with
  | region id ops draw =>
    have e : ∀ t σ, (@Bool.rec (fun _ => Option (TT × St)) (opsR P K ops nt ops.toList t σ) (regR P K nt ops t σ) draw) = (match draw with | true => regF P K nt ops t σ | false => opsF P K ops nt ops.toList t σ) := by
      intro t σ
      cases draw with
      | true => exact regR_eq _ _ _ _ _ _
      | false => exact opsR_eq _ _ _
    show (_, _) = evF P K n nt (.region id ops draw)
    simp only [evF]
    exact Prod.ext (funext fun t => funext fun σ => congrArg normF (e t σ)) rfl
  | seq a b iha ihb =>
    show (((fun t σ => thenK ((evK P K n nt a).1 t σ) (evK P K n nt b).1), (fun l => match (evK P K n nt a).2 l with | some g => some fun t σ => thenK (g t σ) (evK P K n nt b).1 | none => (evK P K n nt b).2 l)) : GoF × (Nat → Option GoF)) = _
    rw [iha, ihb]
    simp only [evF, thenK_eq]
    rfl
  | cond x a b iha ihb =>
    show (((fun t σ => match rdR nt t x with | .bool q => @Bool.rec (fun _ => ResF) ((evK P K n nt b).1 t σ) ((evK P K n nt a).1 t σ) q | _ => none), (fun _ => none)) : GoF × (Nat → Option GoF)) = _
    rw [iha, ihb]
    simp only [evF, rdR_eq]
    refine Prod.ext (funext fun t => funext fun σ => ?_) rfl
    simp only
    cases rdF nt t x <;> first | rfl | (rename_i q; cases q <;> rfl)
  | block id c ih =>
    show (((fun t σ => inBlkF id ((evK P K n nt c).1 t σ)), (fun _ => none)) : GoF × (Nat → Option GoF)) = _
    rw [ih]
    simp only [evF]
  | loop c ih =>
    show ((iterK n (evK P K n nt c).1, (fun _ => none)) : GoF × (Nat → Option GoF)) = _
    rw [ih, iterK_eq]
    simp only [evF]
  | scope c ih =>
    show ((scopeF n (evK P K n nt c).2 (evK P K n nt c).1, (fun _ => none)) : GoF × (Nat → Option GoF)) = _
    rw [ih]
    simp only [evF]
  | _ => rfl

noncomputable def callK (P : Program) (K : Kn) (n : Nat) : Kn := fun g args σ =>
  match P.funcs[g]? with
  | some fn =>
    match fnOk fn && Nat.ble args.length fn.ntmps with
    | true =>
      match fn.body with
      | some c =>
        match (evK P K n fn.ntmps c).1 (fill .nil 0 args) σ with
        | some (.ret, t, σ') => match resAllF P (rdN fn.ntmps t) σ' fn.results.toList with | some vs => some (packed vs, σ') | none => none
        | some (.normal, t, σ') => match resAllF P (rdN fn.ntmps t) σ' fn.results.toList with | some vs => some (packed vs, σ') | none => none
        | _ => none
      | none => none
    | false => none
  | none => none

theorem callK_eq (P : Program) (K : Kn) (n : Nat) : callK P K n = callF P K n := by
  funext g args σ
  unfold callK callF
  cases P.funcs[g]? with
  | none => rfl
  | some fn =>
    simp only
    have hb : Nat.ble args.length fn.ntmps = decide (args.length ≤ fn.ntmps) := by
      rw [Bool.eq_iff_iff, decide_eq_true_eq]
      exact ⟨Nat.le_of_ble_eq_true, Nat.ble_eq_true_of_le⟩
    rw [hb]
    have hr : ∀ t, rdN fn.ntmps t = rdT fn.ntmps t := fun t => funext (rdN_eq fn.ntmps t)
    simp only [evK_eq, hr]
    cases (fnOk fn && decide (args.length ≤ fn.ntmps)) with
    | false => rfl
    | true =>
      simp only [if_true]
      cases fn.body with
      | none => rfl
      | some c => rfl

noncomputable def kK (P : Program) (B : Kn) : Nat → Kn
  | 0 => B
  | n + 1 => fun g args σ => match B g args σ with | some r => some r | none => callK P (kK P B n) n g args σ

theorem kK_eq (P : Program) (B : Kn) : ∀ n, kK P B n = kF P B n
  | 0 => rfl
  | n + 1 => by
    funext g args σ
    simp only [kK, kF, callK_eq, kK_eq P B n]
    rfl

theorem kK_ok {P : Program} {B : Kn} (hB : B.ok P) (hm : P.follows .mixedOrders = true) (n : Nat) : (kK P B n).ok P := by
  rw [kK_eq]
  exact kF_ok hB hm n
end Go.As
