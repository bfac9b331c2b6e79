/- Laws for reckoning with the tree's run by hand: what is read behind a write, what the operations come to at known values. -/
import Derived.Test.YtfffmmgmjlfkoaaGreatA24
namespace Go.As
set_option linter.unusedSimpArgs false
set_option linter.unusedVariables false

theorem rd_same {nt : Nat} {t : TT} {d : Nat} {v : Value} (h : d < nt) : rdT nt (putF t (some d) v) d = v := by
  simp [rdT_eq, putF, Tr.get_set, h]
theorem rd_ne {nt : Nat} {t : TT} {d i : Nat} {v : Value} (h : i ≠ d) : rdT nt (putF t (some d) v) i = rdT nt t i := by
  simp [rdT_eq, putF, Tr.get_set, h]
theorem rd_none {nt : Nat} {t : TT} {i : Nat} {v : Value} : rdT nt (putF t none v) i = rdT nt t i := rfl

/-- One operation, without a guard. -/
theorem ops_cons {P : Program} {K : Kn} {ops : Array Oper} {nt : Nat} {dst : Option Tmp} {op : Op} {ty : TypeId} {pos : String} {af : Array Edge} {l : List Oper} {t : TT} {σ : St} {v : Value} {σ' : St}
    (h : opF P K none (rdF nt t) ⟨dst, op, ty, pos, af, none⟩ σ = some (v, σ')) : opsF P K ops nt (⟨dst, op, ty, pos, af, none⟩ :: l) t σ = opsF P K ops nt l (putF t dst v) σ' := by
  rw [opsF]
  have : Region.wanted ⟨dst, op, ty, pos, af, none⟩ (yieldF ops nt t) = true := rfl
  rw [this]
  simp only [h]
theorem ops_skip {P : Program} {K : Kn} {ops : Array Oper} {nt : Nat} {o : Oper} {l : List Oper} {t : TT} {σ : St} (h : Region.wanted o (yieldF ops nt t) = false) : opsF P K ops nt (o :: l) t σ = opsF P K ops nt l (putF t o.dst undef) σ := by
  rw [opsF, h]
theorem ops_want {P : Program} {K : Kn} {ops : Array Oper} {nt : Nat} {o : Oper} {l : List Oper} {t : TT} {σ : St} {v : Value} {σ' : St} (h : Region.wanted o (yieldF ops nt t) = true)
    (h2 : opF P K none (rdF nt t) o σ = some (v, σ')) : opsF P K ops nt (o :: l) t σ = opsF P K ops nt l (putF t o.dst v) σ' := by
  rw [opsF, h]
  simp only [h2]

theorem binA_add {P : Program} {t : TypeId} {xo yo : Operand} {k : IntKind} {a b : Int} : binA P .add t xo yo (.int k a) (.int k b) = some (.int k (k.wrap (a + b))) :=
  binA_int (by simp [binOp, Op.intArith]) rfl
theorem binA_sub {P : Program} {t : TypeId} {xo yo : Operand} {k : IntKind} {a b : Int} : binA P .sub t xo yo (.int k a) (.int k b) = some (.int k (k.wrap (a - b))) :=
  binA_int (by simp [binOp, Op.intArith]) rfl
theorem binA_mul {P : Program} {t : TypeId} {xo yo : Operand} {k : IntKind} {a b : Int} : binA P .mul t xo yo (.int k a) (.int k b) = some (.int k (k.wrap (a * b))) :=
  binA_int (by simp [binOp, Op.intArith]) rfl
theorem binA_eql {P : Program} {t : TypeId} {xo yo : Operand} {k : IntKind} {a b : Int} : binA P .eql t xo yo (.int k a) (.int k b) = some (.bool (a == b)) :=
  binA_int (by simp [binOp, Op.intCmp]) rfl
theorem binA_neq {P : Program} {t : TypeId} {xo yo : Operand} {k : IntKind} {a b : Int} : binA P .neq t xo yo (.int k a) (.int k b) = some (.bool (a != b)) :=
  binA_int (by simp [binOp, Op.intCmp]) rfl
theorem binA_lss {P : Program} {t : TypeId} {xo yo : Operand} {k : IntKind} {a b : Int} : binA P .lss t xo yo (.int k a) (.int k b) = some (.bool (decide (a < b))) :=
  binA_int (by simp [binOp, Op.intCmp]) rfl
theorem binA_leq {P : Program} {t : TypeId} {xo yo : Operand} {k : IntKind} {a b : Int} : binA P .leq t xo yo (.int k a) (.int k b) = some (.bool (decide (a ≤ b))) :=
  binA_int (by simp [binOp, Op.intCmp]) rfl
theorem binA_gtr {P : Program} {t : TypeId} {xo yo : Operand} {k : IntKind} {a b : Int} : binA P .gtr t xo yo (.int k a) (.int k b) = some (.bool (decide (a > b))) :=
  binA_int (by simp [binOp, Op.intCmp]) rfl
theorem binA_geq {P : Program} {t : TypeId} {xo yo : Operand} {k : IntKind} {a b : Int} : binA P .geq t xo yo (.int k a) (.int k b) = some (.bool (decide (a ≥ b))) :=
  binA_int (by simp [binOp, Op.intCmp]) rfl

theorem lookupA_ok2 {P : Program} {rd : Nat → Option AObj} {t kt et : TypeId} {k kk : IntKind} {es : List (Int × Value)} {r : Nat} {n : Int} {z : Value} (ht : P.underlying t = some (.map kt et)) (hk : P.underlying kt = some (.int kk)) (hz : zeroV P et = some z)
    (hr : rd r = some (.map k es)) : lookupA P rd t (.map (some r)) (.int k n) true = some (.tuple #[(lk es n).getD z, .bool (lk es n).isSome]) := by
  unfold lookupA
  simp only [ht, hk, hr, hz, if_true]
  cases lk es n <;> rfl

theorem storeA_at {P : Program} {t : TypeId} {σ : St} {b off : Nat} {cs : List Value} {e : TypeId} {kd : Kd} {v : Value} {it : TypeInfo} (hb : σ.get b = some (.cells cs e kd)) (hi : P.info? t = some it) (hk : kd ≠ .ro) (hs : v.cells.size = it.size) (h1 : v.cells.toList.all Value.oneCell' = true) (hl : off + v.cells.size ≤ cs.length) :
    storeA P t (.pointer (some ⟨b, off, none⟩)) v σ = some (σ.put b (.cells (splice cs off v.cells.toList) e kd)) := by
  unfold storeA
  simp only [hb, hi]
  exact if_pos ⟨hk, hs, h1, hl⟩

/-! ### A call that leaves what it found -/
/-- What was held is held under the elder numbers. -/
theorem VRel.back {f f' : Inj} (hl : Inj.le f f') {v v' : Value} (h : VRel f v v') : ∀ {v'' : Value}, VRel f' v v'' → VRel f v v'' := by
  induction h with
  | bool b => intro v'' h2; cases h2; exact .bool b
  | int k n => intro v'' h2; cases h2; exact .int k n
  | float k b => intro v'' h2; cases h2; exact .float k b
  | complex k a b => intro v'' h2; cases h2; exact .complex k a b
  | string s => intro v'' h2; cases h2; exact .string s
  | ptrNil => intro v'' h2; cases h2; exact .ptrNil
  | ptr a a' p =>
    intro v'' h2
    cases h2 with
    | ptr _ a2 p2 =>
      obtain ⟨k, e⟩ := p.blk
      obtain ⟨k2, e2⟩ := p2.blk
      refine .ptr _ _ ⟨p2.s, p2.s', p2.off, k2, ?_⟩
      rw [hl _ _ e] at e2
      rw [← e2]; exact e
  | sliceNil => intro v'' h2; cases h2 with
    | sliceNil => exact .sliceNil
  | slice a a' n c c' p =>
    intro v'' h2
    cases h2 with
    | slice _ a2 _ _ c2 p2 =>
      refine .slice _ _ _ _ _ ⟨p2.s, p2.s', fun hlv => ?_, fun hc => ?_, p2.ex⟩
      · obtain ⟨_, k, e⟩ := p.live hlv
        obtain ⟨o2, k2, e2⟩ := p2.live hlv
        refine ⟨o2, k2, ?_⟩
        rw [hl _ _ e] at e2
        rw [← e2]; exact e
      · obtain ⟨h1, h3, h4⟩ := p2.unk hc
        refine ⟨h1, h3, fun hn ho => ?_⟩
        obtain ⟨_, k, e⟩ := p.live (.inl hn)
        obtain ⟨b, e2⟩ := h4 hn ho
        refine ⟨b, ?_⟩
        rw [hl _ _ e] at e2
        rw [← e2]; exact e
  | mapNil => intro v'' h2; cases h2; exact .mapNil
  | any _ _ => intro v'' h2; cases h2; exact .any _ (by assumption)
  | map r r' k e =>
    intro v'' h2
    cases h2 with
    | map _ r2 k2 e2 =>
      refine .map _ _ k2 ?_
      rw [hl _ _ e] at e2
      rw [← e2]; exact e
  | func fn cs cs' hs hr ih =>
    intro v'' h2
    cases h2 with
    | func _ _ cs2 hs2 hr2 =>
      refine .func _ _ _ hs2 fun i x x2 hx hx2 => ?_
      have hi : i < cs'.toList.length := by have := (List.getElem?_eq_some_iff.1 hx).1; simp only [Array.length_toList] at this ⊢; omega
      exact ih i x _ hx (List.getElem?_eq_getElem hi) (hr2 i x x2 hx hx2)
  | nilFunc => intro v'' h2; cases h2; exact .nilFunc
  | agg cs cs' hs hr ih =>
    intro v'' h2
    cases h2 with
    | agg _ cs2 hs2 hr2 =>
      refine .agg _ _ hs2 fun i x x2 hx hx2 => ?_
      have hi : i < cs'.toList.length := by have := (List.getElem?_eq_some_iff.1 hx).1; simp only [Array.length_toList] at this ⊢; omega
      exact ih i x _ hx (List.getElem?_eq_getElem hi) (hr2 i x x2 hx hx2)
  | tuple cs cs' hs hr ih =>
    intro v'' h2
    cases h2 with
    | tuple _ cs2 hs2 hr2 =>
      refine .tuple _ _ hs2 fun i x x2 hx hx2 => ?_
      have hi : i < cs'.toList.length := by have := (List.getElem?_eq_some_iff.1 hx).1; simp only [Array.length_toList] at this ⊢; omega
      exact ih i x _ hx (List.getElem?_eq_getElem hi) (hr2 i x x2 hx hx2)

theorem LRel.back {f f' : Inj} (hl : Inj.le f f') {l l' l'' : List Value} (h : LRel f l l') (h2 : LRel f' l l'') : LRel f l l'' := by
  refine ⟨h2.1, fun i x x2 hx hx2 => ?_⟩
  obtain ⟨x', hx', hr⟩ := h.get hx
  exact hr.back hl (h2.2 i x x2 hx hx2)

theorem ObjRel.back {f f' : Inj} (hl : Inj.le f f') {k : Nat} {o : AObj} {o' o'' : Obj} (h : ObjRel f k o o') (h2 : ObjRel f' k o o'') : ObjRel f k o o'' := by
  cases h2 with
  | cells cs elem kd cs2 fr2 more2 a1 a2 a3 a4 =>
    cases h with
    | cells _ _ _ cs1 fr1 more1 b1 b2 b3 b4 => exact .cells cs elem kd cs2 fr2 more2 (b1.back hl a1) a2 a3 a4
  | blob n elem cs2 fr2 a1 a2 => exact .blob n elem cs2 fr2 a1 a2
  | map ik es es2 clock2 m2 =>
    cases h with
    | map _ _ es1 clock1 m1 =>
      refine .map ik es es2 clock2 ⟨m2.nodup, fun n v hn => ?_, m2.of, m2.keys, m2.born, m2.lt⟩
      obtain ⟨e, h1, h3, h4⟩ := m2.to n v hn
      obtain ⟨e1, _, _, g4⟩ := m1.to n v hn
      exact ⟨e, h1, h3, g4.back hl h4⟩

/-- What a call makes and nobody holds may be forgotten. -/
theorem CallsA.keep {P : Program} {g : FuncId} {args : List Value} {σ σ' : St} {v : Value} (h : CallsA P g args σ v σ') (hv : ∀ f f' v', Inj.le f f' → VRel f' v v' → VRel f v v') (hs : ∀ b o, b < σ.next → σ.get b = some o → σ'.get b = some o) : CallsA P g args σ v σ := by
  intro f w args' hR ha
  refine (h f w args' hR ha).mono ?_
  rintro e w' ⟨v', rfl, f', hx, hR', hvr⟩
  refine ⟨v', rfl, f, ⟨fun _ _ h => h, hx.os, hx.tape, hx.output, hx.size, hx.keep, fun c hc h => h, fun c hc h => h, fun b x h => .inl h, Nat.le_refl _⟩, ⟨?_, ?_, hR.dom, ?_⟩, hv _ _ _ hx.le hvr⟩
  · intro b o c k hb hf
    obtain ⟨o', h1, h2⟩ := hR'.obj b o c k (hs b o (hR.dom b _ hf) hb) (hx.le _ _ hf)
    obtain ⟨o0, _, h0⟩ := hR.obj b o c k hb hf
    exact ⟨o', h1, h0.back hx.le h2⟩
  · intro b b' o o' c k k' h1 h2 h3 h4
    exact hR.inj b b' o o' c k k' h1 h2 h3 h4
  · intro b c k hf
    exact Nat.lt_of_lt_of_le (hR.img b c k hf) hx.size

theorem disc_back {v : Value} (h : discV v = true) (hc : closedV v = true) : ∀ (f f' : Inj) (v' : Value), Inj.le f f' → VRel f' v v' → VRel f v v' := by
  intro f f' v' _ hv
  rw [hv.disc h]
  exact VRel.closed f hc
end Go.As
