/- The abstract machine's run of code and of calls, and that the model's does the same. -/
import Derived.Test.YtfffmmgmjlfkoaaGreatM2
import Derived.LoopN
namespace Go.As
set_option linter.unusedSimpArgs false
set_option linter.unusedVariables false

abbrev Res := Option (Exit × List Value × St)
abbrev Go1 := List Value → St → Res

def thenR (r : Res) (k : Go1) : Res :=
  match r with
  | some (.normal, T, σ) => k T σ
  | r => r

def iter : Nat → Go1 → Go1
  | 0, _, _, _ => none
  | n + 1, g, T, σ => thenR (g T σ) (iter n g)

def inBlk (id : Nat) (r : Res) : Res :=
  match r with
  | some (.exit id', T, σ) => if id' = id then some (.normal, T, σ) else some (.exit id', T, σ)
  | r => r

def scopeGo : Nat → (Nat → Option Go1) → Go1 → Go1
  | 0, _, _, _, _ => none
  | n + 1, jump, g, T, σ =>
    match g T σ with
    | some (.goto l, T1, σ1) =>
      match jump l with
      | some g' => scopeGo n jump g' T1 σ1
      | none => some (.goto l, T1, σ1)
    | r => r

def norm (r : Option (List Value × St)) : Res := r.map fun p => (.normal, p.1, p.2)

/-- How drawn regions are run. -/
abbrev RegF := Kn → Array Oper → List Value → St → Option (List Value × St)
def RegF.ok (P : Program) (F : RegF) : Prop := ∀ K ops T σ r, F K ops T σ = some r → evRegD P K ops T σ = some r

def ev (P : Program) (F : RegF) (K : Kn) (n : Nat) : Code → Go1 × (Nat → Option Go1)
  | .skip => (fun T σ => some (.normal, T, σ), fun _ => none)
  | .label l => (fun T σ => some (.normal, T, σ), fun l' => if l == l' then some fun T σ => some (.normal, T, σ) else none)
  | .region _ ops draw => (fun T σ => norm (if draw then F K ops T σ else evOps P K ops ops.toList T σ), fun _ => none)
  | .seq a b => (fun T σ => thenR ((ev P F K n a).1 T σ) (ev P F K n b).1, fun l => match (ev P F K n a).2 l with | some g => some fun T σ => thenR (g T σ) (ev P F K n b).1 | none => (ev P F K n b).2 l)
  | .cond c a b => (fun T σ => match evA T c with | .bool t => if t then (ev P F K n a).1 T σ else (ev P F K n b).1 T σ | _ => none, fun _ => none)
  | .block id c => (fun T σ => inBlk id ((ev P F K n c).1 T σ), fun _ => none)
  | .loop c => (iter n (ev P F K n c).1, fun _ => none)
  | .exit id => (fun T σ => some (.exit id, T, σ), fun _ => none)
  | .scope c => (scopeGo n (ev P F K n c).2 (ev P F K n c).1, fun _ => none)
  | .goto l => (fun T σ => some (.goto l, T, σ), fun _ => none)
  | .ret => (fun T σ => some (.ret, T, σ), fun _ => none)
  | _ => (fun _ _ => none, fun _ => none)

def codeOk : Code → Bool
  | .region _ ops _ => ops.toList.all operOk
  | .seq a b => codeOk a && codeOk b
  | .cond c a b => opdOk c && codeOk a && codeOk b
  | .block _ c => codeOk c
  | .loop c => codeOk c
  | .scope c => codeOk c
  | .rangeFunc .. => false
  | .refuse _ => false
  | _ => true

def Sound (P : Program) (c : Code) (g : Go1) : Prop :=
  ∀ (T : List Value) (σ : St) (e : Exit) (T' : List Value) (σ' : St), g T σ = some (e, T', σ') → ∀ (f : Inj) (w : World) (a : Act) (Q : Exit → Act → World → Prop), Rel f σ w → LRel f T a.tmps.toList →
    (∀ a' w', After f σ w T' σ' a.defers a' w' → Q e a' w') → c.wp P Q a w

theorem After.trans {f f1 : Inj} {σ σ1 : St} {w w1 : World} {T' : List Value} {σ' : St} {ds : List Deferred} {a' : Act} {w' : World} (h : Ext f σ w f1 σ1 w1) (g : After f1 σ1 w1 T' σ' ds a' w') : After f σ w T' σ' ds a' w' := by
  obtain ⟨f2, hx, hR, hT, hd⟩ := g
  exact ⟨f2, h.trans hx, hR, hT, hd⟩

theorem After.self {f : Inj} {σ : St} {w : World} {T : List Value} {a : Act} (hR : Rel f σ w) (hT : LRel f T a.tmps.toList) : After f σ w T σ a.defers a w := ⟨f, Ext.refl f σ w, hR, hT, rfl⟩

/-- One piece, then another. -/
theorem Sound.seq {P : Program} {x y : Code} {g h : Go1} (hg : Sound P x g) (hh : Sound P y h) : Sound P (.seq x y) (fun T σ => thenR (g T σ) h) := by
  intro T σ e T' σ' hr f w a Q hR hT hQ
  change thenR (g T σ) h = _ at hr
  refine wp_seq ?_
  cases hgr : g T σ with
  | none => rw [hgr] at hr; cases hr
  | some p =>
    obtain ⟨e1, T1, σ1⟩ := p
    rw [hgr] at hr
    by_cases he : e1 = .normal
    · subst he
      simp only [thenR] at hr
      refine hg T σ .normal T1 σ1 hgr f w a _ hR hT ?_
      rintro a1 w1 ⟨f1, hx, hR1, hT1, hd⟩
      refine hh T1 σ1 e T' σ' hr f1 w1 a1 Q hR1 hT1 ?_
      intro a2 w2 h2
      rw [hd] at h2
      exact hQ a2 w2 (After.trans hx h2)
    · have hr' : some (e1, T1, σ1) = some (e, T', σ') := by
        unfold thenR at hr
        split at hr
        · rename_i h1; cases h1; exact absurd rfl he
        · exact hr
      have he2 : e1 = e ∧ T1 = T' ∧ σ1 = σ' := by cases hr'; exact ⟨rfl, rfl, rfl⟩
      obtain ⟨h1, h2, h3⟩ := he2
      subst h1
      subst h2
      subst h3
      refine hg T σ e1 T1 σ1 hgr f w a _ hR hT ?_
      intro a1 w1 h1
      have := hQ a1 w1 h1
      cases e1 <;> first | exact absurd rfl he | exact this

theorem Sound.iter {P : Program} {c : Code} {g : Go1} (hg : Sound P c g) : ∀ (n : Nat) (T : List Value) (σ : St) (e : Exit) (T' : List Value) (σ' : St), As.iter n g T σ = some (e, T', σ') → ∀ (f : Inj) (w : World) (a : Act) (Q : Exit → Act → World → Prop), Rel f σ w → LRel f T a.tmps.toList →
    (∀ a' w', After f σ w T' σ' a.defers a' w' → Q e a' w') → Code.rounds P c Q n a w
  | 0, T, σ, e, T', σ', h, _, _, _, _, _, _, _ => by simp only [As.iter] at h; cases h
  | n + 1, T, σ, e, T', σ', h, f, w, a, Q, hR, hT, hQ => by
    rw [rounds_succ]
    simp only [As.iter] at h
    cases hgr : g T σ with
    | none => rw [hgr] at h; cases h
    | some p =>
      obtain ⟨e1, T1, σ1⟩ := p
      rw [hgr] at h
      by_cases he : e1 = .normal
      · subst he
        simp only [thenR] at h
        refine hg T σ .normal T1 σ1 hgr f w a _ hR hT ?_
        rintro a1 w1 ⟨f1, hx, hR1, hT1, hd⟩
        refine Sound.iter hg n T1 σ1 e T' σ' h f1 w1 a1 Q hR1 hT1 ?_
        intro a2 w2 h2
        rw [hd] at h2
        exact hQ a2 w2 (After.trans hx h2)
      · have h' : some (e1, T1, σ1) = some (e, T', σ') := by
          unfold thenR at h
          split at h
          · rename_i h1; cases h1; exact absurd rfl he
          · exact h
        have he2 : e1 = e ∧ T1 = T' ∧ σ1 = σ' := by cases h'; exact ⟨rfl, rfl, rfl⟩
        obtain ⟨h1, h2, h3⟩ := he2
        subst h1
        subst h2
        subst h3
        refine hg T σ e1 T1 σ1 hgr f w a _ hR hT ?_
        intro a1 w1 h1
        have := hQ a1 w1 h1
        cases e1 <;> first | exact absurd rfl he | exact this

theorem Sound.block {P : Program} {c : Code} {g : Go1} (id : Nat) (hg : Sound P c g) : Sound P (.block id c) (fun T σ => inBlk id (g T σ)) := by
  intro T σ e T' σ' hr f w a Q hR hT hQ
  change inBlk id (g T σ) = _ at hr
  refine wp_block ?_
  cases hgr : g T σ with
  | none => rw [hgr] at hr; cases hr
  | some p =>
    obtain ⟨e1, T1, σ1⟩ := p
    rw [hgr] at hr
    refine hg T σ e1 T1 σ1 hgr f w a _ hR hT ?_
    intro a1 w1 h1
    cases e1 with
    | exit id' =>
      simp only [inBlk] at hr
      simp only [Exit.inBlock]
      split at hr
      · rename_i he; rw [if_pos he]; cases hr; exact hQ a1 w1 h1
      · rename_i he; rw [if_neg he]; cases hr; exact hQ a1 w1 h1
    | _ => simp only [inBlk] at hr; cases hr; exact hQ a1 w1 h1

theorem scope_sound {P : Program} {c : Code} {jump : Nat → Option Go1} (hj : ∀ l g, jump l = some g → ∃ rest, findLabel c l = some rest ∧ Sound P rest g) (hn : ∀ l, jump l = none → findLabel c l = none) (b : Frame) (k : List Item) (cs : List Frame) :
    ∀ (n : Nat) (x : Code) (g : Go1), Sound P x g → ∀ (T : List Value) (σ : St) (e : Exit) (T' : List Value) (σ' : St), scopeGo n jump g T σ = some (e, T', σ') → ∀ (f : Inj) (w : World) (a : Act) (Q : Exit → Act → World → Prop), Rel f σ w → LRel f T a.tmps.toList →
      (∀ a' w', After f σ w T' σ' a.defers a' w' → Q e a' w') → ∃ e a' w', Q e a' w' ∧ Arrives P (lone (b.at a (.code x :: .inScope c :: k)) cs w) b k cs e a' w'
  | 0, x, g, _, T, σ, e, T', σ', h, _, _, _, _, _, _, _ => by simp only [scopeGo] at h; cases h
  | n + 1, x, g, hg, T, σ, e, T', σ', h, f, w, a, Q, hR, hT, hQ => by
    simp only [scopeGo] at h
    cases hgr : g T σ with
    | none => rw [hgr] at h; cases h
    | some p =>
      obtain ⟨e1, T1, σ1⟩ := p
      rw [hgr] at h
      have hwp : x.wp P (fun e' a' w' => e' = e1 ∧ After f σ w T1 σ1 a.defers a' w') a w := hg T σ e1 T1 σ1 hgr f w a _ hR hT fun a' w' h => ⟨rfl, h⟩
      obtain ⟨e2, a2, w2, ⟨rfl, haf⟩, harr⟩ := hwp b (.inScope c :: k) cs
      cases e2 with
      | goto l =>
        simp only at h
        cases hjl : jump l with
        | none =>
          rw [hjl] at h
          cases h
          refine ⟨.goto l, a2, w2, hQ a2 w2 haf, fun k' hk => harr k' ?_⟩
          simp [gotoIn, hn l hjl, hk]
        | some g' =>
          rw [hjl] at h
          obtain ⟨rest, hrest, hs⟩ := hj l g' hjl
          obtain ⟨f1, hx, hR1, hT1, hd⟩ := haf
          obtain ⟨e3, a3, w3, hq3, harr3⟩ := scope_sound hj hn b k cs n rest g' hs T1 σ1 e T' σ' h f1 w2 a2 Q hR1 hT1 (fun a' w' h2 => hQ a' w' (After.trans hx (by rw [hd] at h2; exact h2)))
          exact ⟨e3, a3, w3, hq3, .of_steps (harr _ (by simp [gotoIn, hrest])) harr3⟩
      | normal => cases h; exact ⟨.normal, a2, w2, hQ a2 w2 haf, Steps.trans harr (.one step_inScope)⟩
      | exit id => cases h; exact ⟨.exit id, a2, w2, hQ a2 w2 haf, fun k' hk => harr k' (by simp [exitTo, hk])⟩
      | ret => cases h; exact ⟨.ret, a2, w2, hQ a2 w2 haf, harr⟩
      | panic ch => cases h; exact ⟨.panic ch, a2, w2, hQ a2 w2 haf, harr⟩
      | outgrown => cases h; exact ⟨.outgrown, a2, w2, hQ a2 w2 haf, harr⟩

theorem ev_sound {P : Program} {F : RegF} (hF : F.ok P) {K : Kn} (hK : K.ok P) (hm : P.follows .mixedOrders = true) (n : Nat) : ∀ c : Code, codeOk c = true →
    Sound P c (ev P F K n c).1 ∧ (∀ l g, (ev P F K n c).2 l = some g → ∃ rest, findLabel c l = some rest ∧ Sound P rest g) ∧ (∀ l, (ev P F K n c).2 l = none → findLabel c l = none) := by
  have skip : Sound P .skip (fun T σ => some (.normal, T, σ)) := by
    intro T σ e T' σ' h f w a Q hR hT hQ
    cases h
    exact wp_skip (hQ a w (After.self hR hT))
  intro c
  induction c with
  | skip => intro _; exact ⟨skip, (fun l g h => by simp only [ev] at h; cases h), fun l _ => rfl⟩
  | label l0 =>
    intro _
    refine ⟨?_, ?_, ?_⟩
    · intro T σ e T' σ' h f w a Q hR hT hQ
      simp only [ev] at h
      cases h
      exact wp_label (hQ a w (After.self hR hT))
    · intro l g h
      simp only [ev] at h
      split at h
      · rename_i he
        cases h
        exact ⟨.skip, by simp [findLabel, he], skip⟩
      · cases h
    · intro l h
      simp only [ev] at h
      split at h
      · cases h
      · rename_i he
        simp [findLabel, he]
  | region id ops draw =>
    intro ho
    simp only [codeOk] at ho
    refine ⟨?_, (fun l g h => by simp only [ev] at h; cases h), fun l _ => rfl⟩
    intro T σ e T' σ' h f w a Q hR hT hQ
    simp only [ev] at h
    cases draw with
    | true =>
      simp only [if_true] at h
      cases hr : F K ops T σ with
      | none => rw [hr] at h; cases h
      | some p =>
        rw [hr] at h
        simp only [norm, Option.map_some, Option.some.injEq, Prod.mk.injEq] at h
        obtain ⟨rfl, rfl, rfl⟩ := h
        exact evRegD_ok hK hm (fun o ho' => List.all_eq_true.1 ho o ho') (hF _ _ _ _ _ hr) hR hT hQ
    | false =>
      simp only [Bool.false_eq_true, if_false] at h
      cases hr : evOps P K ops ops.toList T σ with
      | none => rw [hr] at h; cases h
      | some p =>
        rw [hr] at h
        simp only [norm, Option.map_some, Option.some.injEq, Prod.mk.injEq] at h
        obtain ⟨rfl, rfl, rfl⟩ := h
        refine wp_region ?_
        have := evOps_ok hK (Q := Q) ops.toList 0 T σ p.1 p.2 f w a (fun j => by rw [Array.getElem?_toList, Nat.zero_add]) (fun o ho' => List.all_eq_true.1 ho o ho') hr hR hT hQ
        rw [Array.length_toList] at this
        rw [List.range_eq_range']
        exact this
  | seq x y ihx ihy =>
    intro ho
    simp only [codeOk, Bool.and_eq_true] at ho
    obtain ⟨hx1, hx2, hx3⟩ := ihx ho.1
    obtain ⟨hy1, hy2, hy3⟩ := ihy ho.2
    refine ⟨Sound.seq hx1 hy1, ?_, ?_⟩
    · intro l g h
      simp only [ev] at h
      split at h
      · rename_i g0 hg0
        cases h
        obtain ⟨rest, h1, h2⟩ := hx2 l g0 hg0
        exact ⟨.seq rest y, by simp [findLabel, h1], Sound.seq h2 hy1⟩
      · rename_i hg0
        obtain ⟨rest, h1, h2⟩ := hy2 l g h
        exact ⟨rest, by simp [findLabel, hx3 l hg0, h1], h2⟩
    · intro l h
      simp only [ev] at h
      split at h
      · cases h
      · rename_i hg0
        simp [findLabel, hx3 l hg0, hy3 l h]
  | cond c0 x y ihx ihy =>
    intro ho
    simp only [codeOk, Bool.and_eq_true] at ho
    refine ⟨?_, (fun l g h => by simp only [ev] at h; cases h), fun l _ => rfl⟩
    intro T σ e T' σ' h f w a Q hR hT hQ
    simp only [ev] at h
    split at h
    · rename_i t ht
      have hc := evA_rel hT ho.1.1
      rw [ht] at hc
      refine wp_cond hc.bool_of ?_
      cases t with
      | true =>
        simp only [if_true] at h ⊢
        exact (ihx ho.1.2).1 T σ e T' σ' h f w a Q hR hT hQ
      | false =>
        simp only [Bool.false_eq_true, if_false] at h ⊢
        exact (ihy ho.2).1 T σ e T' σ' h f w a Q hR hT hQ
    · cases h
  | block id c ih =>
    intro ho
    exact ⟨Sound.block id (ih ho).1, (fun l g h => by simp only [ev] at h; cases h), fun l _ => rfl⟩
  | loop c ih =>
    intro ho
    refine ⟨?_, (fun l g h => by simp only [ev] at h; cases h), fun l _ => rfl⟩
    intro T σ e T' σ' h f w a Q hR hT hQ
    simp only [ev] at h
    exact wp_loop_rounds n (Sound.iter (ih ho).1 n T σ e T' σ' h f w a Q hR hT hQ)
  | rangeFunc x ps as b iha ihb => intro ho; cases ho
  | exit id =>
    intro _
    refine ⟨?_, (fun l g h => by simp only [ev] at h; cases h), fun l _ => rfl⟩
    intro T σ e T' σ' h f w a Q hR hT hQ
    simp only [ev] at h
    cases h
    exact wp_exit (hQ a w (After.self hR hT))
  | scope c ih =>
    intro ho
    obtain ⟨h1, h2, h3⟩ := ih ho
    refine ⟨?_, (fun l g h => by simp only [ev] at h; cases h), fun l _ => rfl⟩
    intro T σ e T' σ' h f w a Q hR hT hQ
    simp only [ev] at h
    intro b k cs
    obtain ⟨e2, a2, w2, hq, harr⟩ := scope_sound h2 h3 b k cs n c _ h1 T σ e T' σ' h f w a Q hR hT hQ
    exact ⟨e2, a2, w2, hq, .of_steps (.one step_scope) harr⟩
  | goto l0 =>
    intro _
    refine ⟨?_, (fun l g h => by simp only [ev] at h; cases h), fun l _ => rfl⟩
    intro T σ e T' σ' h f w a Q hR hT hQ
    simp only [ev] at h
    cases h
    exact wp_goto (hQ a w (After.self hR hT))
  | ret =>
    intro _
    refine ⟨?_, (fun l g h => by simp only [ev] at h; cases h), fun l _ => rfl⟩
    intro T σ e T' σ' h f w a Q hR hT hQ
    simp only [ev] at h
    cases h
    exact wp_ret (hQ a w (After.self hR hT))
  | refuse why => intro ho; cases ho
end Go.As
