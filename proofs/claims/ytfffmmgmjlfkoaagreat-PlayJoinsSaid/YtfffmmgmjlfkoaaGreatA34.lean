/- What a call made, under new numbers; rows that are grown. -/
import Derived.Test.YtfffmmgmjlfkoaaGreatA33
namespace Go.As
set_option linter.unusedSimpArgs false
set_option linter.unusedVariables false

def addAll (σ : St) : List AObj → St
  | [] => σ
  | o :: os => addAll (σ.add o) os
theorem addAll_next : ∀ (os : List AObj) (σ : St), (addAll σ os).next = σ.next + os.length
  | [], σ => rfl
  | o :: os, σ => by rw [addAll, addAll_next os]; show σ.next + 1 + os.length = _; simp; omega
theorem addAll_get : ∀ (os : List AObj) (σ : St) (b : Nat), (addAll σ os).get b = if σ.next ≤ b ∧ b < σ.next + os.length then os[b - σ.next]? else σ.get b
  | [], σ, b => by rw [addAll, if_neg (by simp)]
  | o :: os, σ, b => by
    rw [addAll, addAll_get os]
    show (if σ.next + 1 ≤ b ∧ b < σ.next + 1 + os.length then os[b - (σ.next + 1)]? else (σ.add o).get b) = _
    by_cases h : b = σ.next
    · subst h
      rw [if_neg (by omega), St.get_add_eq rfl, if_pos (by simp)]
      simp
    · rw [St.get_add_ne h]
      by_cases h2 : σ.next + 1 ≤ b ∧ b < σ.next + 1 + os.length
      · rw [if_pos h2, if_pos (by simp; omega), show b - σ.next = (b - (σ.next + 1)) + 1 by omega, List.getElem?_cons_succ]
      · rw [if_neg h2, if_neg (by simp at h2 ⊢; omega)]

theorem disc1_rel {f : Inj} {v v' : Value} (h : disc1 v = true) (r : VRel f v v') : ∀ g, VRel g v v' := by
  intro g
  cases r <;> first | (simp [disc1] at h; done) | constructor

/-- A row of plain values. -/
def discO : AObj → Bool
  | .cells cs _ _ => cs.all disc1
  | .map _ es => es.all fun p => disc1 p.2
  | .blob _ => true

theorem discO_rel {f : Inj} {k : Nat} {o : AObj} {o' : Obj} (h : discO o = true) (r : ObjRel f k o o') : ∀ g, ObjRel g k o o' := by
  intro g
  cases r with
  | cells cs e kd cs' fr more h1 h2 h3 h4 =>
    refine .cells cs e kd cs' fr more ⟨h1.1, fun i x x' hx hx' => ?_⟩ h2 h3 h4
    exact disc1_rel (List.all_eq_true.1 h x (List.mem_of_getElem? hx)) (h1.2 i x x' hx hx') g
  | map ik es es' clock m =>
    refine .map ik es es' clock ⟨m.nodup, fun n v hn => ?_, m.of, m.keys, m.born, m.lt⟩
    obtain ⟨e, a, b, c⟩ := m.to n v hn
    exact ⟨e, a, b, disc1_rel (List.all_eq_true.1 h (n, v) hn) c g⟩
  | blob n e cs' fr h1 h2 => exact .blob n e cs' fr h1 h2

/-- The blocks that a call made, and that are told of, stand one behind the other. -/
theorem CallsA.canon {P : Program} {g : FuncId} {args : List Value} {σ σ' : St} {v vt : Value} {js : List Nat} {os : List AObj} (h : CallsA P g args σ v σ') (hk : ∀ b o, b < σ.next → σ.get b = some o → σ'.get b = some o)
    (hl : js.length = os.length) (hnd : js.Nodup) (hge : ∀ j ∈ js, σ.next ≤ j) (ho : ∀ (i j : Nat) (o : AObj), js[i]? = some j → os[i]? = some o → σ'.get j = some o ∧ discO o = true)
    (hv : ∀ f f' v', Inj.le f f' → (∀ b x, f b = some x → b < σ.next) → VRel f' v v' → VRel (selF σ.next (fun i => js[i - σ.next]?) f') vt v') : CallsA P g args σ vt (addAll σ os) := by
  intro f w args' hR ha
  refine (h f w args' hR ha).mono ?_
  rintro e w' ⟨v', rfl, f', hx, hR', hvr⟩
  refine ⟨v', rfl, selF σ.next (fun i => js[i - σ.next]?) f', ?_⟩
  have hget : ∀ b o, (addAll σ os).get b = some o → ∀ j, ren σ.next (fun i => js[i - σ.next]?) b = some j → (b < σ.next ∧ j = b ∧ σ.get b = some o) ∨ (σ.next ≤ b ∧ js[b - σ.next]? = some j ∧ os[b - σ.next]? = some o) := by
    intro b o hb j hj
    rw [addAll_get] at hb
    unfold ren at hj
    by_cases hlt : b < σ.next
    · rw [if_pos hlt] at hj
      rw [if_neg (by omega)] at hb
      cases hj
      exact .inl ⟨hlt, rfl, hb⟩
    · rw [if_neg hlt] at hj
      have : b - σ.next < js.length := (List.getElem?_eq_some_iff.1 hj).1
      rw [if_pos (by omega)] at hb
      exact .inr ⟨by omega, hj, hb⟩
  have := Turns.sel (σt := addAll σ os) (r := fun i => js[i - σ.next]?) hR.dom hx hR' (by rw [addAll_next]; omega) ?_ ?_ ?_ ?_
  · exact ⟨this.1, this.2, hv f f' v' hx.le hR.dom hvr⟩
  · intro i j hij hi
    have h1 : i - σ.next < js.length := (List.getElem?_eq_some_iff.1 hij).1
    exact ⟨hge j (List.mem_of_getElem? hij), by rw [addAll_next]; omega⟩
  · intro i i' j hi hi' h1 h2
    have a1 := List.getElem?_eq_some_iff.1 h1
    have a2 := List.getElem?_eq_some_iff.1 h2
    obtain ⟨a1, b1⟩ := a1
    obtain ⟨a2, b2⟩ := a2
    have key : ∀ (l : List Nat), l.Nodup → ∀ (p q : Nat) (hp : p < l.length) (hq : q < l.length), l[p] = l[q] → p = q := by
      intro l hnd p q hp hq e
      rcases Nat.lt_trichotomy p q with h | h | h
      · exact absurd e (List.pairwise_iff_getElem.1 hnd p q hp hq h)
      · exact h
      · exact absurd e.symm (List.pairwise_iff_getElem.1 hnd q p hq hp h)
    have := key js hnd _ _ a1 a2 (b1.trans b2.symm)
    omega
  · intro b j o c k hb hj hf
    rcases hget b o hb j hj with ⟨h1, rfl, h2⟩ | ⟨h1, h2, h3⟩
    · obtain ⟨o', g1, g2⟩ := hR'.obj j o c k (hk j o h1 h2) hf
      refine ⟨o', g1, ?_⟩
      have hle : Inj.le f (selF σ.next (fun i => js[i - σ.next]?) f') := by
        intro i x hi
        unfold selF ren
        rw [if_pos (hR.dom i x hi)]
        exact hx.le i x hi
      rcases hx.new j (c, k) hf with hfj | hfj
      · obtain ⟨o'', q1, q2⟩ := hR.obj j o c k h2 hfj
        exact (q2.back hx.le g2).mono hle
      · omega
    · obtain ⟨g1, g2⟩ := ho _ j o h2 h3
      obtain ⟨o', g3, g4⟩ := hR'.obj j o c k g1 hf
      exact ⟨o', g3, discO_rel g2 g4 _⟩
  · intro b j o hb hj
    rcases hget b o hb j hj with ⟨h1, rfl, h2⟩ | ⟨h1, h2, h3⟩
    · exact ⟨o, hk j o h1 h2, rfl⟩
    · exact ⟨o, (ho _ j o h2 h3).1, rfl⟩

section
variable {P : Program} {K : Kn} {ρ : Operand → Value} {dst : Option Tmp} {ty : TypeId} {pos : String} {af : Array Edge} {g : Option (Nat × Bool)} {σ : St}
/-- What is made, by what the operands are. -/
theorem o_makesOf {op : Op} {ob : AObj} {mk : Nat → Value} (ρ' : Operand → Value) (hk : okind P ⟨dst, op, ty, pos, af, g⟩ = .makes) (hc : ∀ x, x ∈ op.operands.toList → ρ x = ρ' x) (h : allocA P ρ' ⟨dst, op, ty, pos, af, g⟩ = some (ob, mk)) :
    opF P K none ρ ⟨dst, op, ty, pos, af, g⟩ σ = some (mk σ.next, σ.at σ.next ob (σ.next + 1)) :=
  o_makes hk (by simp only [allocTo, alloc_congr (P := P) (o := ⟨dst, op, ty, pos, af, g⟩) hc, h, Option.map_some, place])
theorem o_makesOfD {b : Nat} {op : Op} {ob : AObj} {mk : Nat → Value} (ρ' : Operand → Value) (hk : okind P ⟨dst, op, ty, pos, af, g⟩ = .makes) (hc : ∀ x, x ∈ op.operands.toList → ρ x = ρ' x) (h : allocA P ρ' ⟨dst, op, ty, pos, af, g⟩ = some (ob, mk)) :
    opF P K (some b) ρ ⟨dst, op, ty, pos, af, g⟩ σ = some (mk b, σ.at b ob σ.next) :=
  o_makes hk (by simp only [allocTo, alloc_congr (P := P) (o := ⟨dst, op, ty, pos, af, g⟩) hc, h, Option.map_some, place])
theorem o_append {nid : Option Nat} {xs : Array Operand} {ats : Array TypeId} {l : List Value} {v : Value} {σ' : St} (hl : xs.toList.map ρ = l) (h : appendA P ats l σ = some (v, σ')) : opF P K nid ρ ⟨dst, .call ⟨.builtin .append, xs, ats⟩, ty, pos, af, g⟩ σ = some (v, σ') :=
  o_writes rfl (by simp only [writesA, hl, h])
end

/-- The state behind an append to a row: the elder row is given up. -/
def St.app (σ : St) (v : Value) (o : AObj) : St :=
  match v with
  | .slice (some a) _ _ => (σ.del a.block).add o
  | _ => σ.add o

/-- A row of whole things of size one, as append leaves it, at block b (if there is any). -/
def RowAt (P : Program) (σ : St) (t : TypeId) (v : Value) (l : List Value) (b : Nat) : Prop :=
  (l = [] ∧ v = .slice none 0 0) ∨ (l ≠ [] ∧ v = .slice (some ⟨b, 0, none⟩) l.length unk ∧ σ.get b = some (.cells l t (.vec 1)))

theorem RowAt.append {P : Program} {σ : St} {t et : TypeId} {v : Value} {l : List Value} {b xb : Nat} {x : Value} {e2 : TypeId} {kd2 : Kd} (h : RowAt P σ et v l b) (ht : P.underlying t = some (.slice et)) {it : TypeInfo} {z : Value} (hi : P.info? et = some it) (hz : zeroV P et = some z) (h1 : it.size = 1) (hz1 : z.cells.size = 1) (hby : it.bytes ≤ 8)
    (hx : σ.get xb = some (.cells [x] e2 kd2)) (h1x : x.oneCell' = true) (hlen : l.length < 1000000) :
    appendA P #[t, t] [v, .slice (some ⟨xb, 0, none⟩) 1 1] σ = some (.slice (some ⟨σ.next, 0, none⟩) (l.length + 1) unk, σ.app v (.cells (l ++ [x]) et (.vec 1))) := by
  have hn : newsA σ it.size (.slice (some ⟨xb, 0, none⟩) 1 1) = some (1, [x]) := by
    simp [newsA, hx, h1]
  have hm : ∀ m : Nat, m < 1000001 → m * it.bytes ≤ 2 ^ 40 ∧ m ≤ 2 ^ 40 := fun m hm => ⟨Nat.le_trans (Nat.mul_le_mul (Nat.le_of_lt hm) hby) (by decide), Nat.le_trans (Nat.le_of_lt hm) (by decide)⟩
  have hsz : ¬ (it.size = 0 ∨ z.cells.size ≠ it.size) := by omega
  have hone : ¬ ¬ ([x].all Value.oneCell' = true) := by simp [h1x]
  rcases h with ⟨rfl, rfl⟩ | ⟨hne, rfl, hb⟩
  · simp only [appendA, ht, hi, hz, if_true, if_neg hsz, hn, if_neg hone]
    rw [if_neg (by decide), if_pos (hm 1 (by decide))]
    simp [h1, St.app]
  · simp only [appendA, ht, hi, hz, if_true, if_neg hsz, hn, if_neg hone, hb]
    rw [if_neg (by decide), if_neg (fun hn => hn (hm (l.length + 1) (by omega)))]
    have hl0 : l.length ≠ 0 := fun e => hne (List.eq_nil_of_length_eq_zero e)
    have hc : l.length ≠ 0 ∧ True ∧ True ∧ l.length = l.length * it.size ∧ Kd.vec 1 = .vec it.size := ⟨hl0, trivial, trivial, by rw [h1]; omega, by rw [h1]⟩
    rw [if_pos hc]
    simp [h1, St.app]
end Go.As
