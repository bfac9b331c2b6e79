/- A state without what lies behind its numbers; calls of function values. -/
import Derived.Test.YtfffmmgmjlfkoaaGreatA36
namespace Go.As
set_option linter.unusedSimpArgs false
set_option linter.unusedVariables false

def trimTo (h : Tr AObj) : Nat → Tr AObj
  | 0 => .nil
  | n + 1 => (trimTo h n).set n (h.get n)
theorem trimTo_get (h : Tr AObj) : ∀ (n b : Nat), (trimTo h n).get b = if b < n then h.get b else none
  | 0, b => by rw [trimTo, Tr.get_nil, if_neg (by omega)]
  | n + 1, b => by
    rw [trimTo, Tr.get_set, trimTo_get h n]
    by_cases e : b = n
    · subst e; rw [if_pos rfl, if_pos (by omega)]
    · rw [if_neg e]
      by_cases h2 : b < n
      · rw [if_pos h2, if_pos (by omega)]
      · rw [if_neg h2, if_neg (by omega)]
def St.trim (σ : St) : St := { heap := trimTo σ.heap σ.next, next := σ.next }
theorem St.trim_get (σ : St) (b : Nat) : σ.trim.get b = if b < σ.next then σ.get b else Option.none := trimTo_get _ _ _
theorem St.trim_next (σ : St) : σ.trim.next = σ.next := rfl

theorem Rel.trim {f : Inj} {σ : St} {w : World} (h : Rel f σ w) : Rel f σ.trim w := by
  have hb : ∀ b o, σ.trim.get b = some o → σ.get b = some o := by
    intro b o hg
    rw [St.trim_get] at hg
    split at hg
    · exact hg
    · cases hg
  exact ⟨fun b o c k h1 h2 => h.obj b o c k (hb b o h1) h2, fun b b' o o' c k k' h1 h2 h3 h4 => h.inj b b' o o' c k k' (hb _ _ h1) (hb _ _ h2) h3 h4, h.dom, h.img⟩

theorem Ext.untrim {f f' : Inj} {σ σ' : St} {w w' : World} (h : Ext f σ.trim w f' σ' w') : Ext f σ w f' σ' w' := by
  have hb : ∀ b o, σ.trim.get b = some o → σ.get b = some o := by
    intro b o hg
    rw [St.trim_get] at hg
    split at hg
    · exact hg
    · cases hg
  exact ⟨h.le, h.os, h.tape, h.output, h.size, fun c hc hi => h.keep c hc (fun ⟨b, o, k, h1, h2, h3⟩ => hi ⟨b, o, k, hb b o h1, h2, h3⟩),
    fun c hc hi => let ⟨b, o, k, h1, h2, h3⟩ := h.img c hc hi; ⟨b, o, k, hb b o h1, h2, h3⟩, fun c hc hi => let ⟨b, o, k, h1, h3⟩ := h.imgl c hc hi; ⟨b, o, k, hb b o h1, h3⟩, h.new, h.next⟩

/-- A state may be taken to hold nothing behind its numbers. -/
theorem GoP.trim {P : Program} {nt : Nat} {c : Code} {t : TT} {σ : St} {Q : Exit → TT → St → Prop} (h : ∀ s : St, (∀ b, b < σ.next → s.get b = σ.get b) → s.next = σ.next → (∀ b, σ.next ≤ b → s.get b = none) → GoP P nt c t s Q) : GoP P nt c t σ Q := by
  obtain ⟨e, t', σ', h1, h2⟩ := h σ.trim (fun b hb => by rw [St.trim_get, if_pos hb]) rfl (fun b hb => by rw [St.trim_get, if_neg (by omega)])
  refine ⟨e, t', σ', fun T hT => ?_, h2⟩
  obtain ⟨T', hT', h3⟩ := h1 T hT
  refine ⟨T', hT', fun f w a Q hR hL hQ => h3 f w a Q hR.trim hL ?_⟩
  rintro a' w' ⟨f', hx, hR', hL', hd⟩
  exact hQ a' w' ⟨f', hx.untrim, hR', hL', hd⟩

section
variable {P : Program} {ops : Array Oper} {nt : Nat}
variable {dst : Option Tmp} {ty : TypeId} {pos : String} {af : Array Edge} {l : List Oper} {k : Nat} {t : TT} {σ : St} {Q : TT → St → Prop}
/-- A call of a function value. -/
theorem OpsG.callV {x : Operand} {h : FuncId} {cap : Array Value} {xs : Array Operand} {ats : Array TypeId} {vs : List Value} {R : Value → St → Prop} (hx : rdF nt t x = .func (.func h) #[] cap) (hl : xs.toList.map (rdF nt t) = vs) (hc : Con P h (vs ++ cap.toList) σ R)
    (r : ∀ v σ1, R v σ1 → OpsG P ops nt l (k + 1) (putF t dst v) σ1 Q) : OpsG P ops nt (⟨dst, .call ⟨.value x, xs, ats⟩, ty, pos, af, none⟩ :: l) k t σ Q := by
  obtain ⟨v, σ1, hcc, hR⟩ := hc
  obtain ⟨t', σ', h1, h2⟩ := r v σ1 hR
  refine ⟨t', σ', RunsO.step (kOne_ok hcc) rfl ?_ h1, h2⟩
  exact o_call hx (by rw [hl]) kOne_at
theorem o_makeFunc {nid : Option Nat} {K : Kn} {ρ : Operand → Value} {g : Option (Nat × Bool)} {fn : Fn} {cap : Array Operand} {vs : Array Value} (hv : cap.map ρ = vs) : opF P K nid ρ ⟨dst, .makeFunc fn #[] cap, ty, pos, af, g⟩ σ = some (.func fn #[] vs, σ) :=
  o_silent rfl (by subst hv; simp only [silentA]; rfl)
end
end Go.As
