/- The contracts as one table, quick to look up. -/
import Derived.Test.YtfffmmgmjlfkoaaGreatC7
namespace Go.Proofs.YtfffmmgmjlfkoaaGreat
set_option linter.unusedSimpArgs false
set_option linter.unusedVariables false
open Go.As

def isLfB : Value → Bool
  | .agg ⟨[.int .i64 _, .int .i64 _]⟩ => true
  | _ => false
theorem isLfB_spec {v : Value} (h : isLfB v = true) : isLf v := by
  unfold isLfB at h
  split at h
  · exact ⟨_, _, rfl⟩
  · cases h

theorem lk_mem {es : List (Int × Value)} {n : Int} {v : Value} (h : lk es n = some v) : (n, v) ∈ es := by
  induction es with
  | nil => cases h
  | cons p es ih =>
    obtain ⟨m, u⟩ := p
    simp only [lk] at h
    split at h
    · rename_i e; cases h; subst e; exact List.mem_cons_self
    · exact List.mem_cons_of_mem _ (ih h)

def inGrp (k g : Int) : Bool :=
  match k, g with
  | .ofNat a, .ofNat b => Nat.beq (Nat.div a (nat_lit 16)) b
  | _, _ => false

theorem inGrp_of {g i : Int} (h0 : 0 ≤ g) (h1 : 0 ≤ i) (h2 : i < 16) : inGrp (g * 16 + i) g = true := by
  obtain ⟨a, rfl⟩ := Int.eq_ofNat_of_zero_le h0
  obtain ⟨b, rfl⟩ := Int.eq_ofNat_of_zero_le h1
  have : ((a : Int) * 16 + (b : Int)) = Int.ofNat (a * 16 + b) := by simp
  rw [this]
  show Nat.beq ((a * 16 + b) / 16) a = true
  have hb : b < 16 := by omega
  have : (a * 16 + b) / 16 = a := by omega
  rw [this]
  exact Nat.beq_refl a

theorem grp_none {es : List (Int × Value)} {g f p : Int} (h0 : 0 ≤ g) (h : ∀ q ∈ es, inGrp q.1 g = false) : ∀ (m : Nat) (i : Int) (s w : Bool), 0 ≤ i → i + m = 16 → 0 < m → grp es g f p m i s w = (s, false)
  | 0, i, s, w, _, _, hm => absurd hm (Nat.lt_irrefl 0)
  | m + 1, i, s, w, hi, him, _ => by
    have hl : lk es (g * 16 + i) = none := by
      cases hl : lk es (g * 16 + i) with
      | none => rfl
      | some v =>
        have h1 := h _ (lk_mem hl)
        rw [inGrp_of h0 hi (by omega)] at h1
        cases h1
    rw [grp, hl]
    simp only
    by_cases hm : m = 0
    · subst hm; rfl
    · exact grp_none h0 h m (i + 1) s false (by omega) (by omega) (Nat.pos_of_ne_zero hm)

def grpK (es : List (Int × Value)) (g : Int) : Bool × Bool :=
  match es.all fun q => !inGrp q.1 g with
  | true => (false, false)
  | false => grp es g (lfOf ((lk es (g * 16)).getD (lf 0 0))).1 (lfOf ((lk es (g * 16)).getD (lf 0 0))).2 16 0 false (lk es (g * 16)).isSome

theorem grpK_eq {es : List (Int × Value)} {g : Int} (h0 : 0 ≤ g) : grpK es g = grp es g (lfOf ((lk es (g * 16)).getD (lf 0 0))).1 (lfOf ((lk es (g * 16)).getD (lf 0 0))).2 16 0 false (lk es (g * 16)).isSome := by
  unfold grpK
  split
  · rename_i h
    rw [List.all_eq_true] at h
    exact (grp_none h0 (fun q hq => by simpa using h q hq) 16 0 false _ (Int.le_refl 0) rfl (by decide)).symm
  · rfl

theorem grpCode_eq : Tryz.f154.body = some grpCode := by kernel_rfl

theorem bools_back {a b : Bool} : ∀ (f f' : Inj) (v' : Value), Inj.le f f' → VRel f' (.tuple #[.bool a, .bool b]) v' → VRel f (.tuple #[.bool a, .bool b]) v' := by
  intro f f' v' hl hv
  have h0 : VRel f (.tuple #[.bool a, .bool b]) (.tuple #[.bool a, .bool b]) := VRel.closed f rfl
  exact h0.back hl hv

theorem group_ok {σ : St} {r : Nat} {es : List (Int × Value)} {g : Int} (hr : σ.get r = some (.map .i64 es)) (hrn : r < σ.next) (hg0 : 0 ≤ g) (hg1 : g < 256) (hes : ∀ q ∈ es, isLf q.2) :
    Callable Tryz.prog 154 ∧ CallsA Tryz.prog 154 [.map (some r), .int .i64 g] σ (.tuple #[.bool (grpK es g).1, .bool (grpK es g).2]) σ := by
  have h := call_of_evP (noK_ok _) mixed (fn := Tryz.f154) (n := 20) (args := [.map (some r), .int .i64 g]) (R := fun v σ' => v = .tuple #[.bool (grpK es g).1, .bool (grpK es g).2] ∧ Keeps σ σ') Tryz.func154 grpCode_eq (by kernel_rfl) (by show 2 ≤ 56; omega)
    ((grp_walk hr hrn hg0 hg1 (fun n v hv => hes _ (lk_mem hv))).mono fun e t σ' ⟨h1, h2, h3, h4⟩ => ⟨.inl h1, [.bool (grpK es g).1, .bool (grpK es g).2], by rw [grpK_eq hg0, ← h3, ← h4]; rfl, rfl, h2⟩)
  obtain ⟨v, σ', ⟨rfl, hk⟩, h1, h2⟩ := h
  exact ⟨h1, h2.keep bools_back (fun b o hb ho => by rw [hk.get b hb]; exact ho)⟩

/-! ### Cells that are forgotten -/
theorem CallsA.forget {P : Program} {g : FuncId} {args : List Value} {σ σ' : St} {v : Value} {b : Nat} {cs : List Value} {e : TypeId} {kd : Kd} (h : CallsA P g args σ v σ') (hb : σ'.get b = some (.cells cs e kd)) (hkd : kd ≠ .ro) : CallsA P g args σ v (σ'.put b (.blob cs.length)) := by
  intro f w args' hR ha
  refine (h f w args' hR ha).mono ?_
  rintro e2 w' ⟨v', rfl, f', hx, hR', hvr⟩
  have hw : (AObj.cells cs e kd).writable = true := by cases kd <;> first | rfl | exact absurd rfl hkd
  have hback : ∀ c o, (σ'.put b (.blob cs.length)).get c = some o → ∃ o2, σ'.get c = some o2 ∧ (o.writable = true → o2.writable = true) := by
    intro c o h1
    rw [St.get_put] at h1
    split at h1
    · rename_i e3; subst e3; exact ⟨_, hb, fun _ => hw⟩
    · exact ⟨o, h1, fun h => h⟩
  refine ⟨v', rfl, f', ⟨hx.le, hx.os, hx.tape, hx.output, hx.size, hx.keep, ?_, ?_, hx.new, hx.next⟩, ⟨?_, ?_, hR'.dom, hR'.img⟩, hvr⟩
  · rintro c hc ⟨i, o, k, h1, h2, h3⟩
    obtain ⟨o2, h4, h5⟩ := hback i o h1
    exact hx.img c hc ⟨i, o2, k, h4, h5 h2, h3⟩
  · rintro c hc ⟨i, o, k, h1, h3⟩
    obtain ⟨o2, h4, _⟩ := hback i o h1
    exact hx.imgl c hc ⟨i, o2, k, h4, h3⟩
  · intro i o c k h1 h2
    rw [St.get_put] at h1
    split at h1
    · rename_i e3
      subst e3
      cases h1
      obtain ⟨cs', fr, h3, h4, h5, h6, _⟩ := hR'.cells hb h2
      exact ⟨_, h3, .blob _ _ _ _ h5 (h6 hkd)⟩
    · exact hR'.obj i o c k h1 h2
  · intro i i' o o' c k k' h1 h2 h3 h4
    obtain ⟨o2, h5, _⟩ := hback i o h1
    obtain ⟨o3, h6, _⟩ := hback i' o' h2
    exact hR'.inj i i' o2 o3 c k k' h5 h6 h3 h4
end Go.Proofs.YtfffmmgmjlfkoaaGreat
