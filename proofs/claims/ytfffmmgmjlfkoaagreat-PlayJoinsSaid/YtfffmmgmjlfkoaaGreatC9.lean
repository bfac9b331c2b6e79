/- The contracts as one table: that it tells the truth. -/
import Derived.Test.YtfffmmgmjlfkoaaGreatC8
namespace Go.Proofs.YtfffmmgmjlfkoaaGreat
set_option linter.unusedSimpArgs false
set_option linter.unusedVariables false
open Go.As

def kAlt (a b : Kn) : Kn := fun g args σ => match a g args σ with | some r => some r | none => b g args σ
theorem kAlt_ok {P : Program} {a b : Kn} (ha : a.ok P) (hb : b.ok P) : (kAlt a b).ok P := by
  intro g args σ v σ' h
  unfold kAlt at h
  split at h
  · rename_i r hr; cases h; exact ha g args σ v σ' hr
  · exact hb g args σ v σ' h

/-- graft.group. -/
def kGrp : Kn := fun g args σ =>
  match Nat.beq g 154 with
  | true =>
    match args with
    | [.map (some r), .int .i64 (.ofNat n)] =>
      match σ.get r with
      | some (.map .i64 es) =>
        match Nat.blt r σ.next && Nat.blt n 256 && es.all fun q => isLfB q.2 with
        | true => (match grpK es (.ofNat n) with | (a, b) => some (.tuple #[.bool a, .bool b], σ))
        | false => none
      | _ => none
    | _ => none
  | false => none

theorem kGrp_ok : kGrp.ok Tryz.prog := by
  intro g args σ v σ' h
  unfold kGrp at h
  split at h
  · rename_i hg
    have hg := Nat.eq_of_beq_eq_true hg
    subst hg
    split at h
    · rename_i r n
      split at h
      · rename_i es hr
        split at h
        · rename_i hc
          simp only [Bool.and_eq_true, Nat.blt_eq, List.all_eq_true] at hc
          obtain ⟨⟨h1, h2⟩, h3⟩ := hc
          cases h
          exact group_ok hr h1 (Int.natCast_nonneg n) (by show (n : Int) < 256; omega) (fun q hq => isLfB_spec (h3 q hq))
        · cases h
      · cases h
    · cases h
  · cases h

/-- graft.twin. -/
def kTwin : Kn := fun g args σ =>
  match Nat.beq g 71 with
  | true =>
    match args with
    | [.map (some r)] =>
      match σ.get r with
      | some (.map .i64 es) =>
        match Nat.blt r σ.next && es.all fun q => isLfB q.2 with
        | true => some (.map (some σ.next), σ.add (.map .i64 es))
        | false => none
      | _ => none
    | _ => none
  | false => none

theorem kTwin_ok : kTwin.ok Tryz.prog := by
  intro g args σ v σ' h
  unfold kTwin at h
  split at h
  · rename_i hg
    have hg := Nat.eq_of_beq_eq_true hg
    subst hg
    split at h
    · rename_i r
      split at h
      · rename_i es hr
        split at h
        · rename_i hc
          simp only [Bool.and_eq_true, Nat.blt_eq, List.all_eq_true] at hc
          cases h
          exact twin_ok hr hc.1 (fun q hq => isLfB_spec (hc.2 q hq))
        · cases h
      · cases h
    · cases h
  · cases h

/-- graft.less, where all is wanted. -/
def kLess : Kn := fun g args σ =>
  match Nat.beq g 103 with
  | true =>
    match args with
    | [_, .map (some r), want] =>
      match σ.get r with
      | some (.map .i64 []) => some (.tuple #[], σ)
      | some (.map .i64 es) =>
        match want with
        | .slice (some ⟨b, off, none⟩) n c =>
          match rowOf σ.get (.slice (some ⟨b, off, none⟩) n c) with
          | some xs =>
            match Nat.blt b σ.next && es.all fun q => xs.contains q.1 with
            | true => some (.tuple #[], σ)
            | false => none
          | none => none
        | _ => none
      | _ => none
    | _ => none
  | false => none

theorem kLess_ok : kLess.ok Tryz.prog := by
  intro g args σ v σ' h
  unfold kLess at h
  split at h
  · rename_i hg
    have hg := Nat.eq_of_beq_eq_true hg
    subst hg
    split at h
    · rename_i tv r want
      split at h
      · rename_i hr
        cases h
        exact less_ok (xs := []) hr (fun h => absurd rfl h) (fun h => absurd rfl h) (fun p hp => by cases hp)
      · rename_i es _ hr
        split at h
        · rename_i b off n c
          split at h
          · rename_i xs hxs
            split at h
            · rename_i hc
              simp only [Bool.and_eq_true, Nat.blt_eq, List.all_eq_true] at hc
              cases h
              exact less_ok hr (fun _ => hxs) (fun _ b' off' n' c' e => by cases e; exact hc.1) hc.2
            · cases h
          · cases h
        · cases h
      · cases h
    · cases h
  · cases h

/-- The RAM of a new pointer is only told by its size. -/
def forgetV (v : Value) (σ : St) : Option (Value × St) :=
  match v with
  | .pointer (some p) =>
    match σ.get p.block with
    | some (.cells (.slice (some a) _ _ :: _) _ _) =>
      match σ.get a.block with
      | some (.cells cs _ .ex) => some (v, σ.put a.block (.blob cs.length))
      | _ => none
    | _ => none
  | _ => none

/-- ram.New. -/
noncomputable def kNew : Kn := fun g args σ =>
  match Nat.beq g 35 with
  | true => (match kK Tryz.prog noK 40 35 args σ with | some (v, σ') => forgetV v σ' | none => none)
  | false => none

theorem kNew_ok : kNew.ok Tryz.prog := by
  intro g args σ v σ' h
  unfold kNew at h
  split at h
  · rename_i hg
    have hg := Nat.eq_of_beq_eq_true hg
    subst hg
    split at h
    · rename_i v1 σ1 h1
      obtain ⟨hc, hca⟩ := kK_ok (noK_ok _) mixed 40 _ _ _ _ _ h1
      refine ⟨hc, ?_⟩
      unfold forgetV at h
      split at h
      · split at h
        · split at h
          · rename_i cs e hb
            cases h
            exact Go.Proofs.YtfffmmgmjlfkoaaGreat.CallsA.forget hca hb (by decide)
          · cases h
        · cases h
      · cases h
    · cases h
  · cases h

noncomputable def kB : Kn := kAlt kGrp (kAlt kCon (kAlt kTwin (kAlt kLess kNew)))
theorem kB_ok : kB.ok Tryz.prog := kAlt_ok kGrp_ok (kAlt_ok kCon_ok (kAlt_ok kTwin_ok (kAlt_ok kLess_ok kNew_ok)))
end Go.Proofs.YtfffmmgmjlfkoaaGreat
