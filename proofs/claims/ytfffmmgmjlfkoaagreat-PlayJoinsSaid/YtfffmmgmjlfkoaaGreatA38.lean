/- A value is equal to itself. -/
import Derived.Test.YtfffmmgmjlfkoaaGreatA37
import Derived.Laws.StructEq
namespace Go.As
set_option linter.unusedSimpArgs false
set_option linter.unusedVariables false

/-- Of such a type, without floats, addresses. -/
def shp (P : Program) : Nat → TypeId → Value → Bool
  | 0, _, _ => false
  | d + 1, t, v =>
    match P.underlying t, v with
    | some .bool, .bool _ => true
    | some (.int _), .int _ _ => true
    | some .string, .string _ => true
    | some (.struct fs), .agg cs => discV (.agg cs) && !P.stoodInHeld t && fs.toList.all fun f => match partL P f.type cs.toList f.offset with | some u => shp P d f.type u | none => false
    | some (.array len e), .agg cs => discV (.agg cs) && match P.info? e with | some it => (List.range len).all fun i => (match partL P e cs.toList (i * it.size) with | some u => shp P d e u | none => false) | none => false
    | _, _ => false

theorem part_run {P : Program} {t : TypeId} {cs : Array Value} {off : Nat} {v : Value} (hd : discV (.agg cs) = true) (h : partL P t cs.toList off = some v) (w : World) : (Go.part t cs off).run P w = .ok v w := by
  have hcl : closedV (.agg cs) = true := by
    obtain ⟨l⟩ := cs
    simp only [discV, List.all_eq_true] at hd
    simp only [closedV, List.all_eq_true]
    intro x hx
    have := hd x hx
    unfold disc1 at this
    split at this <;> first | rfl | cases this
  obtain ⟨l⟩ := cs
  have hl : LRel (fun _ => Option.none) l l := by
    refine ⟨rfl, fun i x x' hx hx' => ?_⟩
    rw [hx] at hx'
    cases hx'
    exact VRel.plain _ (List.all_eq_true.1 hcl x (List.mem_of_getElem? hx))
  obtain ⟨v', h1, h2⟩ := partL_ok (w := w) (cs' := ⟨l⟩) hl h
  have hdv : discV v = true := by
    have hall : ∀ x ∈ l, disc1 x = true := by simpa [discV] using hd
    unfold partL at h
    split at h
    · split at h
      · split at h
        · cases h
          simp only [discV, List.all_eq_true]
          intro x hx
          exact hall x (List.mem_of_mem_drop (List.mem_of_mem_take hx))
        · cases h
      · have := hall v (List.mem_of_getElem? h)
        revert this
        cases v <;> simp [disc1, discV]
    · cases h
  rw [h2.disc hdv] at h1
  exact h1

theorem selfEq {P : Program} : ∀ (d : Nat) (t : TypeId) (v : Value) (w : World) (D : Nat), shp P d t v = true → d ≤ D → (Op.equalIn D t v v).run P w = .ok true w
  | 0, t, v, w, D, h, _ => by cases h
  | d + 1, t, v, w, D, h, hD => by
    obtain ⟨D, rfl⟩ : ∃ D', D = D' + 1 := ⟨D - 1, by omega⟩
    unfold shp at h
    split at h
    · rename_i b hu; simp [Op.equalIn, run_underlying hu]
    · rename_i k n hu; simp [Op.equalIn, run_underlying hu]
    · rename_i s hu
      rw [run_equalIn_string w D t s s hu]
      simp
    · rename_i fs cs hu
      simp only [Bool.and_eq_true, Bool.not_eq_true', List.all_eq_true] at h
      obtain ⟨⟨h1, h2⟩, h3⟩ := h
      have hf : P.fieldsOf t = fs := by unfold Program.fieldsOf; rw [hu]
      rw [run_equalIn_struct w D t cs cs (by rw [hf]; exact hu) h2, hf]
      have key : ∀ l : List Field, (∀ f ∈ l, f ∈ fs.toList) → (Op.eqFields D cs cs l).run P w = .ok true w := by
        intro l
        induction l with
        | nil => intro _; rfl
        | cons f l ih =>
          intro hl
          have hff := h3 f (hl f List.mem_cons_self)
          rw [Op.eqFields]
          by_cases hn : f.name ≠ "_"
          · rw [if_pos hn]
            cases hp : partL P f.type cs.toList f.offset with
            | none => rw [hp] at hff; cases hff
            | some u =>
              rw [hp] at hff
              simp only [Sem.run_bind, part_run h1 hp w, Result.andThen_ok, selfEq d f.type u w D hff (by omega)]
              exact ih (fun g hg => hl g (List.mem_cons_of_mem _ hg))
          · rw [if_neg hn]
            exact ih (fun g hg => hl g (List.mem_cons_of_mem _ hg))
      exact key _ (fun f hf => hf)
    · rename_i len e cs hu
      simp only [Bool.and_eq_true] at h
      obtain ⟨h1, h2⟩ := h
      split at h2
      · rename_i it hi
        simp only [List.all_eq_true, List.mem_range] at h2
        simp only [Op.equalIn, Sem.run_bind, run_underlying hu, Result.andThen_ok, run_sizeOf hi]
        simp only [Std.Legacy.Range.forIn_eq_forIn_range', Std.Legacy.Range.size]
        have key : ∀ (l : List Nat), (∀ i ∈ l, i < len) → ((forIn l ((none, ()) : Option Bool × Unit) fun i _ => do
            let x ← part e cs (i * it.size)
            let y ← part e cs (i * it.size)
            let r ← Op.equalIn D e x y
            if (!r) = true then pure (ForInStep.done (some false, ())) else pure (ForInStep.yield (none, ())) : Sem (Option Bool × Unit))).run P w = .ok (none, ()) w := by
          intro l
          induction l with
          | nil => intro _; rfl
          | cons i l ih =>
            intro hl
            have hff := h2 i (hl i List.mem_cons_self)
            cases hp : partL P e cs.toList (i * it.size) with
            | none => rw [hp] at hff; cases hff
            | some u =>
              rw [hp] at hff
              simp only [List.forIn_cons, Sem.run_bind, part_run h1 hp w, Result.andThen_ok, selfEq d e u w D hff (by omega), Bool.not_true, Bool.false_eq_true, if_false, Sem.run_pure]
              exact ih (fun j hj => hl j (List.mem_cons_of_mem _ hj))
        rw [key _ (fun i hi => by simpa using hi), Result.andThen_ok]
        rfl
      · cases h2
    · cases h

theorem eq_self {P : Program} {t : TypeId} {xo yo : Operand} {cs : Array Value} {d : Nat} (hd : d ≤ 10000) (h : shp P d t (.agg cs) = true) (hdv : discV (.agg cs) = true) (hg : P.eqGuardType P.depth t = false) :
    binA P .eql t xo yo (.agg cs) (.agg cs) = some (.bool true) ∧ binA P .neq t xo yo (.agg cs) (.agg cs) = some (.bool false) := by
  have key : ∀ (op : BinOp) (r : Bool), (binOp op t (.agg cs) (.agg cs)).run P default = .ok (.bool r) default → binA P op t xo yo (.agg cs) (.agg cs) = some (.bool r) := by
    intro op r hr
    have hp : pureRun P (do eqGuard op t xo yo (.agg cs) (.agg cs); binOp op t (.agg cs) (.agg cs)) = some (.bool r) := by
      unfold pureRun
      rw [Sem.run_bind, run_eqGuard_agg _ _ _ _ _ _ _ hg, Result.andThen_ok, hr]
    unfold binA
    split
    · rename_i h1 h2 h3; cases h2
    · rename_i h1 h2 h3; cases h2
    · rename_i h1 h2 h3; cases h2
    · rw [hdv, hp]
      rfl
  have hs := selfEq d t (.agg cs) default 10000 h hd
  exact ⟨key .eql true (by rw [run_eql_struct, hs]; rfl), key .neq false (by rw [run_neq_struct, hs]; rfl)⟩
end Go.As
