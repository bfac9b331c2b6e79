/- Slices of bytes in the caller's memory: opened, held, shut. -/
import Derived.ChangeSlices
import Derived.Test.YtfffmmgmjlfkoaaGreatE1
import Derived.Test.YtfffmmgmjlfkoaaGreatD17
namespace Go.Proofs.YtfffmmgmjlfkoaaGreat
set_option linter.unusedSimpArgs false
set_option linter.unusedVariables false
open Go.As Go.RowKit Go.WideShapes Go.ChangeShapes Go.ChangeAt

/-- What stands for a value that is there: numbers as they are, all else unseen. -/
theorem ex_abs (f : Inj) : ∀ (n : Nat) (v : Value), SizeOf.sizeOf v ≤ n → ∃ x, VRel f x v ∧ ∀ k m, v = .int k m → x = v
  | 0, v, h => by cases v <;> simp at h
  | n + 1, v, h => by
    have arr : ∀ cs : Array Value, SizeOf.sizeOf cs ≤ n → ∃ xs : Array Value, xs.size = cs.size ∧ ∀ (i : Nat) (x x' : Value), xs.toList[i]? = some x → cs.toList[i]? = some x' → VRel f x x' := by
      intro cs hcs
      have each : ∀ c, c ∈ cs.toList → ∃ x, VRel f x c := by
        intro c hc
        have := Array.sizeOf_lt_of_mem (Array.mem_toList_iff.1 hc)
        obtain ⟨x, hx, -⟩ := ex_abs f n c (by omega)
        exact ⟨x, hx⟩
      have lst : ∀ l : List Value, (∀ c, c ∈ l → ∃ x, VRel f x c) → ∃ xs : List Value, LRel f xs l := by
        intro l
        induction l with
        | nil => exact fun _ => ⟨[], LRel.nil⟩
        | cons c l ih =>
          intro hl
          obtain ⟨x, hx⟩ := hl c List.mem_cons_self
          obtain ⟨xs, hxs⟩ := ih (fun c hc => hl c (List.mem_cons_of_mem _ hc))
          exact ⟨x :: xs, LRel.cons hx hxs⟩
      obtain ⟨xs, h1, h2⟩ := lst cs.toList each
      exact ⟨xs.toArray, by simpa using h1, fun i x x' hx hx' => h2 i x x' (by simpa using hx) hx'⟩
    cases v with
    | int k m => exact ⟨.int k m, .int k m, fun _ _ _ => rfl⟩
    | bool b => exact ⟨.bool b, .bool b, fun _ _ h => by cases h⟩
    | agg cs =>
      obtain ⟨xs, h1, h2⟩ := arr cs (by simp at h; omega)
      exact ⟨.agg xs, .agg _ _ h1 h2, fun _ _ h => by cases h⟩
    | tuple cs =>
      obtain ⟨xs, h1, h2⟩ := arr cs (by simp at h; omega)
      exact ⟨.tuple xs, .tuple _ _ h1 h2, fun _ _ h => by cases h⟩
    | _ => exact ⟨.chan none, .any _ rfl, fun _ _ h => by cases h⟩
noncomputable def absV (f : Inj) (v : Value) : Value := Classical.choose (ex_abs f (SizeOf.sizeOf v) v (Nat.le_refl _))
theorem absV_rel (f : Inj) (v : Value) : VRel f (absV f v) v := (Classical.choose_spec (ex_abs f (SizeOf.sizeOf v) v (Nat.le_refl _))).1
theorem absV_int (f : Inj) (k : IntKind) (n : Int) : absV f (.int k n) = .int k n := (Classical.choose_spec (ex_abs f (SizeOf.sizeOf (Value.int k n)) (.int k n) (Nat.le_refl _))).2 k n rfl

/-- Each block that is there under its own number. -/
def idInj (W : World) : Inj := fun b => if b < W.heap.size then some (b, 0) else none
noncomputable def objOf (W : World) (b : Nat) : Option AObj :=
  match W.heap[b]? with
  | some (.cells cs row _) => some (.cells (cs.toList.map (absV (idInj W))) row .ro)
  | _ => none
noncomputable def stOf (W : World) (b0 b1 : Nat) : St := { heap := ((Tr.nil).set b0 (objOf W b0)).set b1 (objOf W b1), next := W.heap.size }
theorem stOf_get {W : World} {b0 b1 b : Nat} : (stOf W b0 b1).get b = if b = b1 then objOf W b1 else if b = b0 then objOf W b0 else none := by
  show (((Tr.nil).set b0 (objOf W b0)).set b1 (objOf W b1)).get b = _
  rw [Tr.get_set, Tr.get_set, Tr.get_nil]
theorem stOf_some {W : World} {b0 b1 b : Nat} {o : AObj} (h : (stOf W b0 b1).get b = some o) : objOf W b = some o := by
  rw [stOf_get] at h
  split at h
  · rename_i e; rw [e]; exact h
  · split at h
    · rename_i e; rw [e]; exact h
    · cases h
theorem objOf_ro {W : World} {b : Nat} {o : AObj} (h : objOf W b = some o) : ∃ cs row fr, W.heap[b]? = some (.cells cs row fr) ∧ o = .cells (cs.toList.map (absV (idInj W))) row .ro := by
  unfold objOf at h
  split at h
  · rename_i cs row fr hc
    exact ⟨cs, row, fr, hc, (Option.some.inj h).symm⟩
  · cases h
theorem idInj_spec {W : World} {b c k : Nat} (h : idInj W b = some (c, k)) : c = b ∧ k = 0 ∧ b < W.heap.size := by
  unfold idInj at h
  split at h
  · cases h; exact ⟨rfl, rfl, by assumption⟩
  · cases h
theorem Rel.stOf (W : World) (b0 b1 : Nat) : Rel (idInj W) (stOf W b0 b1) W := by
  refine ⟨?_, ?_, ?_, ?_⟩
  · intro b o c k hg hf
    obtain ⟨rfl, rfl, -⟩ := idInj_spec hf
    obtain ⟨cs, row, fr, hc, rfl⟩ := objOf_ro (stOf_some hg)
    refine ⟨_, hc, .cells _ row .ro cs fr [] ⟨by simp, fun i x x' hx hx' => ?_⟩ (by rw [List.append_nil, List.take_of_length_le (by simp)]) (fun h => absurd rfl h) (fun _ h => by cases h)⟩
    rw [List.take_of_length_le (by simp)] at hx'
    rw [List.getElem?_map, hx', Option.map_some, Option.some.injEq] at hx
    rw [← hx]
    exact absV_rel _ _
  · intro b b' o o' c k k' _ _ h1 h2
    have e1 := (idInj_spec h1).1
    have e2 := (idInj_spec h2).1
    omega
  · intro b x h
    obtain ⟨c, k⟩ := x
    exact (idInj_spec h).2.2
  · intro b c k h
    obtain ⟨rfl, -, h⟩ := idInj_spec h
    exact h

/-- A slice of these bytes. -/
def SL (W : World) (v : Value) (bs : List Int) : Prop :=
  (v = .slice none 0 0 ∧ bs = []) ∨ ∃ blk off cap, v = .slice (some ⟨blk, off, none⟩) bs.length cap ∧ bs.length ≤ cap ∧ cap ≤ maxLen ∧ (∃ cs row fr, W.heap[blk]? = some (.cells cs row fr)) ∧ ∀ i, i < bs.length → W.cell? ⟨blk, off + i, none⟩ = some (.int .u8 (bs.getD i 0))

theorem heap_lt {W : World} {b : Nat} {o : Obj} (h : W.heap[b]? = some o) : b < W.heap.size := by
  rw [Array.getElem?_eq_some_iff] at h
  exact h.1
theorem SL.vrel {W : World} {v : Value} {bs : List Int} (h : SL W v bs) : VRel (idInj W) v v := by
  rcases h with ⟨rfl, -⟩ | ⟨blk, off, cap, rfl, h1, h2, ⟨cs, row, fr, h3⟩, -⟩
  · exact .sliceNil
  · have hb := heap_lt h3
    have hm : maxLen = 9223372036854775807 := rfl
    have hu : unk = 9223372036854775808 := rfl
    exact .slice _ _ _ _ _ ⟨rfl, rfl, fun _ => ⟨rfl, 0, by unfold idInj; rw [if_pos hb]⟩, fun h => by omega, fun _ => ⟨rfl, h1, by omega⟩⟩
theorem SL.bts {W : World} {v : Value} {bs : List Int} (h : SL W v bs) {σ : St} (hn : σ.next = W.heap.size) (hσ : ∀ a n c, v = .slice (some a) n c → σ.get a.block = objOf W a.block) : Bts (· < σ.next) σ v bs := by
  rcases h with ⟨rfl, rfl⟩ | ⟨blk, off, cap, rfl, h1, h2, ⟨cs, row, fr, h3⟩, h4⟩
  · exact ⟨none, 0, rfl, fun _ _ => rfl, fun h => absurd rfl h⟩
  · have hg : σ.get blk = some (.cells (cs.toList.map (absV (idInj W))) row .ro) := by rw [hσ _ _ _ rfl]; unfold objOf; rw [h3]
    refine ⟨_, cap, rfl, (fun _ h => by cases h), fun _ => ⟨blk, off, _, _, _, rfl, by show blk < σ.next; rw [hn]; exact heap_lt h3, hg, ?_, .inr h1⟩⟩
    refine List.ext_getElem? fun i => ?_
    by_cases hi : i < bs.length
    · have h5 := h4 i hi
      unfold World.cell? at h5
      rw [h3] at h5
      simp only [Option.isSome_none, Bool.false_eq_true, if_false] at h5
      rw [List.getElem?_take, if_pos hi, List.getElem?_drop, List.getElem?_map, Array.getElem?_toList, h5, Option.map_some, absV_int, List.getElem?_map]
      simp [List.getD, hi]
    · rw [List.getElem?_take, if_neg hi, List.getElem?_eq_none (by simp; omega)]

def blkOfV : Value → Nat
  | .slice (some a) _ _ => a.block
  | _ => 0
theorem joins_calls {W : World} {v0 v1 : Value} {xs ys : List Int} (h0 : SL W v0 xs) (h1 : SL W v1 ys) (hx : Byt xs) (hy : Byt ys) :
    Calls Tryz.prog 5 #[v0, v1] W fun e w' => e = .returned (.bool true) ∧ Below W.heap.size W w' := by
  have hb0 : Bts (· < (stOf W (blkOfV v0) (blkOfV v1)).next) (stOf W (blkOfV v0) (blkOfV v1)) v0 xs := h0.bts rfl (fun a n c h => by
    subst h
    rw [stOf_get]
    split
    · rename_i e; rw [e]
    · exact if_pos rfl)
  have hb1 : Bts (· < (stOf W (blkOfV v0) (blkOfV v1)).next) (stOf W (blkOfV v0) (blkOfV v1)) v1 ys := h1.bts rfl (fun a n c h => by
    subst h
    rw [stOf_get]
    exact if_pos rfl)
  obtain ⟨v, σ', hc, rfl⟩ := playJoins_con hb0 hb1 hx hy
  refine (hc.2 _ W #[v0, v1] (Rel.stOf W _ _) (LRel.cons h0.vrel (LRel.cons h1.vrel LRel.nil))).mono ?_
  rintro e w' ⟨v', rfl, f', hxt, _, hvr⟩
  refine ⟨by rw [hvr.disc rfl], hxt.os, hxt.tape, hxt.output, hxt.size, fun c hc => hxt.keep c hc ?_⟩
  rintro ⟨b, o, k, hg, hw, -⟩
  obtain ⟨cs, row, fr, -, rfl⟩ := objOf_ro (stOf_some hg)
  cases hw

theorem cells5 : Tryz.prog.cellsOf 5 = 1 := by kernel_rfl
set_option maxRecDepth 20000 in
theorem open25 {H : Type} {enc : TypeId × Value → H} {W : World} {base : Nat} {v : Value} {d : DataW H} {ps : List MemPlace} (hv : Value.okWide Tryz.prog W .any base 25 v) (h : DataW.Trod enc Tryz.prog W 0 (fun _ => true) true 25 v d ps) :
    ∃ bs, SL W v bs ∧ Byt bs ∧ ∀ (W' : World) (sp : Nat → Bool), Below W.heap.size W W' → (∀ p ∈ ps, sp p.block = true) → DataW.Trod enc Tryz.prog W' 0 sp true 25 v d ps := by
  obtain ⟨a0, len, cap, rfl⟩ := okWide_slice Tryz.underlying25 hv
  obtain ⟨fuel, hf⟩ := h
  rcases open_ints Tryz.underlying25 Tryz.underlying5 cells5 hf with ⟨hcs, hx⟩ | ⟨a, len', cap', zs, hcs, _, hl, hm, hz, hx, hcell, hwz⟩
  · simp [Value.cells] at hcs
    obtain ⟨rfl, rfl, rfl⟩ := hcs
    simp only [Prod.mk.injEq] at hx
    obtain ⟨rfl, rfl⟩ := hx
    exact ⟨[], .inl ⟨rfl, rfl⟩, (fun b hb => by cases hb), fun W' sp _ _ => shut_slice_nil Tryz.underlying25⟩
  · simp [Value.cells] at hcs
    obtain ⟨rfl, rfl, rfl⟩ := hcs
    simp only [Prod.mk.injEq] at hx
    obtain ⟨rfl, rfl⟩ := hx
    simp only [if_true] at hz
    have hhas : W.has Tryz.prog .any base a 5 cap := by
      simp only [Value.okWide, Cell.okWide, Cell.ok, Tryz.underlying25] at hv
      exact hv.2.2
    obtain ⟨-, hsp0, row, cells, hsh, -⟩ := hhas
    obtain ⟨blk, off, spot⟩ := a
    simp only at hsp0 hsh
    subst hsp0
    have hblk : ∃ cs row fr, W.heap[blk]? = some (.cells cs row fr) := by
      unfold World.shape? at hsh
      split at hsh
      · rename_i c e fr hc; exact ⟨c, e, fr, hc⟩
      · cases hsh
    have hlt : blk < W.heap.size := let ⟨_, _, _, h⟩ := hblk; heap_lt h
    have hzl : (zs.take len).length = len := by rw [List.length_take]; omega
    refine ⟨zs.take len, .inr ⟨blk, off, cap, by rw [hzl], by rw [hzl]; exact hl, hm, hblk, fun i hi => ?_⟩, fun b hb => ?_, fun W' sp hbw hsp => ?_⟩
    · rw [hzl] at hi
      have := hcell i (by omega)
      rw [add_plain] at this
      rw [this]
      simp [List.getD, hi]
    · have := bounds_u8 (hwz b (List.mem_of_mem_take hb))
      omega
    · have hcell' : ∀ i, i < zs.length → W'.cell? ((⟨blk, off, none⟩ : Addr).add i) = some (.int .u8 (zs.getD i 0)) := fun i hi => by
        rw [hbw.cell (by rw [add_plain]; exact hlt)]; exact hcell i hi
      by_cases hz0 : zs.length = 0
      · have hc0 : cap = 0 := by omega
        have hl0 : len = 0 := by omega
        subst hc0; subst hl0
        have t0 := shut_ints (enc := enc) (w := W') (base := 0) (spare := sp) (held := true) (a := ⟨blk, off, none⟩) (len := 0) (cap := 0) (zs := zs) 0 Tryz.underlying25 Tryz.underlying5 cells5 (Nat.zero_le _) (Nat.le_refl _) hm (by simp [hz0]) hcell' hwz
        exact ⟨2, by simpa [Value.cells] using t0⟩
      · have hspb : sp blk = true := hsp (.cell blk off) (MemPlace.mem_row.2 ⟨0, by omega, by simp⟩)
        have t0 := shut_ints (enc := enc) (w := W') (base := 0) (spare := sp) (held := true) (a := ⟨blk, off, none⟩) (len := len) (cap := cap) (zs := zs) 0 Tryz.underlying25 Tryz.underlying5 cells5 (Nat.zero_le _) hl hm (by simp [hspb, hz]) hcell' hwz
        exact ⟨2, by simpa [Value.cells] using t0⟩
end Go.Proofs.YtfffmmgmjlfkoaaGreat
