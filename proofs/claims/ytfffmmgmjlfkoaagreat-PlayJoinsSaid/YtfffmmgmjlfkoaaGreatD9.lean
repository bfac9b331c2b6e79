/- play: steps, what bytes say -/
import Derived.Test.YtfffmmgmjlfkoaaGreatD8
namespace Go.Proofs.YtfffmmgmjlfkoaaGreat
set_option linter.unusedSimpArgs false
set_option linter.unusedVariables false
open Go.As

abbrev u64s (l : List Int) : List Value := l.map (Value.int .u64)
/-- Steps that bytes say. -/
inductive Stp where
  | call (cpu : Int) (r : List Int)
  | load (cpu page word : Int)
  | store (cpu page word v : Int)
  | tick (cpu : Int)
  | line (cpu n : Int)
abbrev z8 : List Value := [.int .u64 0, .int .u64 0, .int .u64 0, .int .u64 0, .int .u64 0, .int .u64 0, .int .u64 0, .int .u64 0]
def Stp.cells : Stp → List Value
  | .call c r => .int .i64 1 :: .int .i64 c :: (u64s r ++ [.int .i64 0, .int .i64 0, .int .u64 0, .int .i64 0])
  | .load c p w => .int .i64 2 :: .int .i64 c :: (z8 ++ [.int .i64 p, .int .i64 w, .int .u64 0, .int .i64 0])
  | .store c p w v => .int .i64 3 :: .int .i64 c :: (z8 ++ [.int .i64 p, .int .i64 w, .int .u64 v, .int .i64 0])
  | .tick c => .int .i64 4 :: .int .i64 c :: (z8 ++ [.int .i64 0, .int .i64 0, .int .u64 0, .int .i64 0])
  | .line c n => .int .i64 5 :: .int .i64 c :: (z8 ++ [.int .i64 0, .int .i64 0, .int .u64 0, .int .i64 n])

/-- Registers behind j of them were read. -/
def rg (l : List Int) (j : Nat) : List Int := (List.range j).map (fun i => rnV 8 (l.drop (8 * i))) ++ List.replicate (8 - j) 0
theorem rg_length {l : List Int} {j : Nat} (h : j ≤ 8) : (rg l j).length = 8 := by simp [rg]; omega
theorem rg_step {l : List Int} {j : Nat} (h : j < 8) : (rg l j).set j (rnV 8 (l.drop (8 * j))) = rg l (j + 1) := by
  unfold rg
  rw [List.set_append_right _ _ (by simp), List.range_succ, List.map_append, List.append_assoc]
  congr 1
  rw [show 8 - j = (8 - (j + 1)) + 1 by omega, List.replicate_succ]
  simp
theorem splice_one {l : List Value} {k : Nat} {v : Value} (h : k < l.length) : splice l k [v] = l.set k v := by rw [← splice_cons l k v [] h, splice_nil]
theorem splice_regs {R : List Int} {x : Int} {a b : Value} {zz : List Value} {i : Nat} (h : i < R.length) : splice (a :: b :: (u64s R ++ zz)) (0 + 2 + i) [Value.int .u64 x] = a :: b :: (u64s (R.set i x) ++ zz) := by
  rw [splice_one (by simp; omega)]
  rw [show 0 + 2 + i = i + 1 + 1 by omega, List.set_cons_succ, List.set_cons_succ, List.set_append_left _ _ (by simpa using h)]
  show _ = a :: b :: ((R.set i x).map (Value.int .u64) ++ zz)
  rw [List.map_set]

def bodyS (k : Int) (l : List Int) : Option (Stp × List Int) :=
  if k = 1 then
    if l.length < 2 ∨ (l.drop 2).length < 8 * (rnV 1 (l.drop 1) % 9).toNat then none else some (.call (rnV 1 l) (rg (l.drop 2) (rnV 1 (l.drop 1) % 9).toNat), (l.drop 2).drop (8 * (rnV 1 (l.drop 1) % 9).toNat))
  else if k = 2 then (if l.length < 4 then none else some (.load (rnV 1 l) (rnV 2 (l.drop 1)) (rnV 1 (l.drop 3)), l.drop 4))
  else if k = 3 then (if l.length < 12 then none else some (.store (rnV 1 l) (rnV 2 (l.drop 1)) (rnV 1 (l.drop 3)) (rnV 8 (l.drop 4)), l.drop 12))
  else if k = 4 then (if l.length < 1 then none else some (.tick (rnV 1 l), l.drop 1))
  else (if l.length < 2 then none else some (.line (rnV 1 l) (rnV 1 (l.drop 1)), l.drop 2))
theorem bodyS_len {k : Int} {l : List Int} {s : Stp} {r : List Int} (h : bodyS k l = some (s, r)) : r.length ≤ l.length := by
  unfold bodyS at h
  split at h
  · split at h
    · cases h
    · cases h; simp only [List.length_drop]; omega
  · split at h
    · split at h
      · cases h
      · cases h; simp
    · split at h
      · split at h
        · cases h
        · cases h; simp
      · split at h
        · split at h
          · cases h
          · cases h; simp
        · split at h
          · cases h
          · cases h; simp
def decS (bs : List Int) : List Stp :=
  if h0 : bs = [] then [] else
  if rnV 1 bs % 8 < 1 ∨ 5 < rnV 1 bs % 8 then decS (bs.drop 1) else
  match h : bodyS (rnV 1 bs % 8) (bs.drop 1) with
  | none => []
  | some (s, r) => s :: decS r
termination_by bs.length
decreasing_by
  · have := List.length_pos_iff.2 h0
    simp only [List.length_drop]; omega
  · have := List.length_pos_iff.2 h0
    have := bodyS_len h
    simp only [List.length_drop] at this; omega
theorem decS_nil : decS [] = [] := by rw [decS]; rfl
theorem decS_skip {bs : List Int} (h0 : bs ≠ []) (h : rnV 1 bs % 8 < 1 ∨ 5 < rnV 1 bs % 8) : decS bs = decS (bs.drop 1) := by
  rw [decS, dif_neg h0, if_pos h]
theorem decS_none {bs : List Int} (h0 : bs ≠ []) (h : ¬ (rnV 1 bs % 8 < 1 ∨ 5 < rnV 1 bs % 8)) (hb : bodyS (rnV 1 bs % 8) (bs.drop 1) = none) : decS bs = [] := by
  rw [decS, dif_neg h0, if_neg h]
  split
  · rfl
  · rename_i hx; rw [hb] at hx; cases hx
theorem decS_some {bs : List Int} {s : Stp} {r : List Int} (h0 : bs ≠ []) (h : ¬ (rnV 1 bs % 8 < 1 ∨ 5 < rnV 1 bs % 8)) (hb : bodyS (rnV 1 bs % 8) (bs.drop 1) = some (s, r)) : decS bs = s :: decS r := by
  rw [decS, dif_neg h0, if_neg h]
  split
  · rename_i hx; rw [hb] at hx; cases hx
  · rename_i hx; rw [hb] at hx; cases hx; rfl
theorem decS_length : ∀ (n : Nat) (bs : List Int), bs.length ≤ n → (decS bs).length ≤ bs.length
  | 0, bs, h => by rw [List.eq_nil_of_length_eq_zero (by omega : bs.length = 0), decS_nil]; exact Nat.le_refl _
  | n + 1, bs, h => by
    by_cases h0 : bs = []
    · rw [h0, decS_nil]; exact Nat.le_refl _
    · have hp := List.length_pos_iff.2 h0
      by_cases hk : rnV 1 bs % 8 < 1 ∨ 5 < rnV 1 bs % 8
      · rw [decS_skip h0 hk]
        have := decS_length n (bs.drop 1) (by rw [List.length_drop]; omega)
        rw [List.length_drop] at this
        omega
      · cases hb : bodyS (rnV 1 bs % 8) (bs.drop 1) with
        | none => rw [decS_none h0 hk hb]; simp
        | some p =>
          obtain ⟨s, r⟩ := p
          rw [decS_some h0 hk hb]
          have h1 := bodyS_len hb
          rw [List.length_drop] at h1
          have := decS_length n r (by omega)
          simp only [List.length_cons]; omega

structure DInv (σ1 σ : St) (rb sb : Nat) (rv : Value) (bs : List Int) (sh : Bool) (sc : List Value) (vres : Value) (ls : List (List Value)) (b : Nat) : Prop where
  but : But σ1 σ fun _ => False
  rdo : σ.get rb = some (.cells [rv, .bool sh] 50 .ex)
  bts : Bts (· < σ1.next) σ rv bs
  byt : Byt bs
  sbo : σ.get sb = some (.cells sc 30 .ex)
  row : RowN σ 30 14 vres ls b
  rbn : σ1.next ≤ rb ∧ rb < σ.next
  sbn : σ1.next ≤ sb ∧ sb < σ.next
  bn : ls ≠ [] → σ1.next ≤ b ∧ b < σ.next ∧ b ≠ rb ∧ b ≠ sb
  ne : rb ≠ sb

theorem DInv.reads {σ1 σ : St} {rb sb b n : Nat} {rv vres : Value} {bs : List Int} {sh : Bool} {sc : List Value} {ls : List (List Value)} (h : DInv σ1 σ rb sb rv bs sh sc vres ls b) (hn1 : 1 ≤ n) (hn8 : n ≤ 8) :
    Con Tryz.prog 14 [.pointer (some ⟨rb, 0, none⟩), .int .i64 (n : Int)] σ (fun v' σ' => v' = .int .u64 (rnV n bs) ∧ ∃ rv', DInv σ1 σ' rb sb rv' (bs.drop n) (sh || decide (bs.length < n)) sc vres ls b) := by
  refine (num_con (S := (· < σ1.next)) h.rdo (by simp) h.rbn.2 (by have := h.rbn.1; omega) h.bts h.byt hn1 hn8).mono ?_
  rintro v' σ' ⟨rfl, v2, h1, h2, h3⟩
  have hn := h.but.next
  have hn' := h3.next
  have hr := h.rbn
  have hs := h.sbn
  refine ⟨rfl, v2, ⟨⟨fun c hc _ => ?_, by omega⟩, h1, h2, h.byt.drop n, ?_, h.row.keep fun hl => ?_, by omega, by omega, fun hl => ?_, h.ne⟩⟩
  · rw [h3.get c (by omega) (by omega)]; exact h.but.get c hc id
  · rw [h3.get sb hs.2 (Ne.symm h.ne)]; exact h.sbo
  · have := h.bn hl; exact h3.get b this.2.1 this.2.2.1
  · have := h.bn hl; exact ⟨this.1, by omega, this.2.2⟩

theorem DInv.put {σ1 σ : St} {rb sb b : Nat} {rv vres : Value} {bs : List Int} {sh : Bool} {sc : List Value} {ls : List (List Value)} (h : DInv σ1 σ rb sb rv bs sh sc vres ls b) (sc' : List Value) : DInv σ1 (σ.put sb (.cells sc' 30 .ex)) rb sb rv bs sh sc' vres ls b := by
  have hr := h.rbn
  have hs := h.sbn
  refine ⟨h.but.putNew hs.1, by rw [St.get_put_ne h.ne]; exact h.rdo, h.bts.keep fun c hc => St.get_put_ne (by omega), h.byt, St.get_put_eq rfl, h.row.keep fun hl => St.get_put_ne (h.bn hl).2.2.2, h.rbn, h.sbn, h.bn, h.ne⟩

/-- What is made for an append to a row of steps, and the append. -/
abbrev St.oneS (σ : St) (x : List Value) : St := σ.at σ.next (.cells x 30 .ex) (σ.next + 1)
theorem i30 : ∃ it z, Tryz.prog.info? 30 = some it ∧ it.size = 14 ∧ it.bytes = 112 ∧ zeroV Tryz.prog 30 = some z ∧ z.cells.size = 14 := by
  have h0 : (Tryz.prog.info? 30).map (fun it => (it.size, it.bytes)) = some (14, 112) := by kernel_rfl
  have h1 : (zeroV Tryz.prog 30).map (fun z => z.cells.size) = some 14 := by kernel_rfl
  cases h : Tryz.prog.info? 30 with
  | none => rw [h] at h0; cases h0
  | some it =>
    cases hz : zeroV Tryz.prog 30 with
    | none => rw [hz] at h1; cases h1
    | some z =>
      rw [h] at h0
      rw [hz] at h1
      simp only [Option.map_some, Option.some.injEq, Prod.mk.injEq] at h0 h1
      exact ⟨it, z, rfl, h0.1, h0.2, rfl, h1⟩
theorem DInv.app {σ1 σ : St} {rb sb b : Nat} {rv vres : Value} {bs : List Int} {sh : Bool} {sc : List Value} {ls : List (List Value)} (h : DInv σ1 σ rb sb rv bs sh sc vres ls b) {x : List Value} (hx : x.length = 14) (h1 : x.all Value.oneCell' = true) (hl : ls.length < 1000000) :
    appendA Tryz.prog #[23, 23] [vres, .slice (some ⟨σ.next, 0, none⟩) 1 1] (St.oneS σ x) = some (.slice (some ⟨σ.next + 1, 0, none⟩) (ls ++ [x]).length unk, (St.oneS σ x).app vres (.cells (ls ++ [x]).flatten 30 (.vec 14))) ∧
    DInv σ1 ((St.oneS σ x).app vres (.cells (ls ++ [x]).flatten 30 (.vec 14))) rb sb rv bs sh sc (.slice (some ⟨σ.next + 1, 0, none⟩) (ls ++ [x]).length unk) (ls ++ [x]) (σ.next + 1) := by
  obtain ⟨it, z, a1, a2, a3, a4, a5⟩ := i30
  have hr := h.rbn
  have hs := h.sbn
  have hrow : RowN (St.oneS σ x) 30 14 vres ls b := h.row.keep fun hl => St.get_at_ne (by have := h.bn hl; omega)
  refine ⟨?_, ?_⟩
  · rw [hrow.append (x := x) (xb := σ.next) (e2 := 30) (kd2 := .ex) Tryz.underlying23 a1 a4 a2 (by decide) a5 (by omega) (by rw [St.get_at_eq rfl]) hx h1 hl]
    simp [St.next_at]
  · have hget : ∀ c, c < σ.next → (ls ≠ [] → c ≠ b) → ((St.oneS σ x).app vres (.cells (ls ++ [x]).flatten 30 (.vec 14))).get c = σ.get c := fun c hc hcb => by
      rw [hrow.appGet (by rw [St.next_at]; omega) hcb, St.get_at_ne (by omega)]
    have hn : ((St.oneS σ x).app vres (.cells (ls ++ [x]).flatten 30 (.vec 14))).next = σ.next + 2 := St.next_app
    have hbn := h.but.next
    refine ⟨⟨fun c hc _ => ?_, by omega⟩, ?_, h.bts.keep fun c hc => ?_, h.byt, ?_, ?_, by omega, by omega, fun _ => by omega, h.ne⟩
    · rw [hget c (by omega) (fun hl => by have := h.bn hl; omega)]; exact h.but.get c hc id
    · rw [hget rb hr.2 (fun hl => Ne.symm (h.bn hl).2.2.1)]; exact h.rdo
    · exact hget c (by omega) (fun hl => by have := h.bn hl; omega)
    · rw [hget sb hs.2 (fun hl => Ne.symm (h.bn hl).2.2.2)]; exact h.sbo
    · have := hrow.grown (x := x) hx
      rw [St.next_at] at this
      simpa using this
theorem bs23 (x0 x1 x2 x3 x4 x5 x6 x7 x8 x9 x10 x11 x12 x13 : Value) (dst : Option Tmp) (x : Operand) (ty : TypeId) (pos : String) (af : Array Edge) : allocA Tryz.prog (fun _ => .agg #[x0, x1, x2, x3, x4, x5, x6, x7, x8, x9, x10, x11, x12, x13]) ⟨dst, .buildSlice 23 1 #[(0, x)], ty, pos, af, none⟩ = some (.cells [x0, x1, x2, x3, x4, x5, x6, x7, x8, x9, x10, x11, x12, x13] 30 .ex, fun b => .slice (some ⟨b, 0, none⟩) 1 1) := by kernel_rfl

end Go.Proofs.YtfffmmgmjlfkoaaGreat
