/- An array of eight words as an argument: opened, shut. -/
import Derived.Test.YtfffmmgmjlfkoaaGreatE1
namespace Go.Proofs.YtfffmmgmjlfkoaaGreat
set_option linter.unusedSimpArgs false
set_option linter.unusedVariables false
open Go.RowKit Go.WideShapes Go.ChangeShapes
section
variable {H : Type} {enc : TypeId × Value → H} {P : Program} {w : World} {base : Nat} {spare : Nat → Bool} {held : Bool}

theorem shut8 {t e : TypeId} (ht : P.underlying t = some (.array 8 e)) (he : P.underlying e = some (.int .u64)) (hce : P.cellsOf e = 1) (hct : P.cellsOf t = 8) {r0 r1 r2 r3 r4 r5 r6 r7 : Int}
    (w0 : (Lit.int .u64 r0).wf = true) (w1 : (Lit.int .u64 r1).wf = true) (w2 : (Lit.int .u64 r2).wf = true) (w3 : (Lit.int .u64 r3).wf = true) (w4 : (Lit.int .u64 r4).wf = true) (w5 : (Lit.int .u64 r5).wf = true) (w6 : (Lit.int .u64 r6).wf = true) (w7 : (Lit.int .u64 r7).wf = true) :
    DataW.Trod enc P w base spare held t (.agg #[.int .u64 r0, .int .u64 r1, .int .u64 r2, .int .u64 r3, .int .u64 r4, .int .u64 r5, .int .u64 r6, .int .u64 r7]) (.agg [.lit (.int .u64 r0), .lit (.int .u64 r1), .lit (.int .u64 r2), .lit (.int .u64 r3), .lit (.int .u64 r4), .lit (.int .u64 r5), .lit (.int .u64 r6), .lit (.int .u64 r7)]) [] := by
  refine ⟨2, ?_⟩
  have one : ∀ r : Int, (Lit.int .u64 r).wf = true → DataW.trod enc P w base spare held 1 e [.int .u64 r] = some (.lit (.int .u64 r), []) := fun r hr => by simp [DataW.trod, he, hr]
  unfold DataW.trod
  rw [ht]
  have r8 : List.range 8 = [0, 1, 2, 3, 4, 5, 6, 7] := rfl
  simp [Value.cells, r8, hce, hct, one r0 w0, one r1 w1, one r2 w2, one r3 w3, one r4 w4, one r5 w5, one r6 w6, one r7 w7]

theorem open8 {t e : TypeId} {v : Value} {d : DataW H} {ps : List MemPlace} (ht : P.underlying t = some (.array 8 e)) (he : P.underlying e = some (.int .u64)) (hce : P.cellsOf e = 1) (hct : P.cellsOf t = 8) (h : DataW.Trod enc P w base spare held t v d ps) :
    ∃ r0 r1 r2 r3 r4 r5 r6 r7 : Int, v = .agg #[.int .u64 r0, .int .u64 r1, .int .u64 r2, .int .u64 r3, .int .u64 r4, .int .u64 r5, .int .u64 r6, .int .u64 r7] ∧ d = .agg [.lit (.int .u64 r0), .lit (.int .u64 r1), .lit (.int .u64 r2), .lit (.int .u64 r3), .lit (.int .u64 r4), .lit (.int .u64 r5), .lit (.int .u64 r6), .lit (.int .u64 r7)] ∧ ps = [] ∧
      (Lit.int .u64 r0).wf = true ∧ (Lit.int .u64 r1).wf = true ∧ (Lit.int .u64 r2).wf = true ∧ (Lit.int .u64 r3).wf = true ∧ (Lit.int .u64 r4).wf = true ∧ (Lit.int .u64 r5).wf = true ∧ (Lit.int .u64 r6).wf = true ∧ (Lit.int .u64 r7).wf = true := by
  obtain ⟨fuel, hf⟩ := h
  obtain ⟨xs, m, rfl, hx, hlen, hl, hel⟩ := DataW.trod_array ht hf
  rw [hct] at hlen
  have hv : ∃ cs : Array Value, v = .agg cs := by
    cases v <;> first | exact ⟨_, rfl⟩ | (simp [Value.cells] at hlen)
  obtain ⟨cs, rfl⟩ := hv
  obtain ⟨l⟩ := cs
  have hll : l.length = 8 := by simpa [Value.cells] using hlen
  match l, hll with
  | [c0, c1, c2, c3, c4, c5, c6, c7], _ =>
    have key : ∀ (i : Nat) (c : Value), i < 8 → [c0, c1, c2, c3, c4, c5, c6, c7][i]? = some c → ∃ r : Int, c = .int .u64 r ∧ xs[i]? = some (.lit (.int .u64 r), []) ∧ (Lit.int .u64 r).wf = true := by
      intro i c hi hc
      have h1 := hel i hi
      rw [hce, Nat.mul_one] at h1
      have h2 : (List.drop i (Value.cells (.agg ⟨[c0, c1, c2, c3, c4, c5, c6, c7]⟩)).toList).take 1 = [c] := by
        show (List.drop i [c0, c1, c2, c3, c4, c5, c6, c7]).take 1 = [c]
        have hi' : i < [c0, c1, c2, c3, c4, c5, c6, c7].length := hi
        rw [List.getElem?_eq_getElem hi'] at hc
        cases hc
        rw [List.drop_eq_getElem_cons hi']
        rfl
      rw [h2] at h1
      have hi2 : i < xs.length := by omega
      rw [List.getElem?_eq_getElem hi2] at h1 ⊢
      obtain ⟨n', h3, h4, h5⟩ := DataW.trod_int he h1
      simp at h3
      exact ⟨n', h3, by rw [h4], h5⟩
    obtain ⟨r0, rfl, x0, w0⟩ := key 0 c0 (by omega) rfl
    obtain ⟨r1, rfl, x1, w1⟩ := key 1 c1 (by omega) rfl
    obtain ⟨r2, rfl, x2, w2⟩ := key 2 c2 (by omega) rfl
    obtain ⟨r3, rfl, x3, w3⟩ := key 3 c3 (by omega) rfl
    obtain ⟨r4, rfl, x4, w4⟩ := key 4 c4 (by omega) rfl
    obtain ⟨r5, rfl, x5, w5⟩ := key 5 c5 (by omega) rfl
    obtain ⟨r6, rfl, x6, w6⟩ := key 6 c6 (by omega) rfl
    obtain ⟨r7, rfl, x7, w7⟩ := key 7 c7 (by omega) rfl
    match xs, hl with
    | [y0, y1, y2, y3, y4, y5, y6, y7], _ =>
      simp at x0 x1 x2 x3 x4 x5 x6 x7
      subst x0 x1 x2 x3 x4 x5 x6 x7
      simp only [Prod.mk.injEq] at hx
      exact ⟨r0, r1, r2, r3, r4, r5, r6, r7, rfl, by rw [hx.1]; rfl, by rw [hx.2]; rfl, w0, w1, w2, w3, w4, w5, w6, w7⟩
end
end Go.Proofs.YtfffmmgmjlfkoaaGreat
