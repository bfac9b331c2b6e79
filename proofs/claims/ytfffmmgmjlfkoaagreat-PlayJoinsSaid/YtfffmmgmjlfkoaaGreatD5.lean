/- graft.plan, graft.end as rows of the table. -/
import Derived.Test.YtfffmmgmjlfkoaaGreatD4
namespace Go.Proofs.YtfffmmgmjlfkoaaGreat
set_option linter.unusedSimpArgs false
set_option linter.unusedVariables false
open Go.As

theorem sl_ren {f g : Inj} {b b' n c' : Nat} {a' : Addr} (h : SlOk f ⟨b, 0, none⟩ a' n unk c') (he : g b' = f b) : SlOk g ⟨b', 0, none⟩ a' n unk c' :=
  ⟨rfl, h.s', fun hl => by have := h.live hl; exact ⟨this.1, by rw [show (⟨b', 0, none⟩ : Addr).block = b' from rfl, he]; exact this.2⟩,
   fun hc => by
    obtain ⟨h1, h2, h3⟩ := h.unk hc
    exact ⟨h1, h2, fun hn ho => by rw [show (⟨b', 0, none⟩ : Addr).block = b' from rfl, he]; exact h3 hn ho⟩, fun hc => absurd rfl hc⟩

theorem tuple_of2 {f : Inj} {x y v' : Value} (h : VRel f (.tuple #[x, y]) v') : ∃ x' y', v' = .tuple #[x', y'] ∧ VRel f x x' ∧ VRel f y y' := by
  cases h with
  | tuple cs cs' hs hr =>
    obtain ⟨l⟩ := cs'
    have hl : LRel f [x, y] l := ⟨by simpa using hs, fun i a b ha hb => hr i a b (by simpa using ha) (by simpa using hb)⟩
    obtain ⟨x', l', rfl, h1, h2⟩ := hl.of_cons
    obtain ⟨y', l'', rfl, h3, h4⟩ := h2.of_cons
    rw [h4.of_nil]
    exact ⟨x', y', rfl, h1, h3⟩

theorem slice_ren {f g : Inj} {b b' n : Nat} {v' : Value} (h : VRel f (.slice (some ⟨b, 0, none⟩) n unk) v') (he : g b' = f b) : VRel g (.slice (some ⟨b', 0, none⟩) n unk) v' := by
  cases h with
  | slice _ a' _ _ c' hs => exact .slice _ _ _ _ _ (sl_ren hs he)
theorem nil_ren {f g : Inj} {v' : Value} (h : VRel f (.slice none 0 0) v') : VRel g (.slice none 0 0) v' := by
  cases h with
  | sliceNil => exact .sliceNil

def addRow (l : List Int) (σ : St) : Value × St :=
  match l with
  | [] => (.slice none 0 0, σ)
  | l => (.slice (some ⟨σ.next, 0, none⟩) l.length unk, σ.add (.cells (l.map (.int .i64 ·)) 3 (.vec 1)))
theorem addRow_ne {l : List Int} (h : l ≠ []) (σ : St) : addRow l σ = (.slice (some ⟨σ.next, 0, none⟩) l.length unk, σ.add (.cells (l.map (.int .i64 ·)) 3 (.vec 1))) := by
  cases l with
  | nil => exact absurd rfl h
  | cons a l => rfl

theorem disc_iv (l : List Int) : (iv l).all disc1 = true := by simp [disc1]
theorem sel_at {n : Nat} {js : List Nat} {f' : Inj} {i j : Nat} (h : js[i]? = some j) : selF n (fun q => js[q - n]?) f' (n + i) = f' j := by
  unfold selF ren
  rw [if_neg (by omega)]
  show (js[n + i - n]?).bind f' = f' j
  rw [show n + i - n = i by omega, h]
  rfl

theorem plan_ok {σ : St} {r : Nat} {es : List (Int × Value)} (hr : σ.get r = some (.map .i64 es)) (hrn : r < σ.next) (hes : ∀ q ∈ es, isLf q.2) :
    Callable Tryz.prog 101 ∧ CallsA Tryz.prog 101 [.map (some r)] σ (.tuple #[(addRow (planM es 256 0 [] []).1 σ).1, (addRow (planM es 256 0 [] []).2 (addRow (planM es 256 0 [] []).1 σ).2).1]) (addRow (planM es 256 0 [] []).2 (addRow (planM es 256 0 [] []).1 σ).2).2 := by
  obtain ⟨v, σ', ⟨hc, hca⟩, v1, b1, v2, b2, rfl, hp⟩ := plan_con hr hrn hes
  refine ⟨hc, ?_⟩
  generalize (planM es 256 0 [] []).1 = ms at hp ⊢
  generalize (planM es 256 0 [] []).2 = ns at hp ⊢
  have hk : ∀ b o, b < σ.next → σ.get b = some o → σ'.get b = some o := fun b o hb ho => by rw [hp.but.get b hb id]; exact ho
  by_cases hm : ms = []
  · subst hm
    obtain rfl : v1 = .slice none 0 0 := by
      rcases hp.r1 with ⟨_, h⟩ | ⟨h, _⟩
      · exact h
      · exact absurd rfl h
    by_cases hn : ns = []
    · subst hn
      obtain rfl : v2 = .slice none 0 0 := by
        rcases hp.r2 with ⟨_, h⟩ | ⟨h, _⟩
        · exact h
        · exact absurd rfl h
      refine hca.canon (js := []) (os := []) hk rfl List.nodup_nil (fun j hj => by cases hj) (fun i j o h => by simp at h) (fun f f' v' hle hd hv => ?_)
      obtain ⟨x', y', rfl, hx, hy⟩ := tuple_of2 hv
      exact VRel.tuple_of (LRel.cons (nil_ren hx) (LRel.cons (nil_ren hy) LRel.nil))
    · have h2 : (iv ns) ≠ [] := by simpa using hn
      rcases hp.r2 with ⟨h, _⟩ | ⟨_, rfl, h4⟩
      · exact absurd h h2
      · rw [addRow_ne hn]
        refine hca.canon (js := [b2]) (os := [.cells (iv ns) 3 (.vec 1)]) hk rfl (by simp) (fun j hj => by obtain rfl : j = b2 := by simpa using hj
                                                                                                           exact (hp.l2 hn).1) (fun i j o h1 h2 => ?_) (fun f f' v' hle hd hv => ?_)
        · cases i with
          | zero => simp at h1 h2; subst h1 h2; exact ⟨h4, disc_iv _⟩
          | succ i => simp at h1
        · obtain ⟨x', y', rfl, hx, hy⟩ := tuple_of2 hv
          refine VRel.tuple_of (LRel.cons (nil_ren hx) (LRel.cons ?_ LRel.nil))
          rw [List.length_map] at hy
          exact slice_ren hy (sel_at (i := 0) rfl)
  · have h1 : (iv ms) ≠ [] := by simpa using hm
    rcases hp.r1 with ⟨h, _⟩ | ⟨_, rfl, h3⟩
    · exact absurd h h1
    · rw [addRow_ne hm]
      by_cases hn : ns = []
      · subst hn
        obtain rfl : v2 = .slice none 0 0 := by
          rcases hp.r2 with ⟨_, h⟩ | ⟨h, _⟩
          · exact h
          · exact absurd rfl h
        refine hca.canon (js := [b1]) (os := [.cells (iv ms) 3 (.vec 1)]) hk rfl (by simp) (fun j hj => by obtain rfl : j = b1 := by simpa using hj
                                                                                                           exact (hp.l1 hm).1) (fun i j o h1 h2 => ?_) (fun f f' v' hle hd hv => ?_)
        · cases i with
          | zero => simp at h1 h2; subst h1 h2; exact ⟨h3, disc_iv _⟩
          | succ i => simp at h1
        · obtain ⟨x', y', rfl, hx, hy⟩ := tuple_of2 hv
          rw [List.length_map] at hx
          exact VRel.tuple_of (LRel.cons (slice_ren hx (sel_at (i := 0) rfl)) (LRel.cons (nil_ren hy) LRel.nil))
      · have h2 : (iv ns) ≠ [] := by simpa using hn
        rcases hp.r2 with ⟨h, _⟩ | ⟨_, rfl, h4⟩
        · exact absurd h h2
        · rw [addRow_ne hn]
          refine hca.canon (js := [b1, b2]) (os := [.cells (iv ms) 3 (.vec 1), .cells (iv ns) 3 (.vec 1)]) hk rfl (by simp [hp.d hm hn]) (fun j hj => ?_) (fun i j o h1 h2 => ?_) (fun f f' v' hle hd hv => ?_)
          · simp at hj
            rcases hj with rfl | rfl
            · exact (hp.l1 hm).1
            · exact (hp.l2 hn).1
          · match i, h1, h2 with
            | 0, h1, h2 => simp at h1 h2; subst h1 h2; exact ⟨h3, disc_iv _⟩
            | 1, h1, h2 => simp at h1 h2; subst h1 h2; exact ⟨h4, disc_iv _⟩
            | i + 2, h1, _ => simp at h1
          · obtain ⟨x', y', rfl, hx, hy⟩ := tuple_of2 hv
            rw [List.length_map] at hx hy
            exact VRel.tuple_of (LRel.cons (slice_ren hx (sel_at (i := 0) rfl)) (LRel.cons (slice_ren hy (sel_at (i := 1) rfl)) LRel.nil))

def kPlan : Kn := fun g args σ =>
  match Nat.beq g 101 with
  | true =>
    match args with
    | [.map (some r)] =>
      match σ.get r with
      | some (.map .i64 es) =>
        match Nat.blt r σ.next && es.all fun q => isLfB q.2 with
        | true =>
          match planM es 256 0 [] [] with
          | (ms, ns) =>
            match addRow ms σ with
            | (v1, σ1) => match addRow ns σ1 with
              | (v2, σ2) => some (.tuple #[v1, v2], σ2)
        | false => none
      | _ => none
    | _ => none
  | false => none

theorem kPlan_ok : kPlan.ok Tryz.prog := by
  intro g args σ v σ' h
  unfold kPlan at h
  split at h
  · rename_i hg
    have hg := Nat.eq_of_beq_eq_true hg
    subst hg
    split at h
    · rename_i r
      split at h
      · rename_i es hr
        split at h
        · rename_i hc
          simp only [Bool.and_eq_true, Nat.blt_eq, List.all_eq_true] at hc
          cases h
          exact plan_ok hr hc.1 (fun q hq => isLfB_spec (hc.2 q hq))
        · cases h
      · cases h
    · cases h
  · cases h

/-- graft.end, where the frames are only told by their size. -/
def kEnd : Kn := fun g args σ =>
  match Nat.beq g 105 with
  | true =>
    match args with
    | [.pointer (some ⟨tb, 0, none⟩), .int .i64 (.ofNat n)] =>
      match σ.get tb with
      | some (.cells [.pointer (some ⟨mb, 0, none⟩), _, .int .i64 _, .map (some hb), _, .map (some eb)] _ _) =>
        match σ.get mb, σ.get hb, σ.get eb with
        | some (.cells [.slice (some ⟨rb, 0, none⟩) nf nf', .int .i64 _] _ _), some (.map .i64 es), some (.map .i64 eds) =>
          match σ.get rb, (lk eds (.ofNat n)).getD (.int .i64 0) with
          | some (.blob bl), .int .i64 (.ofNat fr) =>
            match Nat.beq nf nf' && Nat.ble (Nat.mul nf 128) bl && Nat.blt rb σ.next && Nat.blt mb σ.next && Nat.blt tb σ.next && Nat.blt hb σ.next && Nat.blt eb σ.next && Nat.blt n 256 && Nat.blt fr nf && es.all fun q => isLfB q.2 with
            | true => some (.tuple #[], σ)
            | false => none
          | _, _ => none
        | _, _, _ => none
      | _ => none
    | _ => none
  | false => none

theorem kEnd_ok : kEnd.ok Tryz.prog := by
  intro g args σ v σ' h
  unfold kEnd at h
  split at h
  · rename_i hg
    have hg := Nat.eq_of_beq_eq_true hg
    subst hg
    split at h
    · rename_i tb n
      split at h
      · rename_i mb _ _ hb _ eb _ _ ht
        split at h
        · rename_i rb nf nf' _ _ _ es eds hm hh he
          split at h
          · rename_i bl fr hrb hfr
            split at h
            · rename_i hc
              simp only [Bool.and_eq_true, Nat.blt_eq, Nat.ble_eq, List.all_eq_true] at hc
              obtain ⟨⟨⟨⟨⟨⟨⟨⟨⟨c1, c2⟩, c3⟩, c4⟩, c5⟩, c6⟩, c7⟩, c8⟩, c9⟩, c10⟩ := hc
              have c1 := Nat.eq_of_beq_eq_true c1
              subst c1
              cases h
              exact tend_quiet hm hrb c2 c3 c4 ht c5 hh c6 he c7 (Int.natCast_nonneg n) (by show (n : Int) < 256; omega) (fun k u hk => isLfB_spec (c10 _ (lk_mem hk))) hfr (Int.natCast_nonneg fr) (by show (fr : Int) < nf; omega)
            · cases h
          · cases h
        · cases h
      · cases h
    · cases h
  · cases h

noncomputable def kB3 : Kn := kAlt kPlan (kAlt kEnd kB2)
theorem kB3_ok : kB3.ok Tryz.prog := kAlt_ok kPlan_ok (kAlt_ok kEnd_ok kB2_ok)
end Go.Proofs.YtfffmmgmjlfkoaaGreat
