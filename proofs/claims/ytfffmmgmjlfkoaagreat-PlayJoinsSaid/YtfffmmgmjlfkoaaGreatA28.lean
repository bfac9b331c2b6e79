/- Ahead of a loop over a map and behind it. -/
import Derived.Test.YtfffmmgmjlfkoaaGreatA27
namespace Go.As
set_option linter.unusedSimpArgs false
set_option linter.unusedVariables false
open Go.ChangeMaps (setBlock)

/-- The state while a loop goes over block bm: that block is not to be reached; one number more for the iterator. -/
def hid (σ : St) (bm : Nat) : St := { heap := ((σ.del bm).del σ.next).heap, next := σ.next + 1 }
theorem hid_get (σ : St) (bm b : Nat) : (hid σ bm).get b = if b = σ.next then none else if b = bm then none else σ.get b := by
  show ((σ.del bm).del σ.next).get b = _
  rw [St.get_del, St.get_del]

theorem hid_some {σ : St} {bm b : Nat} {o : AObj} (h : (hid σ bm).get b = some o) : b ≠ σ.next ∧ b ≠ bm ∧ σ.get b = some o := by
  rw [hid_get] at h
  split at h
  · cases h
  · rename_i h1
    split at h
    · cases h
    · rename_i h2
      exact ⟨h1, h2, h⟩

theorem Rel.del {f : Inj} {σ : St} {w : World} (h : Rel f σ w) (bm : Nat) : Rel f (σ.del bm) w := by
  refine ⟨fun b o c k hb hf => ?_, fun b b' o o' c k k' h1 h2 h3 h4 => ?_, h.dom, h.img⟩
  · rw [St.get_del] at hb
    split at hb
    · cases hb
    · exact h.obj b o c k hb hf
  · rw [St.get_del] at h1 h2
    split at h1
    · cases h1
    · split at h2
      · cases h2
      · exact h.inj b b' o o' c k k' h1 h2 h3 h4

theorem range_start {P : Program} {f : Inj} {σ : St} {w : World} {bm cm k : Nat} {ik : IntKind} {es : List (Int × Value)} {t kt et : TypeId} (hR : Rel f σ w) (hb : σ.get bm = some (.map ik es)) (hf : f bm = some (cm, k)) (ht : P.underlying t = some (.map kt et)) :
    ∃ (es' : Array MapEntry) (ck : Nat) (w1 : World), (Instr.range t (.map (some cm))).run P w = .ok (.pointer (some ⟨w.heap.size, 0, none⟩)) w1 ∧ Ext f (σ.del bm) w (f.set σ.next (w.heap.size, 0)) (hid σ bm) w1 ∧ Rel (f.set σ.next (w.heap.size, 0)) (hid σ bm) w1 ∧
      It (f.set σ.next (w.heap.size, 0)) (hid σ bm) w1 σ.next w.heap.size cm ck ck #[] es' ck ∧ MapOk (f.set σ.next (w.heap.size, 0)) ik es es'.toList ck := by
  obtain ⟨o', ho', hr⟩ := hR.obj bm _ cm k hb hf
  cases hr with
  | map _ _ es' ck hm =>
    have hfr : f σ.next = none := hR.fresh
    have hcm : cm < w.heap.size := lt_of_some ho'
    have hle : Inj.le f (f.set σ.next (w.heap.size, 0)) := Inj.le_set hfr
    have hkeep : ∀ (o : Obj) (c : Nat), c < w.heap.size → (w.alloc o).heap[c]? = w.heap[c]? := fun o c hc => by
      show (w.heap.push o)[c]? = _
      rw [Array.getElem?_push_lt hc, Array.getElem?_eq_getElem hc]
    have hsz : ∀ o : Obj, (w.alloc o).heap.size = w.heap.size + 1 := fun o => Array.size_push _
    have hset : ∀ b c q, (f.set σ.next (w.heap.size, 0)) b = some (c, q) → (b = σ.next ∧ c = w.heap.size) ∨ (b ≠ σ.next ∧ f b = some (c, q)) := by
      intro b c q hx
      unfold Inj.set at hx
      split at hx
      · rename_i e; cases hx; exact .inl ⟨e, rfl⟩
      · rename_i e; exact .inr ⟨e, hx⟩
    refine ⟨es', ck, w.alloc (.mapIter (some cm) ck #[] ck), ?_, ?_, ?_, ?_, hm.mono hle⟩
    · unfold Instr.range
      simp only [Sem.run_bind, run_underlying ht, Result.andThen_ok]
      have hg : (getObj cm).run P w = .ok (.map es' ck) w := by simp [getObj, Sem.run, ho']
      rw [hg]
      simp only [Result.andThen_ok]
      rfl
    · refine ⟨hle, rfl, rfl, rfl, by rw [hsz]; exact Nat.le_succ _, fun c hc _ => hkeep _ c hc, ?_, ?_, ?_, Nat.le_succ _⟩
      · rintro c hc ⟨b, o, q, h1, h2, h3⟩
        obtain ⟨g1, g2, g3⟩ := hid_some h1
        rcases hset b c q h3 with ⟨e, _⟩ | ⟨_, h4⟩
        · exact absurd e g1
        · exact ⟨b, o, q, by rw [St.get_del, if_neg g2]; exact g3, h2, h4⟩
      · rintro c hc ⟨b, o, q, h1, h3⟩
        obtain ⟨g1, g2, g3⟩ := hid_some h1
        rcases hset b c q h3 with ⟨e, _⟩ | ⟨_, h4⟩
        · exact absurd e g1
        · exact ⟨b, o, q, by rw [St.get_del, if_neg g2]; exact g3, h4⟩
      · intro b x hx
        rcases hset b x.1 x.2 hx with ⟨e, _⟩ | ⟨_, h4⟩
        · exact .inr (by rw [e]; exact Nat.le_refl _)
        · exact .inl h4
    · refine ⟨?_, ?_, ?_, ?_⟩
      · intro b o c q hbo hfb
        obtain ⟨g1, g2, g3⟩ := hid_some hbo
        rcases hset b c q hfb with ⟨e, _⟩ | ⟨_, h4⟩
        · exact absurd e g1
        · obtain ⟨o2, h1, h2⟩ := hR.obj b o c q g3 h4
          exact ⟨o2, by rw [hkeep _ c (lt_of_some h1)]; exact h1, h2.mono hle⟩
      · intro b b' o o' c q q' h1 h2 h3 h4
        obtain ⟨g1, _, g3⟩ := hid_some h1
        obtain ⟨g1', _, g3'⟩ := hid_some h2
        rcases hset b c q h3 with ⟨e, _⟩ | ⟨_, h5⟩
        · exact absurd e g1
        · rcases hset b' c q' h4 with ⟨e, _⟩ | ⟨_, h6⟩
          · exact absurd e g1'
          · exact hR.inj b b' o o' c q q' g3 g3' h5 h6
      · intro b x hx
        rcases hset b x.1 x.2 hx with ⟨e, _⟩ | ⟨_, h4⟩
        · rw [e]; exact Nat.lt_succ_self _
        · exact Nat.lt_succ_of_lt (hR.dom b x h4)
      · intro b c q hx
        rw [hsz]
        rcases hset b c q hx with ⟨_, e⟩ | ⟨_, h4⟩
        · rw [e]; exact Nat.lt_succ_self _
        · exact Nat.lt_succ_of_lt (hR.img b c q h4)
    · refine ⟨by unfold Inj.set; rw [if_pos rfl], ?_, ?_, ?_, by rw [hkeep _ cm hcm]; exact ho'⟩
      · rintro ⟨b, o, q, h1, h2⟩
        obtain ⟨g1, _, g3⟩ := hid_some h1
        rcases hset b _ q h2 with ⟨e, _⟩ | ⟨_, h4⟩
        · exact absurd e g1
        · have := hR.img b _ q h4; omega
      · show (w.heap.push _)[w.heap.size]? = _
        simp
      · rintro ⟨b, o, q, h1, h2⟩
        obtain ⟨g1, g2, g3⟩ := hid_some h1
        rcases hset b _ q h2 with ⟨_, e⟩ | ⟨_, h4⟩
        · omega
        · exact g2 (hR.inj b bm o _ cm q k g3 hb h4 hf)

/-- The map is there again behind the loop. -/
theorem unhide {f f' : Inj} {σ σ' : St} {w w' : World} {bm cm k : Nat} {ik : IntKind} {es : List (Int × Value)} (hb : σ.get bm = some (.map ik es)) (hf : f bm = some (cm, k)) (hx : Ext f (σ.del bm) w f' σ' w') (hR : Rel f' σ' w') (hoff : ¬ ImgL f' σ'.get cm) {o' : Obj} (ho : w'.heap[cm]? = some o') (hr : ObjRel f' k (.map ik es) o') :
    Ext f σ w f' (σ'.put bm (.map ik es)) w' ∧ Rel f' (σ'.put bm (.map ik es)) w' := by
  have hf' := hx.le _ _ hf
  have hback : ∀ b o, (σ'.put bm (.map ik es)).get b = some o → (b = bm ∧ o = .map ik es) ∨ (b ≠ bm ∧ σ'.get b = some o) := by
    intro b o h
    rw [St.get_put] at h
    split at h
    · rename_i e; cases h; exact .inl ⟨e, rfl⟩
    · rename_i e; exact .inr ⟨e, h⟩
  have hdel : ∀ b o, (σ.del bm).get b = some o → σ.get b = some o := by
    intro b o h
    rw [St.get_del] at h
    split at h
    · cases h
    · exact h
  refine ⟨⟨hx.le, hx.os, hx.tape, hx.output, hx.size, ?_, ?_, ?_, hx.new, hx.next⟩, ⟨?_, ?_, hR.dom, hR.img⟩⟩
  · intro c hc hi
    exact hx.keep c hc (fun ⟨b, o, q, h1, h2, h3⟩ => hi ⟨b, o, q, hdel b o h1, h2, h3⟩)
  · rintro c hc ⟨b, o, q, h1, h2, h3⟩
    rcases hback b o h1 with ⟨rfl, rfl⟩ | ⟨_, h4⟩
    · rw [hf'] at h3
      cases h3
      exact ⟨b, _, k, hb, rfl, hf⟩
    · obtain ⟨b2, o2, q2, g1, g2, g3⟩ := hx.img c hc ⟨b, o, q, h4, h2, h3⟩
      exact ⟨b2, o2, q2, hdel b2 o2 g1, g2, g3⟩
  · rintro c hc ⟨b, o, q, h1, h3⟩
    rcases hback b o h1 with ⟨rfl, rfl⟩ | ⟨_, h4⟩
    · rw [hf'] at h3
      cases h3
      exact ⟨b, _, k, hb, hf⟩
    · obtain ⟨b2, o2, q2, g1, g3⟩ := hx.imgl c hc ⟨b, o, q, h4, h3⟩
      exact ⟨b2, o2, q2, hdel b2 o2 g1, g3⟩
  · intro b o c q h1 h3
    rcases hback b o h1 with ⟨rfl, rfl⟩ | ⟨_, h4⟩
    · rw [hf'] at h3
      cases h3
      exact ⟨o', ho, hr⟩
    · exact hR.obj b o c q h4 h3
  · intro b b' o o2 c q q' h1 h2 h3 h4
    rcases hback b o h1 with ⟨e1, _⟩ | ⟨_, g1⟩
    · rcases hback b' o2 h2 with ⟨e2, _⟩ | ⟨_, g2⟩
      · rw [e1, e2]
      · subst e1
        rw [hf'] at h3
        cases h3
        exact absurd ⟨b', o2, q', g2, h4⟩ hoff
    · rcases hback b' o2 h2 with ⟨e2, _⟩ | ⟨_, g2⟩
      · subst e2
        rw [hf'] at h4
        cases h4
        exact absurd ⟨b, o, q, g1, h3⟩ hoff
      · exact hR.inj b b' o o2 c q q' g1 g2 h3 h4

/-- What was made and is not held may be forgotten: the numbers from 'n' on are free again. -/
theorem Turns.cut {f f' : Inj} {σ σ' σt : St} {w w' : World} (hdom : ∀ b x, f b = some x → b < σ.next) (hx : Ext f σ w f' σ' w') (hR : Rel f' σ' w') (hn : σ.next ≤ σt.next)
    (hobj : ∀ b o c k, σt.get b = some o → b < σt.next → f' b = some (c, k) → ∃ o', w'.heap[c]? = some o' ∧ ObjRel (fun i => if i < σt.next then f' i else none) k o o')
    (hsub : ∀ b o, σt.get b = some o → b < σt.next → ∃ o2, σ'.get b = some o2 ∧ o2.writable = o.writable) :
    Ext f σ w (fun i => if i < σt.next then f' i else none) σt w' ∧ Rel (fun i => if i < σt.next then f' i else none) σt w' := by
  have hcut : ∀ b x, (fun i => if i < σt.next then f' i else none) b = some x → b < σt.next ∧ f' b = some x := by
    intro b x h
    simp only at h
    split at h
    · rename_i e; exact ⟨e, h⟩
    · cases h
  refine ⟨⟨?_, hx.os, hx.tape, hx.output, hx.size, hx.keep, ?_, ?_, ?_, hn⟩, ⟨?_, ?_, fun b x h => (hcut b x h).1, fun b c k h => hR.img b c k (hcut b _ h).2⟩⟩
  · intro b x h
    show (if b < σt.next then f' b else none) = some x
    rw [if_pos (by have := hdom b x h; omega)]
    exact hx.le b x h
  · rintro c hc ⟨b, o, q, h1, h2, h3⟩
    obtain ⟨g1, g2⟩ := hcut b _ h3
    obtain ⟨o2, h4, h5⟩ := hsub b o h1 g1
    exact hx.img c hc ⟨b, o2, q, h4, by rw [h5]; exact h2, g2⟩
  · rintro c hc ⟨b, o, q, h1, h3⟩
    obtain ⟨g1, g2⟩ := hcut b _ h3
    obtain ⟨o2, h4, h5⟩ := hsub b o h1 g1
    exact hx.imgl c hc ⟨b, o2, q, h4, g2⟩
  · intro b x h
    exact hx.new b x (hcut b x h).2
  · intro b o c k h1 h2
    obtain ⟨g1, g2⟩ := hcut b _ h2
    exact hobj b o c k h1 g1 g2
  · intro b b' o o' c k k' h1 h2 h3 h4
    obtain ⟨g1, g2⟩ := hcut b _ h3
    obtain ⟨g3, g4⟩ := hcut b' _ h4
    obtain ⟨o2, h5, _⟩ := hsub b o h1 g1
    obtain ⟨o3, h6, _⟩ := hsub b' o' h2 g3
    exact hR.inj b b' o2 o3 c k k' h5 h6 g2 g4
end Go.As
