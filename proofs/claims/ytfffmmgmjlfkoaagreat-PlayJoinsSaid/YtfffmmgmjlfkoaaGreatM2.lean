/- The abstract machine, second part: operations, drawn regions. -/
import Derived.Test.YtfffmmgmjlfkoaaGreatM1
import Derived.Scope
namespace Go.As
set_option linter.unusedSimpArgs false
set_option linter.unusedVariables false

theorem Rel.rowCells {f : Inj} {σ : St} {w : World} (hR : Rel f σ w) {b : Nat} {cs : List Value} {e : TypeId} {kd : Kd} (hb : σ.get b = some (.cells cs e kd)) {c k : Nat} (hf : f b = some (c, k)) {o n : Nat} (hn : o + n ≤ cs.length) :
    ∃ vs : List Value, (∀ (j : Nat) (v : Value), vs[j]? = some v → w.cell? ((⟨c, o, none⟩ : Addr).add j) = some v) ∧ LRel f ((cs.drop o).take n) vs ∧ vs.length = n := by
  obtain ⟨cs', fr, hc, hl, hle, _⟩ := hR.cells hb hf
  refine ⟨(cs'.toList.drop o).take n, ?_, ?_, by simp; omega⟩
  · intro j v hj
    rw [Addr.add_lit, cell_of hc]
    rw [List.getElem?_take] at hj
    split at hj
    · simpa [List.getElem?_drop, Array.getElem?_toList] using hj
    · cases hj
  · have h2 := (hl.drop o).take n
    have e : List.take n (List.drop o (List.take cs.length cs'.toList)) = List.take n (List.drop o cs'.toList) := by
      rw [List.drop_take, List.take_take]
      congr 1
      omega
    rwa [e] at h2

/-- What is appended, on both sides. -/
theorem newsA_ok {f : Inj} {σ : St} {w : World} (hR : Rel f σ w) {sz : Nat} {x x' : Value} (hx : VRel f x x') {m : Nat} {news : List Value} (h : newsA σ sz x = some (m, news)) :
    (m = 0 ∧ ∃ b c2, x' = .slice b 0 c2) ∨ (m ≠ 0 ∧ ∃ a c2, ∃ news' : List Value, x' = .slice (some a) m c2 ∧ (∀ (j : Nat) (v : Value), news'[j]? = some v → w.cell? (a.add j) = some v) ∧ LRel f news news' ∧ news'.length = m * sz) := by
  unfold newsA at h
  split at h
  · cases h
    have : x' = .slice none 0 0 := by cases hx; rfl
    exact .inl ⟨rfl, none, 0, this⟩
  · rename_i a n c
    obtain ⟨a', c', rfl, hp⟩ := hx.slice_of
    split at h
    · rename_i h0
      cases h
      subst h0
      exact .inl ⟨rfl, _, _, rfl⟩
    · rename_i h0
      split at h
      · rename_i cs e kd hb
        split at h
        · rename_i hle
          cases h
          have hpp := hp.ptr (by omega)
          obtain ⟨k, hf⟩ := hpp.blk
          obtain ⟨vs, h1, h2, h3⟩ := hR.rowCells hb hf hle
          rw [← hpp.eq.2] at h1
          exact .inr ⟨h0, a', c', vs, rfl, h1, h2, h3⟩
        · cases h
      · cases h
  · cases h

/-- The block that append makes anew. -/
theorem ObjRel.grown {g : Inj} {xs xs' : List Value} (h : LRel g xs xs') (z : Array Value) (sz cap need : Nat) (e : TypeId) (hz : z.size = sz) (hl : xs.length = need * sz) (hc : need ≤ cap) :
    ObjRel g cap (.cells xs e (.vec sz)) (.cells (xs'.toArray ++ Builtin.zeroCells z (cap - need)) e (0, 0)) := by
  refine .cells xs e (.vec sz) _ (0, 0) (Builtin.zeroCells z (cap - need)).toList ?_ ?_ (fun _ => .inl rfl) ?_
  · rw [h.1]
    simp only [Array.toList_append, List.take_left]
    exact h
  · rw [h.1]
    simp only [Array.toList_append, List.take_left]
  · intro s hs
    cases hs
    simp only [Array.size_append, List.size_toArray, size_zeroCells, hz, ← h.1, hl]
    rw [← Nat.add_mul]
    congr 1
    omega

theorem appendA_ok {P : Program} {f : Inj} {σ σ' : St} {w : World} (hR : Rel f σ w) {ats : Array TypeId} {ty : TypeId} {args : List Value} {args' : Array Value} (ha : LRel f args args'.toList) {v : Value}
    (h : appendA P ats args σ = some (v, σ')) : ∃ v' w', (Builtin.append_ ats ty args').run P w = .ok v' w' ∧ Turns f σ w v σ' v' w' := by
  obtain ⟨args'⟩ := args'
  simp only at ha
  unfold appendA at h
  split at h
  · rename_i t u s x
    obtain ⟨s', x', rfl, hs, hx⟩ := list2 ha
    split at h
    · rename_i htu
      subst htu
      split at h
      · rename_i elem hu
        split at h
        · rename_i it z hi hz
          obtain ⟨hzr, hzc⟩ := zeroV_spec hz w
          have hiz : it.zero = some z := by
            unfold zeroV at hz
            rw [hi] at hz
            split at hz
            · rename_i hq
              split at hz
              · cases hz; cases hq; rfl
              · cases hz
            · cases hz
          split at h
          · cases h
          · rename_i hsz
            have hzs : z.cells.size = it.size := by
              by_cases e : z.cells.size = it.size
              · exact e
              · exact absurd (.inr e) hsz
            have hpos : 0 < it.size := by
              rcases Nat.eq_zero_or_pos it.size with e | e
              · exact absurd (.inl e) hsz
              · exact e
            split at h
            · rename_i m news hnews
              rcases newsA_ok hR hx hnews with ⟨rfl, b, c2, rfl⟩ | ⟨hm0, a2, c2, news', rfl, hcell, hrel, hlen⟩
              · rw [if_pos rfl] at h
                split at h
                · cases h
                  rename_i ao n c
                  have hss : ∃ ao' c', s' = .slice ao' n c' ∧ n ≤ c' := by
                    cases hs with
                    | sliceNil => exact ⟨_, _, rfl, Nat.le_refl _⟩
                    | slice a a' _ _ c' p =>
                      refine ⟨_, _, rfl, ?_⟩
                      by_cases hc : c = unk
                      · exact (p.unk hc).1
                      · obtain ⟨e1, e2, _⟩ := p.ex hc; omega
                  obtain ⟨ao', c', rfl, hle⟩ := hss
                  exact ⟨_, w, run_append_zero w _ ty elem it hu hi ao' n c' hle b c2, f, Ext.refl f σ w, hR, hs⟩
                · cases h
              · rw [if_neg hm0] at h
                split at h
                · cases h
                · rename_i hone
                  have hone' : ∀ u ∈ news', u.oneCell' = true := LRel.oneCells hrel (by simpa using hone)
                  have hlen0 : news.length = m * it.size := by rw [hrel.1, hlen]
                  split at h
                  · -- onto nil
                    split at h
                    · rename_i hb
                      cases h
                      have e : s' = .slice none 0 0 := by cases hs; rfl
                      subst e
                      have hrun := run_append_nil (P := P) w t ty elem it z hu hi hiz a2 m c2 news' hlen hcell (by omega) (by omega) (by omega)
                      have hge := grownCap_ge w m 0 elem
                      have hmx := grownCap_le_maxLen w m 0 elem (by simp only [maxLen]; omega)
                      refine ⟨_, _, hrun, f.set σ.next (w.heap.size, grownCap w m 0 elem), ?_, ?_, ?_⟩
                      · rw [← St.at_next]; exact Ext.made hR.fresh (Nat.le_refl _) (Nat.le_succ _) rfl rfl rfl rfl
                      · rw [← St.at_next]
                        exact Rel.new hR hR.fresh (by omega) (by omega) rfl (fun g hg => ObjRel.grown (hrel.mono hg) z.cells it.size _ m elem hzs hlen0 hge)
                      · exact .slice _ _ _ _ _ ⟨rfl, rfl, fun _ => ⟨rfl, _, Inj.set_self _ _ _⟩, fun _ => ⟨hge, hmx, fun _ _ => ⟨_, Inj.set_self _ _ _⟩⟩, fun h => absurd rfl h⟩
                    · cases h
                  · rename_i a n c
                    obtain ⟨a', c', rfl, hp⟩ := hs.slice_of
                    split at h
                    · cases h
                    · rename_i hbd
                      have hbd' : (n + m) * it.bytes ≤ 2 ^ 40 ∧ n + m ≤ 2 ^ 40 := by
                        by_cases e : (n + m) * it.bytes ≤ 2 ^ 40 ∧ n + m ≤ 2 ^ 40
                        · exact e
                        · exact absurd e hbd
                      split at h
                      · rename_i cs e kd hb
                        split at h
                        · rename_i hc
                          split at h
                          · rename_i hq
                            obtain ⟨hn0, hoff, rfl, hcl, rfl⟩ := hq
                            cases h
                            obtain ⟨hnc, hcm, hcap⟩ := hp.unk hc
                            obtain ⟨blk, hfb⟩ := hcap (by omega) hoff
                            have hpp := hp.ptr (by omega)
                            obtain ⟨k0, hfk⟩ := hpp.blk
                            have hblk : blk = a'.block ∧ k0 = c' := by rw [hfk] at hfb; cases hfb; exact ⟨rfl, rfl⟩
                            obtain ⟨rfl, rfl⟩ := hblk
                            obtain ⟨cs', fr, hcc, hl, hle, hfr, hvec⟩ := hR.cells hb hfk
                            have hvs := hvec it.size rfl
                            have ea' : a' = ⟨a'.block, 0, none⟩ := by have := hpp.eq.2; rw [hoff] at this; exact this
                            have hrelc : LRel f (cs ++ news) (cs'.toList.take cs.length ++ news') := hl.append hrel
                            by_cases hroom : n + m ≤ k0
                            · -- in place
                              have hfit : n * it.size + m * it.size ≤ cs'.size := by rw [hvs, ← Nat.add_mul]; exact Nat.mul_le_mul_right _ hroom
                              have hload : (loadCells a2 (m * it.size)).run P w = .ok news'.toArray w := by rw [← hlen]; exact run_loadCells_list w a2 news' hcell
                              have hrun := run_append_in (P := P) w t ty e it hu hi a'.block n k0 cs' fr e hcc (hfr (by simp)).not a2 m c2 news' hlen hload hone' hroom hfit
                              rw [ea']
                              refine ⟨_, _, hrun, f.set σ.next (a'.block, k0), ?_, ?_, ?_⟩
                              · refine ⟨Inj.le_set hR.fresh, rfl, rfl, rfl, by rw [upd_size]; exact Nat.le_refl _, fun ci _ hni => upd_ne (fun e => hni (by subst e; exact ⟨a.block, _, k0, hb, rfl, hfk⟩)), ?_, ?_, ?_, by simp⟩
                                · rintro ci hci ⟨i, oi, q, hgi, hwi, hfi⟩
                                  rw [St.get_add, St.next_del] at hgi
                                  unfold Inj.set at hfi
                                  by_cases ei : i = σ.next
                                  · rw [if_pos ei] at hfi
                                    cases hfi
                                    exact ⟨a.block, _, k0, hb, rfl, hfk⟩
                                  · rw [if_neg ei] at hfi hgi
                                    rw [St.get_del] at hgi
                                    split at hgi
                                    · cases hgi
                                    · exact ⟨i, oi, q, hgi, hwi, hfi⟩
                                · rintro ci hci ⟨i, oi, q, hgi, hfi⟩
                                  rw [St.get_add, St.next_del] at hgi
                                  unfold Inj.set at hfi
                                  by_cases ei : i = σ.next
                                  · rw [if_pos ei] at hfi
                                    cases hfi
                                    exact ⟨a.block, _, k0, hb, hfk⟩
                                  · rw [if_neg ei] at hfi hgi
                                    rw [St.get_del] at hgi
                                    split at hgi
                                    · cases hgi
                                    · exact ⟨i, oi, q, hgi, hfi⟩
                                · intro i x hx'
                                  unfold Inj.set at hx'
                                  split at hx'
                                  · rename_i ei; subst ei; exact .inr (Nat.le_refl _)
                                  · exact .inl hx'
                              · -- the relation
                                have hobj : ∀ g, Inj.le f g → ObjRel g k0 (.cells (cs ++ news) e (.vec it.size)) (.cells (splice cs'.toList (n * it.size) news').toArray e fr) := by
                                  intro g hg
                                  have hsl : (splice cs'.toList (n * it.size) news').length = cs'.toList.length := splice_length _ _ _ (by rw [hlen]; simpa using hfit)
                                  have htk : (splice cs'.toList (n * it.size) news').take (cs ++ news).length = cs'.toList.take cs.length ++ news' := by
                                    unfold splice
                                    rw [List.length_append, hcl, hrel.1]
                                    rw [List.take_append_of_le_length (by rw [List.length_append, List.length_take]; have : n * it.size ≤ cs'.toList.length := by simp; omega
                                                                          omega)]
                                    rw [List.take_of_length_le (by rw [List.length_append, List.length_take]; omega)]
                                  refine .cells _ e (.vec it.size) _ fr ((splice cs'.toList (n * it.size) news').drop (cs ++ news).length) ?_ ?_ ?_ ?_
                                  · simp only
                                    rw [htk]
                                    exact hrelc.mono hg
                                  · simp only
                                    exact (List.take_append_drop _ _).symm
                                  · simpa [hsl] using hfr
                                  · intro s' hs'
                                    cases hs'
                                    rw [← hvs]
                                    simpa using hsl
                                refine ⟨?_, ?_, ?_, ?_⟩
                                · intro i oi ci q hgi hci
                                  rw [St.get_add, St.next_del] at hgi
                                  unfold Inj.set at hci
                                  by_cases ei : i = σ.next
                                  · rw [if_pos ei] at hci hgi
                                    cases hci
                                    cases hgi
                                    exact ⟨_, upd_same (hR.img _ _ _ hfk), hobj _ (Inj.le_set hR.fresh)⟩
                                  · rw [if_neg ei] at hci hgi
                                    rw [St.get_del] at hgi
                                    split at hgi
                                    · cases hgi
                                    · rename_i eb
                                      obtain ⟨oo, h1, h2⟩ := hR.obj i oi ci q hgi hci
                                      refine ⟨oo, ?_, h2.mono (Inj.le_set hR.fresh)⟩
                                      rw [upd_ne]
                                      · exact h1
                                      · intro ec
                                        subst ec
                                        exact eb (hR.inj i a.block oi _ a'.block q k0 hgi hb hci hfk)
                                · intro i j oi oj ci k1 k2 hgi hgj hci hcj
                                  rw [St.get_add, St.next_del] at hgi hgj
                                  unfold Inj.set at hci hcj
                                  by_cases ei : i = σ.next <;> by_cases ej : j = σ.next
                                  · rw [ei, ej]
                                  · rw [if_pos ei] at hci
                                    rw [if_neg ej] at hcj hgj
                                    cases hci
                                    rw [St.get_del] at hgj
                                    split at hgj
                                    · cases hgj
                                    · rename_i eb
                                      exact absurd (hR.inj j a.block oj _ a'.block k2 k0 hgj hb hcj hfk) eb
                                  · rw [if_neg ei] at hci hgi
                                    rw [if_pos ej] at hcj
                                    cases hcj
                                    rw [St.get_del] at hgi
                                    split at hgi
                                    · cases hgi
                                    · rename_i eb
                                      exact absurd (hR.inj i a.block oi _ a'.block k1 k0 hgi hb hci hfk) eb
                                  · rw [if_neg ei] at hgi hci
                                    rw [if_neg ej] at hgj hcj
                                    rw [St.get_del] at hgi hgj
                                    split at hgi
                                    · cases hgi
                                    · split at hgj
                                      · cases hgj
                                      · exact hR.inj i j oi oj ci k1 k2 hgi hgj hci hcj
                                · intro i q hq
                                  unfold Inj.set at hq
                                  show i < σ.next + 1
                                  split at hq
                                  · omega
                                  · have := hR.dom i q hq; omega
                                · intro i ci q hq
                                  rw [upd_size]
                                  unfold Inj.set at hq
                                  split at hq
                                  · cases hq; exact hR.img _ _ _ hfk
                                  · exact hR.img i ci q hq
                              · exact .slice _ _ _ _ _ ⟨rfl, rfl, fun _ => ⟨rfl, _, Inj.set_self _ _ _⟩, fun _ => ⟨hroom, hcm, fun _ _ => ⟨_, Inj.set_self _ _ _⟩⟩, fun h => absurd rfl h⟩
                            · -- anew
                              have hgrow : Builtin.nextslicecap (n + m) k0 * it.bytes ≤ 281474976710656 := growslice_fits (by omega) (by omega)
                              have holds : ∀ (j : Nat) (v : Value), (cs'.toList.take cs.length)[j]? = some v → w.cell? (a'.add j) = some v := by
                                intro j v hj
                                rw [ea', Addr.add_lit, cell_of hcc, Nat.zero_add]
                                rw [List.getElem?_take] at hj
                                split at hj
                                · simpa [Array.getElem?_toList] using hj
                                · cases hj
                              have hol : (cs'.toList.take cs.length).length = n * it.size := by rw [← hcl, List.length_take]; simp; omega
                              have hrun := run_append_grow (P := P) w t ty e it z hu hi hiz a' n k0 (cs'.toList.take cs.length) hol holds a2 m c2 news' hlen hcell (by omega) (by omega) hgrow
                              have hge := grownCap_ge w (n + m) k0 e
                              have hmx := grownCap_le_maxLen w (n + m) k0 e (by simp only [maxLen]; omega)
                              have hdel : Rel f (σ.del a.block) w := ⟨fun i oi ci q hgi hci => by
                                  rw [St.get_del] at hgi
                                  split at hgi
                                  · cases hgi
                                  · exact hR.obj i oi ci q hgi hci, fun i j oi oj ci k1 k2 hgi hgj hci hcj => by
                                  rw [St.get_del] at hgi hgj
                                  split at hgi
                                  · cases hgi
                                  · split at hgj
                                    · cases hgj
                                    · exact hR.inj i j oi oj ci k1 k2 hgi hgj hci hcj, hR.dom, hR.img⟩
                              have hx1 : Ext f σ w f (σ.del a.block) w := by
                                refine ⟨fun _ _ h => h, rfl, rfl, rfl, Nat.le_refl _, fun _ _ _ => rfl, ?_, ?_, fun _ _ h => .inl h, Nat.le_refl _⟩
                                · rintro ci _ ⟨i, oi, q, hgi, hwi, hfi⟩
                                  rw [St.get_del] at hgi
                                  split at hgi
                                  · cases hgi
                                  · exact ⟨i, oi, q, hgi, hwi, hfi⟩
                                · rintro ci _ ⟨i, oi, q, hgi, hfi⟩
                                  rw [St.get_del] at hgi
                                  split at hgi
                                  · cases hgi
                                  · exact ⟨i, oi, q, hgi, hfi⟩
                              refine ⟨_, _, hrun, f.set σ.next (w.heap.size, grownCap w (n + m) k0 e), ?_, ?_, ?_⟩
                              · refine hx1.trans ?_
                                rw [← St.at_next]; exact Ext.made hR.fresh (Nat.le_refl _) (Nat.le_succ _) rfl rfl rfl rfl
                              · rw [← St.at_next]
                                refine Rel.new hdel hR.fresh (by simp) (by simp) rfl (fun g hg => ?_)
                                have := ObjRel.grown (hrelc.mono hg) z.cells it.size (grownCap w (n + m) k0 e) (n + m) e hzs (by rw [List.length_append, hcl, hlen0, ← Nat.add_mul]) hge
                                simpa using this
                              · exact .slice _ _ _ _ _ ⟨rfl, rfl, fun _ => ⟨rfl, _, Inj.set_self _ _ _⟩, fun _ => ⟨hge, hmx, fun _ _ => ⟨_, Inj.set_self _ _ _⟩⟩, fun h => absurd rfl h⟩
                          · cases h
                        · rename_i hc
                          split at h
                          · cases h
                          · rename_i hnr
                            split at h
                            · rename_i hle
                              cases h
                              obtain ⟨rfl, hnc, hcu⟩ := hp.ex hc
                              -- the old cells, if any
                              have hold : ∃ olds : List Value, (∀ (j : Nat) (v : Value), olds[j]? = some v → w.cell? (a'.add j) = some v) ∧ LRel f ((cs.drop a.off).take (n * it.size)) olds ∧ olds.length = n * it.size := by
                                by_cases hn0 : n = 0
                                · subst hn0
                                  exact ⟨[], by simp, by simp only [Nat.zero_mul, List.take_zero]; exact LRel.nil, by simp⟩
                                · have hpp := hp.ptr (by omega)
                                  obtain ⟨k0, hfk⟩ := hpp.blk
                                  obtain ⟨vs, h1, h2, h3⟩ := hR.rowCells hb hfk hle
                                  rw [← hpp.eq.2] at h1
                                  exact ⟨vs, h1, h2, h3⟩
                              obtain ⟨olds, ho1, ho2, ho3⟩ := hold
                              have hgrow : Builtin.nextslicecap (n + m) c' * it.bytes ≤ 281474976710656 := growslice_fits (by omega) (by omega)
                              have hrun := run_append_grow (P := P) w t ty elem it z hu hi hiz a' n c' olds ho3 ho1 a2 m c2 news' hlen hcell (by omega) (by omega) hgrow
                              have hge := grownCap_ge w (n + m) c' elem
                              have hmx := grownCap_le_maxLen w (n + m) c' elem (by simp only [maxLen]; omega)
                              refine ⟨_, _, hrun, f.set σ.next (w.heap.size, grownCap w (n + m) c' elem), ?_, ?_, ?_⟩
                              · rw [← St.at_next]; exact Ext.made hR.fresh (Nat.le_refl _) (Nat.le_succ _) rfl rfl rfl rfl
                              · rw [← St.at_next]
                                refine Rel.new hR hR.fresh (by omega) (by omega) rfl (fun g hg => ?_)
                                have := ObjRel.grown ((ho2.append hrel).mono hg) z.cells it.size (grownCap w (n + m) c' elem) (n + m) elem hzs (by rw [List.length_append, ho2.1, ho3, hlen0, ← Nat.add_mul]) hge
                                simpa using this
                              · exact .slice _ _ _ _ _ ⟨rfl, rfl, fun _ => ⟨rfl, _, Inj.set_self _ _ _⟩, fun _ => ⟨hge, hmx, fun _ _ => ⟨_, Inj.set_self _ _ _⟩⟩, fun h => absurd rfl h⟩
                            · cases h
                      · cases h
                  · cases h
            · cases h
        · cases h
      · cases h
    · cases h
  · cases h
end Go.As
namespace Go.As

/-! ### Maps -/
def upsert (es : List (Int × Value)) (n : Int) (v : Value) : List (Int × Value) :=
  match lk es n with
  | some _ => es.map fun p => if p.1 = n then (n, v) else p
  | none => es ++ [(n, v)]

theorem mem_modify {α : Type} {l : List α} {i : Nat} {g : α → α} {x : α} : x ∈ l.modify i g ↔ ∃ j, (if i = j then (l[j]?).map g else l[j]?) = some x := by
  rw [List.mem_iff_getElem?]
  constructor <;> rintro ⟨j, h⟩ <;> refine ⟨j, ?_⟩
  · rw [List.getElem?_modify] at h
    by_cases e : i = j
    · rw [if_pos e]; simpa [e] using h
    · rw [if_neg e]; simpa [e] using h
  · rw [List.getElem?_modify]
    by_cases e : i = j
    · rw [if_pos e] at h; simpa [e] using h
    · rw [if_neg e] at h; simpa [e] using h

theorem same_index {α β : Type} {p : α → β} : ∀ {l : List α}, (l.map p).Nodup → ∀ {i j : Nat} {x : α}, l[i]? = some x → l[j]? = some x → i = j
  | [], _, i, j, x, h, _ => by simp at h
  | a :: l, hn, i, j, x, hi, hj => by
    simp only [List.map_cons, List.nodup_cons] at hn
    cases i with
    | zero =>
      cases j with
      | zero => rfl
      | succ j =>
        simp at hi hj
        subst hi
        exact absurd (List.mem_map_of_mem (List.mem_of_getElem? hj)) hn.1
    | succ i =>
      cases j with
      | zero =>
        simp at hi hj
        subst hj
        exact absurd (List.mem_map_of_mem (List.mem_of_getElem? hi)) hn.1
      | succ j => exact congrArg (· + 1) (same_index hn.2 (by simpa using hi) (by simpa using hj))

theorem map_modify {α β : Type} {l : List α} {i : Nat} {g : α → α} {p : α → β} (h : ∀ x, l[i]? = some x → p (g x) = p x) : (l.modify i g).map p = l.map p := by
  apply List.ext_getElem?
  intro j
  rw [List.getElem?_map, List.getElem?_map, List.getElem?_modify]
  by_cases e : i = j
  · subst e
    cases hx : l[i]? with
    | none => simp
    | some x => simp [h x hx]
  · simp [e]

theorem MapOk.update {f : Inj} {k : IntKind} {es : List (Int × Value)} {l : List MapEntry} {clock : Nat} (hm : MapOk f k es l clock) {n : Int} {v v' : Value} (hv : VRel f v v') {i : Nat} {e : MapEntry} (hi : l[i]? = some e) (hk : e.key = .int k n) {u : Value} (hl : lk es n = some u) :
    MapOk f k (upsert es n v) (l.modify i fun e => { e with key := .int k n, val := v' }) clock := by
  have hup : upsert es n v = es.map fun p => if p.1 = n then (n, v) else p := by unfold upsert; rw [hl]
  rw [hup]
  have hother : ∀ j x, l[j]? = some x → x.key ≠ .int k n → i ≠ j := by
    intro j x hx hne e
    subst e
    rw [hi] at hx
    cases hx
    exact hne hk
  refine ⟨?_, ?_, ?_, ?_, ?_, ?_⟩
  · have : (es.map fun p => if p.1 = n then (n, v) else p).map (·.1) = es.map (·.1) := by
      rw [List.map_map]
      apply List.map_congr_left
      intro p _
      simp only [Function.comp]
      split
      · rename_i e; exact e.symm
      · rfl
    rw [this]
    exact hm.nodup
  · intro m w0 hin
    obtain ⟨⟨m0, w1⟩, h1, h2⟩ := List.mem_map.1 hin
    simp only at h2
    split at h2
    · rename_i e0
      simp only [Prod.mk.injEq] at h2
      obtain ⟨rfl, rfl⟩ := h2
      exact ⟨{ e with key := .int k n, val := v' }, mem_modify.2 ⟨i, by simp [hi]⟩, rfl, hv⟩
    · rename_i e0
      simp only [Prod.mk.injEq] at h2
      obtain ⟨rfl, rfl⟩ := h2
      obtain ⟨x, hx, hkx, hvx⟩ := hm.to m0 w1 h1
      obtain ⟨j, hj⟩ := List.mem_iff_getElem?.1 hx
      refine ⟨x, mem_modify.2 ⟨j, ?_⟩, hkx, hvx⟩
      rw [if_neg (hother j x hj (by rw [hkx]; intro h; injection h with _ h; exact e0 h))]
      exact hj
  · intro x hx
    obtain ⟨j, hj⟩ := mem_modify.1 hx
    split at hj
    · rename_i e0
      subst e0
      rw [hi] at hj
      simp only [Option.map_some, Option.some.injEq] at hj
      subst hj
      refine ⟨n, v, rfl, List.mem_map.2 ⟨(n, u), lk_mem hl, by simp⟩⟩
    · rename_i e0
      obtain ⟨m, w0, h1, h2⟩ := hm.of x (List.mem_of_getElem? hj)
      have hmn : m ≠ n := by
        intro e1
        subst e1
        have := inj_of_nodup_map hm.keys (List.mem_of_getElem? hi) (List.mem_of_getElem? hj) (hk.trans h1.symm)
        subst this
        exact e0 (same_index hm.born hi hj)
      exact ⟨m, w0, h1, List.mem_map.2 ⟨(m, w0), h2, by simp [hmn]⟩⟩
  · rw [map_modify (p := fun x : MapEntry => x.key) (fun x hx => by rw [hi] at hx; cases hx; exact hk.symm)]
    exact hm.keys
  · rw [map_modify (g := fun e : MapEntry => { e with key := .int k n, val := v' }) (p := fun x : MapEntry => x.born) (fun x hx => rfl)]
    exact hm.born
  · intro x hx
    obtain ⟨j, hj⟩ := mem_modify.1 hx
    split at hj
    · rename_i e0
      subst e0
      rw [hi] at hj
      simp only [Option.map_some, Option.some.injEq] at hj
      subst hj
      exact hm.lt e (List.mem_of_getElem? hi)
    · exact hm.lt x (List.mem_of_getElem? hj)

theorem MapOk.insert {f : Inj} {k : IntKind} {es : List (Int × Value)} {l : List MapEntry} {clock : Nat} (hm : MapOk f k es l clock) {n : Int} {v v' : Value} (hv : VRel f v v') (hl : lk es n = none) :
    MapOk f k (upsert es n v) (l ++ [{ key := .int k n, val := v', born := clock }]) (clock + 1) := by
  have hup : upsert es n v = es ++ [(n, v)] := by unfold upsert; rw [hl]
  rw [hup]
  have hno : ∀ e, e ∈ l → e.key ≠ .int k n := by
    intro e he hk
    obtain ⟨m, u, h1, h2⟩ := hm.of e he
    rw [hk] at h1
    injection h1 with _ h1
    subst h1
    exact lk_none hl u h2
  refine ⟨?_, ?_, ?_, ?_, ?_, ?_⟩
  · rw [List.map_append]
    refine List.nodup_append.2 ⟨hm.nodup, by simp, ?_⟩
    intro a ha b hb
    simp only [List.map_cons, List.map_nil, List.mem_singleton] at hb
    subst hb
    intro e
    subst e
    obtain ⟨⟨m, u⟩, h1, h2⟩ := List.mem_map.1 ha
    simp only at h2
    subst h2
    exact lk_none hl u h1
  · intro m u hin
    rcases List.mem_append.1 hin with h | h
    · obtain ⟨e, h1, h2, h3⟩ := hm.to m u h
      exact ⟨e, List.mem_append_left _ h1, h2, h3⟩
    · simp only [List.mem_singleton, Prod.mk.injEq] at h
      obtain ⟨rfl, rfl⟩ := h
      exact ⟨_, List.mem_append_right _ (List.mem_singleton.2 rfl), rfl, hv⟩
  · intro e he
    rcases List.mem_append.1 he with h | h
    · obtain ⟨m, u, h1, h2⟩ := hm.of e h
      exact ⟨m, u, h1, List.mem_append_left _ h2⟩
    · rw [List.mem_singleton.1 h]
      exact ⟨n, v, rfl, List.mem_append_right _ (List.mem_singleton.2 rfl)⟩
  · rw [List.map_append]
    refine List.nodup_append.2 ⟨hm.keys, by simp, ?_⟩
    intro a ha b hb
    simp only [List.map_cons, List.map_nil, List.mem_singleton] at hb
    subst hb
    obtain ⟨e, h1, h2⟩ := List.mem_map.1 ha
    intro e1
    exact hno e h1 (h2.trans e1)
  · rw [List.map_append]
    refine List.nodup_append.2 ⟨hm.born, by simp, ?_⟩
    intro a ha b hb
    simp only [List.map_cons, List.map_nil, List.mem_singleton] at hb
    subst hb
    obtain ⟨e, h1, h2⟩ := List.mem_map.1 ha
    have := hm.lt e h1
    omega
  · intro e he
    rcases List.mem_append.1 he with h | h
    · have := hm.lt e h; omega
    · rw [List.mem_singleton.1 h]; exact Nat.lt_succ_self _

def mapUpdateA (P : Program) (t : TypeId) (m k v : Value) (σ : St) : Option St :=
  match P.underlying t, m, k with
  | some (.map kt _), .map (some r), .int ik n =>
    match P.underlying kt, σ.get r with
    | some (.int _), some (.map ik' es) => if ik' = ik then some (σ.put r (.map ik (upsert es n v))) else none
    | _, _ => none
  | _, _, _ => none

theorem run_setObj {P : Program} {w : World} {c : Nat} {es : Array MapEntry} {clock : Nat} (h : w.heap[c]? = some (.map es clock)) (o : Obj) : (setObj c o).run P w = .ok () (upd w c o) := by
  simp [setObj, Sem.run, h, upd]

theorem mapUpdateA_ok {P : Program} {f : Inj} {σ σ' : St} {w : World} (hR : Rel f σ w) {t : TypeId} {m m' k k' v v' : Value} (hm : VRel f m m') (hk : VRel f k k') (hv : VRel f v v') (h : mapUpdateA P t m k v σ = some σ') :
    ∃ w', (Instr.mapUpdate t m' k' v').run P w = .ok () w' ∧ Ext f σ w f σ' w' ∧ Rel f σ' w' := by
  unfold mapUpdateA at h
  split at h
  · rename_i kt et r ik n hu
    obtain ⟨r', q, rfl, hf⟩ := hm.map_of
    have e := hk.int_of
    subst e
    split at h
    · rename_i kd ik' es hkt hb
      split at h
      · rename_i hik
        subst hik
        cases h
        obtain ⟨es', clock, hc, hok⟩ := hR.map hb hf
        obtain ⟨rr, hrun, hp⟩ := hok.find (P := P) hkt n w
        cases rr with
        | none =>
          refine ⟨upd w r' (.map (es'.push { key := .int ik' n, val := v', born := clock }) (clock + 1)), ?_, Ext.upd hb hf rfl, Rel.upd hR hb hf ?_⟩
          · unfold Instr.mapUpdate
            simp only [Sem.run_bind, run_underlying hu, Result.andThen_ok, run_getObj_map hc, run_checkKey_int hkt, hrun, run_setObj hc]
          · refine .map _ _ _ _ ?_
            have := hok.insert hv hp
            simpa using this
        | some jv =>
          obtain ⟨j, u'⟩ := jv
          obtain ⟨e, u, h1, h2, h3, h4, h5⟩ := hp
          have h1' : es'[j]? = some e := by rw [← Array.getElem?_toList]; exact h1
          refine ⟨upd w r' (.map (es'.modify j fun e => { e with key := .int ik' n, val := v' }) clock), ?_, Ext.upd hb hf rfl, Rel.upd hR hb hf ?_⟩
          · unfold Instr.mapUpdate
            have hst : (Instr.keyThatStays (((es'[j]?).map (·.key)).getD (.int ik' n)) (.int ik' n)).run P w = .ok (.int ik' n) w := by
              rw [h1']
              simp [Instr.keyThatStays, h2, Instr.sameBits]
            simp only [Sem.run_bind, run_underlying hu, Result.andThen_ok, run_getObj_map hc, run_checkKey_int hkt, hrun, hst, run_setObj hc]
          · refine .map _ _ _ _ ?_
            have := hok.update hv h1 h2 h4
            simpa using this
      · cases h
    · cases h
  · cases h

def deleteA (P : Program) (ats : Array TypeId) (args : List Value) (σ : St) : Option (Value × St) :=
  match ats[0]?, args with
  | some t, [.map (some r), .int ik n] =>
    match P.underlying t with
    | some (.map kt _) =>
      match P.underlying kt, σ.get r with
      | some (.int _), some (.map ik' es) => if ik' = ik then some (.tuple #[], σ.put r (.map ik (es.filter fun p => p.1 ≠ n))) else none
      | _, _ => none
    | _ => none
  | _, _ => none

theorem MapOk.erase {f : Inj} {k : IntKind} {es : List (Int × Value)} {l : List MapEntry} {clock : Nat} (hm : MapOk f k es l clock) {n : Int} {i : Nat} {e : MapEntry} (hi : l[i]? = some e) (hk : e.key = .int k n) :
    MapOk f k (es.filter fun p => p.1 ≠ n) (l.eraseIdx i) clock := by
  have hsub : (l.eraseIdx i).Sublist l := List.eraseIdx_sublist l i
  refine ⟨?_, ?_, ?_, ?_, ?_, ?_⟩
  · exact List.Nodup.sublist (List.Sublist.map _ List.filter_sublist) hm.nodup
  · intro m u hin
    obtain ⟨h1, h2⟩ := List.mem_filter.1 hin
    obtain ⟨x, hx, hkx, hvx⟩ := hm.to m u h1
    obtain ⟨j, hj⟩ := List.mem_iff_getElem?.1 hx
    refine ⟨x, List.mem_eraseIdx_iff_getElem?.2 ⟨j, ?_, hj⟩, hkx, hvx⟩
    intro e0
    subst e0
    rw [hi] at hj
    cases hj
    rw [hk] at hkx
    injection hkx with _ hkx
    simp only [ne_eq, decide_not, Bool.not_eq_true', decide_eq_false_iff_not] at h2
    exact h2 hkx.symm
  · intro x hx
    obtain ⟨j, hji, hj⟩ := List.mem_eraseIdx_iff_getElem?.1 hx
    obtain ⟨m, u, h1, h2⟩ := hm.of x (List.mem_of_getElem? hj)
    refine ⟨m, u, h1, List.mem_filter.2 ⟨h2, ?_⟩⟩
    simp only [ne_eq, decide_not, Bool.not_eq_true', decide_eq_false_iff_not]
    intro e1
    subst e1
    have := inj_of_nodup_map hm.keys (List.mem_of_getElem? hi) (List.mem_of_getElem? hj) (hk.trans h1.symm)
    subst this
    exact hji (same_index hm.born hi hj).symm
  · exact List.Nodup.sublist (List.Sublist.map _ hsub) hm.keys
  · exact List.Nodup.sublist (List.Sublist.map _ hsub) hm.born
  · intro x hx
    exact hm.lt x (hsub.subset hx)

theorem deleteA_ok {P : Program} {f : Inj} {σ σ' : St} {w : World} (hR : Rel f σ w) {ats : Array TypeId} {ty : TypeId} {args : List Value} {args' : Array Value} (ha : LRel f args args'.toList) {v : Value}
    (h : deleteA P ats args σ = some (v, σ')) : ∃ v' w', (Builtin.delete_ ats ty args').run P w = .ok v' w' ∧ Ext f σ w f σ' w' ∧ Rel f σ' w' ∧ VRel f v v' := by
  obtain ⟨args'⟩ := args'
  simp only at ha
  unfold deleteA at h
  split at h
  · rename_i t r ik n ht
    obtain ⟨m', k', rfl, hm, hk⟩ := list2 ha
    obtain ⟨r', q, rfl, hf⟩ := hm.map_of
    have e := hk.int_of
    subst e
    split at h
    · rename_i kt et hu
      split at h
      · rename_i kd ik' es hkt hb
        split at h
        · rename_i hik
          subst hik
          cases h
          obtain ⟨es', clock, hc, hok⟩ := hR.map hb hf
          obtain ⟨rr, hrun, hp⟩ := hok.find (P := P) hkt n w
          cases rr with
          | none =>
            refine ⟨.tuple #[], upd w r' (.map es' clock), ?_, Ext.upd hb hf rfl, Rel.upd hR hb hf ?_, VRel.closed f rfl⟩
            · unfold Builtin.delete_
              simp only [ht, List.getElem?_toArray, List.getElem?_cons_zero, List.getElem?_cons_succ, Sem.run_bind, run_underlying hu, Result.andThen_ok, run_getObj_map hc, run_checkKey_int hkt, hrun, run_setObj hc, Sem.run_pure]
            · refine .map _ _ _ _ ?_
              have e1 : (es.filter fun p => p.1 ≠ n) = es := List.filter_eq_self.2 (fun p hp' => by
                simp only [ne_eq, decide_not, Bool.not_eq_true', decide_eq_false_iff_not]
                intro e2
                obtain ⟨m, u⟩ := p
                simp only at e2
                subst e2
                exact lk_none hp u hp')
              rw [e1]
              exact hok
          | some jv =>
            obtain ⟨j, u'⟩ := jv
            obtain ⟨e, u, h1, h2, h3, h4, h5⟩ := hp
            refine ⟨.tuple #[], upd w r' (.map (es'.eraseIdxIfInBounds j) clock), ?_, Ext.upd hb hf rfl, Rel.upd hR hb hf ?_, VRel.closed f rfl⟩
            · unfold Builtin.delete_
              simp only [ht, List.getElem?_toArray, List.getElem?_cons_zero, List.getElem?_cons_succ, Sem.run_bind, run_underlying hu, Result.andThen_ok, run_getObj_map hc, run_checkKey_int hkt, hrun, run_setObj hc, Sem.run_pure]
            · refine .map _ _ _ _ ?_
              have := hok.erase h1 h2
              simpa using this
        · cases h
      · cases h
    · cases h
  · cases h
end Go.As
namespace Go.As

/-- A row of cells put into a block. -/
def putRow (σ : St) (a : Addr) (vs : List Value) : Option St :=
  match σ.get a.block with
  | some (.cells cs e kd) => if kd ≠ .ro ∧ vs.all Value.oneCell' = true ∧ a.off + vs.length ≤ cs.length then some (σ.put a.block (.cells (splice cs a.off vs) e kd)) else none
  | some (.blob n) => if vs.all Value.oneCell' = true ∧ a.off + vs.length ≤ n then some (σ.put a.block (.blob n)) else none
  | _ => none

theorem putRow_ok {P : Program} {f : Inj} {σ σ' : St} {w : World} (hR : Rel f σ w) {a a' : Addr} (hp : PtrOk f a a') {vs vs' : List Value} (hv : LRel f vs vs') (h : putRow σ a vs = some σ') :
    ∃ w', (storeCells a' vs').run P w = .ok () w' ∧ Ext f σ w f σ' w' ∧ Rel f σ' w' := by
  unfold putRow at h
  split at h
  · rename_i cs e kd hb
    split at h
    · rename_i hc
      cases h
      obtain ⟨k, hf⟩ := hp.blk
      obtain ⟨cs', fr, hcc, hl, hle, hfr, hvec⟩ := hR.cells hb hf
      have hw : (AObj.cells cs e kd).writable = true := by cases kd <;> first | rfl | exact absurd rfl hc.1
      refine ⟨upd w a'.block (.cells (splice cs'.toList (a.off + 0) vs').toArray e fr), ?_, Ext.upd hb hf hw, Rel.upd hR hb hf (ObjRel.spliced hl hle hfr hvec hv hc.2.2)⟩
      rw [hp.eq.2]
      exact run_storeCells _ _ e fr _ 0 cs' w hcc (hfr hc.1).not (by rw [← hv.1]; have := hc.2.2; omega) (LRel.oneCells hv hc.2.1)
    · cases h
  · rename_i n hb
    split at h
    · rename_i hc
      cases h
      obtain ⟨k, hf⟩ := hp.blk
      obtain ⟨cs', e, fr, hcc, hsz, hfr⟩ := hR.blob hb hf
      have hlen : (splice cs'.toList (a.off + 0) vs').length = cs'.toList.length := splice_length _ _ _ (by have := hc.2; rw [← hv.1]; simp; omega)
      refine ⟨upd w a'.block (.cells (splice cs'.toList (a.off + 0) vs').toArray e fr), ?_, Ext.upd hb hf rfl, Rel.upd hR hb hf (.blob n e _ fr (by rw [List.size_toArray, hlen]; simpa using hsz) (by rw [List.size_toArray, hlen]; simpa using hfr))⟩
      rw [hp.eq.2]
      exact run_storeCells _ _ e fr _ 0 cs' w hcc hfr.not (by rw [← hv.1]; have := hc.2; omega) (LRel.oneCells hv hc.1)
    · cases h
  · cases h

def copyA (P : Program) (ats : Array TypeId) (args : List Value) (σ : St) : Option (Value × St) :=
  match ats[0]?, args with
  | some t, [.slice ao dl _, .slice bo sl _] =>
    match P.underlying t with
    | some (.slice elem) =>
      match P.info? elem with
      | some it =>
        if min sl dl = 0 then some (.int .i64 0, σ) else
        match ao, bo with
        | some a, some b =>
          match σ.get b.block with
          | some (.cells cs _ _) =>
            if b.off + min sl dl * it.size ≤ cs.length then (putRow σ a ((cs.drop b.off).take (min sl dl * it.size))).map fun σ' => (.int .i64 (min sl dl : Nat), σ') else none
          | _ => none
        | _, _ => none
      | none => none
    | _ => none
  | _, _ => none

theorem copyA_ok {P : Program} {f : Inj} {σ σ' : St} {w : World} (hR : Rel f σ w) {ats : Array TypeId} {ty : TypeId} {args : List Value} {args' : Array Value} (ha : LRel f args args'.toList) {v : Value}
    (h : copyA P ats args σ = some (v, σ')) : ∃ v' w', (Builtin.copy_ ats ty args').run P w = .ok v' w' ∧ Ext f σ w f σ' w' ∧ Rel f σ' w' ∧ VRel f v v' := by
  obtain ⟨args'⟩ := args'
  simp only at ha
  unfold copyA at h
  split at h
  · rename_i t ao dl dc bo sl sc ht
    obtain ⟨d', s', rfl, hd, hs⟩ := list2 ha
    split at h
    · rename_i elem hu
      split at h
      · rename_i it hi
        have hmin : Nat.min sl dl = min sl dl := rfl
        split at h
        · rename_i h0
          cases h
          have hdd : ∃ ao' dc', d' = .slice ao' dl dc' := by cases hd <;> exact ⟨_, _, rfl⟩
          have hss : ∃ bo' sc', s' = .slice bo' sl sc' := by cases hs <;> exact ⟨_, _, rfl⟩
          obtain ⟨ao', dc', rfl⟩ := hdd
          obtain ⟨bo', sc', rfl⟩ := hss
          refine ⟨.int .i64 0, w, ?_, Ext.refl f σ w, hR, .int _ _⟩
          unfold Builtin.copy_
          cases ao' <;> cases bo' <;> simp [ht, run_underlying hu, Builtin.lenOf, hmin, h0, run_sizeOf hi, Builtin.firstCells, loadCells, loadCellsFrom, storeCells, goInt]
        · rename_i h0
          split at h
          · rename_i a b
            obtain ⟨a', dc', rfl, hpd⟩ := hd.slice_of
            obtain ⟨b', sc', rfl, hps⟩ := hs.slice_of
            have pd := hpd.ptr (by omega)
            have ps := hps.ptr (by omega)
            split at h
            · rename_i cs e kd hb
              split at h
              · rename_i hle
                cases hpr : putRow σ a ((cs.drop b.off).take (min sl dl * it.size)) with
                | none => rw [hpr] at h; cases h
                | some σ1 =>
                  rw [hpr] at h
                  cases h
                  obtain ⟨k, hf⟩ := ps.blk
                  obtain ⟨vs, hload, hrel, hlen⟩ := hR.row (P := P) hb hf hle
                  rw [← ps.eq.2] at hload
                  obtain ⟨w', hst, hext, hrel'⟩ := putRow_ok (P := P) hR pd hrel hpr
                  refine ⟨.int .i64 (min sl dl : Nat), w', ?_, hext, hrel', .int _ _⟩
                  unfold Builtin.copy_
                  simp [ht, run_underlying hu, Builtin.lenOf, hmin, run_sizeOf hi, Builtin.firstCells, hload, hst, goInt]
              · cases h
            · cases h
          · cases h
      · cases h
    · cases h
  · cases h

def clearA (P : Program) (ats : Array TypeId) (args : List Value) (σ : St) : Option (Value × St) :=
  match ats[0]?, args with
  | some t, [.slice (some a) n _] =>
    match P.underlying t with
    | some (.slice elem) =>
      match zeroV P elem with
      | some z => if n = 0 ∨ z.cells.size = 0 then none else (putRow σ a (zerosL z.cells (n * z.cells.size))).map fun σ' => (.tuple #[], σ')
      | none => none
    | _ => none
  | _, _ => none

theorem clearA_ok {P : Program} {f : Inj} {σ σ' : St} {w : World} (hR : Rel f σ w) {ats : Array TypeId} {ty : TypeId} {args : List Value} {args' : Array Value} (ha : LRel f args args'.toList) {v : Value}
    (h : clearA P ats args σ = some (v, σ')) : ∃ v' w', (Builtin.clear_ ats ty args').run P w = .ok v' w' ∧ Ext f σ w f σ' w' ∧ Rel f σ' w' ∧ VRel f v v' := by
  obtain ⟨args'⟩ := args'
  simp only at ha
  unfold clearA at h
  split at h
  · rename_i t a n c ht
    obtain ⟨x', rfl, hx⟩ := list1 ha
    obtain ⟨a', c', rfl, hp⟩ := hx.slice_of
    split at h
    · rename_i elem hu
      split at h
      · rename_i z hz
        split at h
        · cases h
        · rename_i h0
          have hn0 : n ≠ 0 := fun e => h0 (.inl e)
          have hz0 : z.cells.size ≠ 0 := fun e => h0 (.inr e)
          cases hpr : putRow σ a (zerosL z.cells (n * z.cells.size)) with
          | none => rw [hpr] at h; cases h
          | some σ1 =>
            rw [hpr] at h
            cases h
            obtain ⟨hzr, hzc⟩ := zeroV_spec hz w
            have hrel : LRel f (zerosL z.cells (n * z.cells.size)) (Builtin.zeroCells z.cells n).toList := zerosL_rel (closedV_cells hzc) _ (.inr hz0)
            obtain ⟨w', hst, hext, hrel'⟩ := putRow_ok (P := P) hR (hp.ptr (by omega)) hrel hpr
            refine ⟨.tuple #[], w', ?_, hext, hrel', VRel.closed f rfl⟩
            unfold Builtin.clear_
            obtain ⟨m, rfl⟩ : ∃ m, n = m + 1 := ⟨n - 1, by omega⟩
            simp only [ht, List.getElem?_toArray, List.getElem?_cons_zero, Sem.run_bind, run_underlying hu, Result.andThen_ok, hzr, hst, Sem.run_pure]
      · cases h
    · cases h
  · cases h

/-- A row of bytes said to be one of bytes: its block is marked behind its cells. -/
def markA (P : Program) (s d : TypeId) (x : Value) (σ : St) : Option (Value × St) :=
  match P.underlying s, P.underlying d, x with
  | some (.slice _), some (.slice e), .slice (some a) n c =>
    match σ.get a.block with
    | some (.cells cs t kd) => if s = d ∧ isU8 P e = true ∧ kd ≠ .ro ∧ (0 < n ∨ (c ≠ unk ∧ 0 < c)) then some (x, σ.put a.block (.cells cs t kd)) else none
    | _ => none
  | _, _, _ => none

theorem modify_upd {w : World} {b : Nat} {g : Obj → Obj} {o : Obj} (h : w.heap[b]? = some o) : { w with heap := w.heap.modify b g } = upd w b (g o) := by
  obtain ⟨hb, e⟩ := Array.getElem?_eq_some_iff.1 h
  unfold upd
  congr 1
  apply Array.ext_getElem?
  intro i
  by_cases hi : b = i
  · subst hi
    rw [Array.getElem?_modify, if_pos rfl, h]
    simp [hb]
  · rw [Array.getElem?_setIfInBounds_ne hi, Array.getElem?_modify]
    simp [hi]

theorem markA_ok {P : Program} {f : Inj} {σ σ' : St} {w : World} (hR : Rel f σ w) {s d : TypeId} {x x' v : Value} (hx : VRel f x x') (h : markA P s d x σ = some (v, σ')) :
    ∃ v' w', (Go.convert s d x').run P w = .ok v' w' ∧ Turns f σ w v σ' v' w' := by
  unfold markA at h
  split at h
  · rename_i e0 e a n c hs hd
    split at h
    · rename_i cs t kd hb
      split at h
      · rename_i hc
        obtain ⟨rfl, hu8, hkd, hlive⟩ := hc
        cases h
        obtain ⟨a', c', rfl, hp⟩ := hx.slice_of
        obtain ⟨hoff, k, hf⟩ := hp.live hlive
        obtain ⟨cs', fr, hcc, hl, hle, hfr, hvec⟩ := hR.cells hb hf
        have hw : (AObj.cells cs t kd).writable = true := by cases kd <;> first | rfl | exact absurd rfl hkd
        have hsh : (shape a'.block).run P w = .ok (some (t, cs'.size)) w := by
          show Result.ok (w.shape? a'.block) w = _
          simp [World.shape?, hcc]
        refine ⟨.slice (some a') n c', upd w a'.block (.cells cs' t (if fr.1 == fr.2 then (cs'.size, cs'.size + 1) else (min fr.1 cs'.size, max fr.2 (cs'.size + 1)))), ?_, f, Ext.upd hb hf hw, Rel.upd hR hb hf ?_, hx⟩
        · unfold Go.convert
          have he := isU8_spec hu8
          have hd' := hd
          rw [hs] at hd'
          cases hd'
          simp only [Sem.run_bind, run_underlying hs, run_underlying he, Result.andThen_ok, beq_self_eq_true]
          unfold markStringish
          rw [Sem.run_bind, hsh]
          simp only [Result.andThen_ok]
          have hfz : (freeze { block := a'.block, off := cs'.size } 1).run P w = .ok () (w.freeze { block := a'.block, off := cs'.size } 1) := rfl
          rw [hfz]
          simp only [Result.andThen_ok, Sem.run_pure]
          congr 1
          unfold World.freeze
          simp only [Nat.one_ne_zero, if_false]
          rw [modify_upd hcc]
        · refine .cells cs t kd cs' _ (cs'.toList.drop cs.length) hl (List.take_append_drop _ _).symm ?_ hvec
          intro _
          by_cases h0 : fr.1 = fr.2
          · simp only [h0, beq_self_eq_true, if_true]; exact .inr (Nat.le_refl _)
          · have hb0 : (fr.1 == fr.2) = false := by simpa using h0
            rw [hb0]
            simp only [Bool.false_eq_true, if_false]
            rcases hfr hkd with h1 | h1
            · exact absurd h1 h0
            · exact .inr (by dsimp only; omega)
      · cases h
    · cases h
  · cases h

/-! ### Calls -/
def CallsA (P : Program) (g : FuncId) (args : List Value) (σ : St) (v : Value) (σ' : St) : Prop :=
  ∀ (f : Inj) (w : World) (args' : Array Value), Rel f σ w → LRel f args args'.toList → Calls P g args' w fun e w' => ∃ v', e = .returned v' ∧ Turns f σ w v σ' v' w'

/-- A function that a call enters. -/
def Callable (P : Program) (g : FuncId) : Prop := ∃ fn, P.funcs[g]? = some fn ∧ (fn.name == "runtime.NumGoroutine") = false ∧ fn.body.isNone = false

theorem run_callFunc {P : Program} {g : FuncId} (h : Callable P g) (args : Array Value) (w : World) : (callFunc g args).run P w = .ok (.enter g args) w := by
  obtain ⟨fn, h1, h2, h3⟩ := h
  unfold callFunc
  rw [Sem.run_bind, run_program, Result.andThen_ok]
  simp only [h1, h2, Bool.false_eq_true, if_false, h3]
  rfl

abbrev Kn := FuncId → List Value → St → Option (Value × St)

def Kn.ok (P : Program) (K : Kn) : Prop := ∀ g args σ v σ', K g args σ = some (v, σ') → Callable P g ∧ CallsA P g args σ v σ'

/-- The block under which what an operation makes is kept, and the next number then. -/
def place (σ : St) : Option Nat → Nat × Nat
  | none => (σ.next, σ.next + 1)
  | some b => (b, σ.next)

def allocTo (P : Program) (ρ : Operand → Value) (nid : Option Nat) (o : Oper) (σ : St) : Option (Value × St) :=
  (allocA P ρ o).map fun p => (p.2 (place σ nid).1, σ.at (place σ nid).1 p.1 (place σ nid).2)

def writesA (P : Program) (K : Kn) (ρ : Operand → Value) (o : Oper) (σ : St) : Option (Value × St) :=
  match o.op with
  | .store t a v => (storeA P t (ρ a) (ρ v) σ).map (undef, ·)
  | .mapUpdate t m k v => (mapUpdateA P t (ρ m) (ρ k) (ρ v) σ).map (undef, ·)
  | .insert t m k v => (mapUpdateA P t (ρ m) (ρ k) (ρ v) σ).map (undef, ·)
  | .convert s d x => markA P s d (ρ x) σ
  | .call c =>
    match c.callee with
    | .builtin .append => appendA P c.argTypes (c.args.toList.map ρ) σ
    | .builtin .delete => deleteA P c.argTypes (c.args.toList.map ρ) σ
    | .builtin .copy => copyA P c.argTypes (c.args.toList.map ρ) σ
    | .builtin .clear => clearA P c.argTypes (c.args.toList.map ρ) σ
    | .value x =>
      match ρ x with
      | .func (.func g) ⟨[]⟩ cap => K g (c.args.toList.map ρ ++ cap.toList) σ
      | _ => none
    | _ => none
  | _ => none

/-- Which kind an operation is of: silent, making, writing. -/
inductive OKind where
  | silent | makes | writes
  deriving DecidableEq

def okind (P : Program) (o : Oper) : OKind :=
  match o.op with
  | .store .. | .mapUpdate .. | .insert .. => .writes
  | .alloc _ | .box .. | .buildSlice .. | .makeMap .. | .makeSlice .. => .makes
  | .convert s d _ => match P.underlying d with | some (.slice _) => (match P.underlying s with | some (.slice _) => .writes | _ => .makes) | _ => .silent
  | .call c =>
    match c.callee with
    | .builtin .append | .builtin .delete | .builtin .copy | .builtin .clear | .value _ => .writes
    | _ => .silent
  | _ => .silent

def evOper (P : Program) (K : Kn) (nid : Option Nat) (T : List Value) (o : Oper) (σ : St) : Option (Value × St) :=
  match okind P o with
  | .silent => (silentA P (evA T) σ.get o).map (·, σ)
  | .makes => allocTo P (evA T) nid o σ
  | .writes => writesA P K (evA T) o σ

/-- The model's operation comes to such a value and world. -/
def OpTo (P : Program) (o : Oper) (a : Act) (w : World) (R : Value → World → Prop) : Prop :=
  ∀ (next : Act → World → Prop) (Q : Exit → Act → World → Prop), (∀ v' w', R v' w' → next (a.put o.dst v') w') → o.wp P a w next Q

theorem OpTo.value {P : Program} {o : Oper} {a : Act} {w : World} {R : Value → World → Prop} {v' : Value} {w' : World} (h : (execOp a.eval o).run P w = .ok (.value v') w') (hr : R v' w') : OpTo P o a w R := by
  intro next Q hn
  unfold Oper.wp
  rw [h]
  exact hn v' w' hr
theorem OpTo.skip {P : Program} {o : Oper} {a : Act} {w : World} {R : Value → World → Prop} {w' : World} (h : (execOp a.eval o).run P w = .ok .skip w') (hr : R undef w') : OpTo P o a w R := by
  intro next Q hn
  unfold Oper.wp
  rw [h]
  exact hn undef w' hr

theorem run_u {P : Program} {s : Sem Unit} {w w' : World} (h : s.run P w = .ok () w') : ((do s; pure Next.skip : Sem Next)).run P w = .ok .skip w' := by
  rw [Sem.run_bind, h]; rfl

theorem writesA_ok {P : Program} {K : Kn} (hK : K.ok P) {f : Inj} {σ σ' : St} {w : World} (hR : Rel f σ w) {T : List Value} {a : Act} (hT : LRel f T a.tmps.toList) {o : Oper} (ho : operOk o = true) {v : Value}
    (h : writesA P K (evA T) o σ = some (v, σ')) : OpTo P o a w fun v' w' => Turns f σ w v σ' v' w' := by
  obtain ⟨dst, op, type, pos, after, guard⟩ := o
  unfold writesA at h
  unfold operOk at ho
  cases op <;> simp only [Op.operands] at h ho <;> try (cases h; done)
  case store t x y =>
    simp only [List.all_cons, List.all_nil, Bool.and_true, Bool.and_eq_true] at ho
    cases hs : storeA P t (evA T x) (evA T y) σ with
    | none => rw [hs] at h; cases h
    | some σ1 =>
      rw [hs] at h
      cases h
      obtain ⟨w', hr, hx, hR'⟩ := storeA_ok hR (evA_rel hT ho.1) (evA_rel hT ho.2) hs
      exact OpTo.skip (run_u hr) ⟨f, hx, hR', VRel.undef f⟩
  case mapUpdate t m k x =>
    simp only [List.all_cons, List.all_nil, Bool.and_true, Bool.and_eq_true] at ho
    cases hs : mapUpdateA P t (evA T m) (evA T k) (evA T x) σ with
    | none => rw [hs] at h; cases h
    | some σ1 =>
      rw [hs] at h
      cases h
      obtain ⟨w', hr, hx, hR'⟩ := mapUpdateA_ok hR (evA_rel hT ho.1) (evA_rel hT ho.2.1) (evA_rel hT ho.2.2) hs
      exact OpTo.skip (run_u hr) ⟨f, hx, hR', VRel.undef f⟩
  case insert t m k x =>
    simp only [List.all_cons, List.all_nil, Bool.and_true, Bool.and_eq_true] at ho
    cases hs : mapUpdateA P t (evA T m) (evA T k) (evA T x) σ with
    | none => rw [hs] at h; cases h
    | some σ1 =>
      rw [hs] at h
      cases h
      obtain ⟨w', hr, hx, hR'⟩ := mapUpdateA_ok hR (evA_rel hT ho.1) (evA_rel hT ho.2.1) (evA_rel hT ho.2.2) hs
      exact OpTo.skip (run_u hr) ⟨f, hx, hR', VRel.undef f⟩
  case convert s d x =>
    simp only [List.all_cons, List.all_nil, Bool.and_true] at ho
    obtain ⟨v', w', hr, ht⟩ := markA_ok hR (evA_rel hT ho) h
    exact OpTo.value (run_v hr) ht
  case call c =>
    obtain ⟨callee, args, ats⟩ := c
    cases callee with
    | invoke r n => cases h
    | builtin b =>
      simp only [Call.operands, Array.empty_append] at ho
      have hl : LRel f (args.toList.map (evA T)) (args.map a.eval).toList := by simpa using LRel.map_ev hT args.toList ho
      have hex : ∀ {s : Sem Value} {v' : Value} {w' : World}, (∀ cs, builtin b ats type cs (args.map a.eval) = (do pure (Next.value (← s)))) → s.run P w = .ok v' w' →
          (execOp a.eval ⟨dst, .call ⟨.builtin b, args, ats⟩, type, pos, after, guard⟩).run P w = .ok (.value v') w' := by
        intro s v' w' e hr
        unfold execOp
        simp only [resolve, Sem.run_bind, Sem.run_pure, Result.andThen_ok, invoke]
        rw [e]
        exact run_v hr
      cases b <;> simp only at h <;> try (cases h; done)
      case append =>
        obtain ⟨v', w', hr, ht⟩ := appendA_ok (ty := type) hR hl h
        exact OpTo.value (hex (fun _ => rfl) hr) ht
      case clear =>
        obtain ⟨v', w', hr, hx, hR', hv⟩ := clearA_ok (ty := type) hR hl h
        exact OpTo.value (hex (fun _ => rfl) hr) ⟨f, hx, hR', hv⟩
      case copy =>
        obtain ⟨v', w', hr, hx, hR', hv⟩ := copyA_ok (ty := type) hR hl h
        exact OpTo.value (hex (fun _ => rfl) hr) ⟨f, hx, hR', hv⟩
      case delete =>
        obtain ⟨v', w', hr, hx, hR', hv⟩ := deleteA_ok (ty := type) hR hl h
        exact OpTo.value (hex (fun _ => rfl) hr) ⟨f, hx, hR', hv⟩
    | value x =>
      simp only [Call.operands] at ho
      have ho' : opdOk x = true ∧ args.toList.all opdOk = true := by simpa using ho
      have hl : LRel f (args.toList.map (evA T)) (args.map a.eval).toList := by simpa using LRel.map_ev hT args.toList ho'.2
      have hx := evA_rel hT ho'.1
      simp only at h
      split at h
      · rename_i g cap hg
        rw [hg] at hx
        obtain ⟨hcall, hca⟩ := hK _ _ _ _ _ h
        have hxx : ∃ cap', a.eval x = .func (.func g) #[] cap' ∧ LRel f cap.toList cap'.toList := by
          generalize a.eval x = q at hx
          cases hx with
          | func _ _ cs' h1 h2 => exact ⟨cs', rfl, by simpa using h1, h2⟩
        obtain ⟨cap', e, hc⟩ := hxx
        have hrun : (execOp a.eval ⟨dst, .call ⟨.value x, args, ats⟩, type, pos, after, guard⟩).run P w = .ok (.enter g (args.map a.eval ++ cap')) w := by
          unfold execOp
          simp only [resolve, e, Deferred.ofValue, Sem.run_bind, Sem.run_pure, Result.andThen_ok, invoke, Array.empty_append]
          exact run_callFunc hcall _ w
        intro next Q hn
        unfold Oper.wp
        rw [hrun]
        refine (hca f w _ hR (by simpa using hl.append hc)).mono ?_
        rintro e' w' ⟨v', rfl, ht⟩
        exact hn v' w' ht
      · cases h

theorem evOper_ok {P : Program} {K : Kn} (hK : K.ok P) {f : Inj} {σ σ' : St} {w : World} (hR : Rel f σ w) {T : List Value} {a : Act} (hT : LRel f T a.tmps.toList) {o : Oper} (ho : operOk o = true) {v : Value}
    (h : evOper P K none T o σ = some (v, σ')) : OpTo P o a w fun v' w' => Turns f σ w v σ' v' w' := by
  unfold evOper at h
  split at h
  · cases hs : silentA P (evA T) σ.get o with
    | none => rw [hs] at h; cases h
    | some u =>
      rw [hs] at h
      cases h
      obtain ⟨v', hr, hv⟩ := silentA_ok hR hT ho hs
      exact OpTo.value hr ⟨f, Ext.refl f _ w, hR, hv⟩
  · unfold allocTo at h
    cases hs : allocA P (evA T) o with
    | none => rw [hs] at h; cases h
    | some p =>
      obtain ⟨ob, mk⟩ := p
      rw [hs] at h
      cases h
      obtain ⟨o', k, v', w', hr, h1, h2, h3, h4, h5, h6⟩ := (allocA_ok (w := w) hT ho hs (place σ none).1).ex
      exact OpTo.value hr ⟨_, Ext.made hR.fresh (Nat.le_refl _) (Nat.le_succ _) h1 h2 h3 h4, Rel.new hR hR.fresh (Nat.lt_succ_self _) (Nat.le_succ _) h1 h5, h6 _ (Inj.set_self _ _ _)⟩
  · exact writesA_ok hK hR hT ho h
end Go.As
namespace Go.As

def putL (T : List Value) (dst : Option Tmp) (v : Value) : List Value :=
  match dst with
  | some d => T.set d v
  | none => T

theorem putL_rel {f : Inj} {T : List Value} {a : Act} (h : LRel f T a.tmps.toList) (dst : Option Tmp) {v v' : Value} (hv : VRel f v v') : LRel f (putL T dst v) (a.put dst v').tmps.toList := by
  cases dst with
  | none => exact h
  | some d =>
    simp only [putL, Act.put, Array.toList_setIfInBounds]
    exact h.set d hv

theorem put_defers (a : Act) (dst : Option Tmp) (v : Value) : (a.put dst v).defers = a.defers := by cases dst <;> rfl

def yieldedL (ops : Array Oper) (T : List Value) (j : Nat) : Option Bool :=
  match ((ops[j]?).bind (·.dst)).bind (T[·]?) with
  | some (.bool b) => some b
  | _ => none

theorem yielded_rel {f : Inj} {T : List Value} {a : Act} (h : LRel f T a.tmps.toList) (ops : Array Oper) : yielded ops a.tmps = yieldedL ops T := by
  funext j
  unfold yielded yieldedL
  cases hd : (ops[j]?).bind (·.dst) with
  | none => rfl
  | some d =>
    simp only [Option.bind_some]
    cases hT : T[d]? with
    | none =>
      have : a.tmps[d]? = none := by
        rw [← Array.getElem?_toList, List.getElem?_eq_none_iff, ← h.1]
        exact List.getElem?_eq_none_iff.1 hT
      rw [this]
    | some x =>
      obtain ⟨x', hx', r⟩ := h.get hT
      rw [Array.getElem?_toList] at hx'
      rw [hx']
      cases r <;> first | rfl | (rename_i h; cases x' <;> first | rfl | cases h)

def evOps (P : Program) (K : Kn) (ops : Array Oper) : List Oper → List Value → St → Option (List Value × St)
  | [], T, σ => some (T, σ)
  | o :: l, T, σ =>
    if Region.wanted o (yieldedL ops T) then
      match evOper P K none T o σ with
      | some (v, σ') => evOps P K ops l (putL T o.dst v) σ'
      | none => none
    else evOps P K ops l (putL T o.dst undef) σ

/-- What stands behind a piece of code, in the model. -/
def After (f : Inj) (σ : St) (w : World) (T' : List Value) (σ' : St) (ds : List Deferred) (a' : Act) (w' : World) : Prop :=
  ∃ f', Ext f σ w f' σ' w' ∧ Rel f' σ' w' ∧ LRel f' T' a'.tmps.toList ∧ a'.defers = ds

theorem evOps_ok {P : Program} {K : Kn} (hK : K.ok P) {ops : Array Oper} {Q : Exit → Act → World → Prop} : ∀ (l : List Oper) (k : Nat) (T : List Value) (σ : St) (T' : List Value) (σ' : St) (f : Inj) (w : World) (a : Act),
    (∀ j, l[j]? = ops[k + j]?) → (∀ o, o ∈ l → operOk o = true) → evOps P K ops l T σ = some (T', σ') → Rel f σ w → LRel f T a.tmps.toList →
    (∀ a' w', After f σ w T' σ' a.defers a' w' → Q .normal a' w') → wpOps P ops Q (List.range' k l.length) a w
  | [], k, T, σ, T', σ', f, w, a, _, _, h, hR, hT, hQ => by
    simp only [evOps, Option.some.injEq, Prod.mk.injEq] at h
    obtain ⟨rfl, rfl⟩ := h
    exact hQ a w ⟨f, Ext.refl f _ w, hR, hT, rfl⟩
  | o :: l, k, T, σ, T', σ', f, w, a, hl, ho, h, hR, hT, hQ => by
    have h0 : ops[k]? = some o := by simpa using (hl 0).symm
    have hl' : ∀ j, l[j]? = ops[k + 1 + j]? := fun j => by have := hl (j + 1); simpa [Nat.add_assoc, Nat.add_comm 1 j] using this
    simp only [List.length_cons, List.range'_succ, wpOps, h0]
    rw [yielded_rel hT ops]
    simp only [evOps] at h
    split at h
    · rename_i hw
      rw [if_pos hw]
      refine .inl ?_
      split at h
      · rename_i v σ1 hv
        refine evOper_ok hK hR hT (ho o (by simp)) hv _ _ ?_
        rintro v' w' ⟨f1, hx, hR1, hvv⟩
        refine evOps_ok hK l (k + 1) _ σ1 T' σ' f1 w' _ hl' (fun o' ho' => ho o' (by simp [ho'])) h hR1 (putL_rel (⟨hT.1, fun i x x' a b => (hT.2 i x x' a b).mono hx.le⟩) o.dst hvv) ?_
        rintro a' w2 ⟨f2, hx2, hR2, hT2, hd⟩
        exact hQ a' w2 ⟨f2, hx.trans hx2, hR2, hT2, by rw [hd, put_defers]⟩
      · cases h
    · rename_i hw
      rw [if_neg hw]
      refine evOps_ok hK l (k + 1) _ σ T' σ' f w _ hl' (fun o' ho' => ho o' (by simp [ho'])) h hR (putL_rel hT o.dst (VRel.undef f)) ?_
      rintro a' w2 ⟨f2, hx2, hR2, hT2, hd⟩
      exact hQ a' w2 ⟨f2, hx2, hR2, hT2, by rw [hd, put_defers]⟩

/-! ### What an outcome hangs on -/
theorem map_congr_ops {ρ ρ' : Operand → Value} {l : List Operand} (h : ∀ x, x ∈ l → ρ x = ρ' x) : l.map ρ = l.map ρ' := List.map_congr_left h

/-- The block that a silent operation reads. -/
def readBlock (ρ : Operand → Value) (o : Oper) : Option Nat :=
  match o.op with
  | .load _ a => match ρ a with | .pointer (some a) => some a.block | _ => none
  | .lookup _ x _ _ => match ρ x with | .map r => r | _ => none
  | .convert _ _ x => match ρ x with | .slice (some a) n _ => if n = 0 then none else some a.block | _ => none
  | .call c => match c.callee, c.args.toList with | .builtin .len, [x] => (match ρ x with | .map r => r | _ => none) | _, _ => none
  | _ => none

theorem silent_reads {P : Program} {ρ : Operand → Value} {rd rd' : Nat → Option AObj} {o : Oper} (h : ∀ b, readBlock ρ o = some b → rd b = rd' b) : silentA P ρ rd o = silentA P ρ rd' o := by
  obtain ⟨dst, op, type, pos, after, guard⟩ := o
  cases op <;> simp only [silentA, readBlock] at h ⊢
  case load t x =>
    unfold loadA
    cases hx : ρ x <;> simp only [hx] at h ⊢
    rename_i p
    cases p <;> simp only at h ⊢
    rw [h _ rfl]
  case lookup t x i ok =>
    unfold lookupA
    split
    · split
      · split
        · rfl
        · rename_i hx
          rw [h _ (by rw [hx])]
        · rfl
      · rfl
    · rfl
  case convert s d x =>
    unfold convA
    split
    · rfl
    · rfl
    · rename_i a n c _ _ hx
      by_cases hn : n = 0
      · simp only [hn, if_true]
      · rw [h a.block (by rw [hx]; simp only [hn, if_false])]
    · rfl
  case call c =>
    obtain ⟨callee, args, ats⟩ := c
    cases callee <;> simp only at h ⊢
    rename_i b
    cases b <;> simp only [builtinA] at h ⊢
    split
    · rename_i t x ht hxs
      cases hl : args.toList with
      | nil => rw [hl] at hxs; simp at hxs
      | cons y ys =>
        cases ys with
        | cons z zs => rw [hl] at hxs; simp at hxs
        | nil =>
          rw [hl] at hxs h
          simp only [List.map_cons, List.map_nil, List.cons.injEq, and_true] at hxs
          simp only at h
          subst hxs
          unfold lenA
          split
          · rfl
          · rfl
          · rfl
          · rename_i hx
            rw [h _ (by rw [hx])]
          · rfl
    · rfl

/-- A block that is read is there, in the model too. -/
theorem readBlock_live {f : Inj} {ρ ρ' : Operand → Value} {o : Oper} (hρ : ∀ x, x ∈ o.op.operands.toList → VRel f (ρ x) (ρ' x)) {b : Nat} (h : readBlock ρ o = some b) : ∃ x, f b = some x := by
  obtain ⟨dst, op, type, pos, after, guard⟩ := o
  cases op <;> simp only [readBlock, Op.operands] at h hρ <;> try (cases h; done)
  case load t x =>
    have hx := hρ x (by simp)
    split at h
    · rename_i a hv
      cases h
      rw [hv] at hx
      obtain ⟨a', _, hp⟩ := hx.ptr_of
      obtain ⟨k, hk⟩ := hp.blk
      exact ⟨_, hk⟩
    · cases h
  case lookup t x i ok =>
    have hx := hρ x (by simp)
    split at h
    · rename_i r hv
      subst h
      rw [hv] at hx
      obtain ⟨r', k, _, hk⟩ := hx.map_of
      exact ⟨_, hk⟩
    · cases h
  case convert s d x =>
    have hx := hρ x (by simp)
    split at h
    · rename_i a n c hv
      split at h
      · cases h
      · cases h
        rw [hv] at hx
        obtain ⟨a', c', _, hp⟩ := hx.slice_of
        obtain ⟨k, hk⟩ := (hp.ptr (by omega)).blk
        exact ⟨_, hk⟩
    · cases h
  case call c =>
    obtain ⟨callee, args, ats⟩ := c
    split at h
    · rename_i x hc hargs
      subst hc
      simp only [Call.operands, Array.empty_append] at hρ
      have hx := hρ x (by rw [hargs]; simp)
      split at h
      · rename_i r hv
        subst h
        rw [hv] at hx
        obtain ⟨r', k, _, hk⟩ := hx.map_of
        exact ⟨_, hk⟩
      · cases h
    · cases h
end Go.As
namespace Go.As

theorem omap_congr {ρ ρ' : Operand → Value} {x : Option Operand} (h : ∀ y, y ∈ x.toArray.toList → ρ y = ρ' y) : x.map ρ = x.map ρ' := by
  cases x with
  | none => rfl
  | some y => simp only [Option.map_some]; rw [h y (by simp)]

theorem silent_congr {P : Program} {ρ ρ' : Operand → Value} {rd : Nat → Option AObj} {o : Oper} (h : ∀ x, x ∈ o.op.operands.toList → ρ x = ρ' x) : silentA P ρ rd o = silentA P ρ' rd o := by
  obtain ⟨dst, op, type, pos, after, guard⟩ := o
  cases op <;> simp only [silentA, Op.operands] at h ⊢
  case build t parts =>
    have e : (parts.toList.map fun p => (p.1, ρ p.2)) = parts.toList.map fun p => (p.1, ρ' p.2) := List.map_congr_left fun p hp => by
      rw [h p.2 (by simpa using ⟨p.1, by simpa using hp⟩)]
    rw [e]
  case makeFunc fn first cap =>
    split
    · have e : cap.map ρ = cap.map ρ' := Array.map_congr_left fun x hx => h x (by simp [Array.toList_append]; exact .inr hx)
      rw [e]
    · rfl
  case slice t x lo hi mx =>
    simp only [Array.toList_append, List.mem_append] at h
    rw [h x (by simp), omap_congr (x := lo) (fun y hy => h y (.inl (.inl (.inr hy)))), omap_congr (x := hi) (fun y hy => h y (.inl (.inr hy))), omap_congr (x := mx) (fun y hy => h y (.inr hy))]
  case call c =>
    obtain ⟨callee, args, ats⟩ := c
    cases callee <;> simp only at h ⊢
    simp only [Call.operands, Array.empty_append] at h
    rw [map_congr_ops h]
  all_goals first
    | rfl
    | (rename_i x; rw [h x (by simp)]; done)
    | (rename_i t x; rw [h x (by simp)]; done)
    | (rename_i x y; rw [h x (by simp)]; done)
    | (rename_i s d x; rw [h x (by simp)]; done)
    | (rename_i t x i; rw [h x (by simp)]; done)
    | (rename_i t x i; rw [h x (by simp), h i (by simp)]; done)
    | (rename_i c x y; rw [h c (by simp), h x (by simp), h y (by simp)]; done)
    | (rename_i t x i ok; rw [h x (by simp), h i (by simp)]; done)
    | (rename_i op t x y yt; rw [h x (by simp), h y (by simp)]; done)

theorem alloc_congr {P : Program} {ρ ρ' : Operand → Value} {o : Oper} (h : ∀ x, x ∈ o.op.operands.toList → ρ x = ρ' x) : allocA P ρ o = allocA P ρ' o := by
  obtain ⟨dst, op, type, pos, after, guard⟩ := o
  cases op <;> simp only [allocA, Op.operands] at h ⊢
  case buildSlice t len parts =>
    have e : (parts.toList.map fun p => (p.1, ρ p.2)) = parts.toList.map fun p => (p.1, ρ' p.2) := List.map_congr_left fun p hp => by
      rw [h p.2 (by simpa using ⟨p.1, by simpa using hp⟩)]
    rw [e]
  case makeMap t r => rw [omap_congr (x := r) h]
  all_goals first
    | rfl
    | (rename_i t x; rw [h x (by simp)]; done)
    | (rename_i s d x; rw [h x (by simp)]; done)
    | (rename_i t x i; rw [h x (by simp), h i (by simp)]; done)

theorem writes_congr {P : Program} {K : Kn} {ρ ρ' : Operand → Value} {o : Oper} {σ : St} (h : ∀ x, x ∈ o.op.operands.toList → ρ x = ρ' x) : writesA P K ρ o σ = writesA P K ρ' o σ := by
  obtain ⟨dst, op, type, pos, after, guard⟩ := o
  cases op <;> simp only [writesA, Op.operands] at h ⊢
  case store t x y => rw [h x (by simp), h y (by simp)]
  case mapUpdate t m k v => rw [h m (by simp), h k (by simp), h v (by simp)]
  case insert t m k v => rw [h m (by simp), h k (by simp), h v (by simp)]
  case convert s d x => rw [h x (by simp)]
  case call c =>
    obtain ⟨callee, args, ats⟩ := c
    cases callee <;> simp only at h ⊢
    · rename_i x
      simp only [Call.operands] at h
      have h1 : args.toList.map ρ = args.toList.map ρ' := map_congr_ops fun y hy => h y (by simp; exact .inr (by simpa using hy))
      rw [h x (by simp), h1]
    · rename_i b
      simp only [Call.operands, Array.empty_append] at h
      rw [map_congr_ops h]
      cases b <;> rfl

theorem read_congr {ρ ρ' : Operand → Value} {o : Oper} (h : ∀ x, x ∈ o.op.operands.toList → ρ x = ρ' x) : readBlock ρ o = readBlock ρ' o := by
  obtain ⟨dst, op, type, pos, after, guard⟩ := o
  cases op <;> simp only [readBlock, Op.operands] at h ⊢
  case load t x => rw [h x (by simp)]
  case lookup t x i ok => rw [h x (by simp)]
  case convert s d x => rw [h x (by simp)]
  case call c =>
    obtain ⟨callee, args, ats⟩ := c
    split
    · rename_i x hc hx
      subst hc
      simp only [Call.operands, Array.empty_append] at h
      rw [h x (by rw [hx]; simp)]
    · rfl

/-! ### The order of a region's operations -/
/-- By number: the bits of those that it waits for, at once or by others. -/
def ancs (ops : List Oper) : List Nat :=
  ops.foldl (fun acc o => acc ++ [o.after.toList.foldl (fun s e => if Region.binds .any e then s ||| 2 ^ e.on ||| acc.getD e.on 0 else s) 0]) []

/-- Shut under what its members wait for. -/
def Shut (ops : Array Oper) (D : Nat → Prop) : Prop := ∀ j o, ops[j]? = some o → D j → ∀ e, e ∈ o.after.toList → Region.binds .any e = true → D e.on

theorem ancs_bits {D : Nat → Prop} : ∀ (es : List Edge) (acc : List Nat) (s : Nat), (∀ i, s.testBit i = true → D i) → (∀ e, e ∈ es → Region.binds .any e = true → D e.on ∧ ∀ i, (acc.getD e.on 0).testBit i = true → D i) →
    ∀ i, (es.foldl (fun s e => if Region.binds .any e then s ||| 2 ^ e.on ||| acc.getD e.on 0 else s) s).testBit i = true → D i
  | [], _, s, hs, _, i, h => hs i h
  | e :: es, acc, s, hs, he, i, h => by
    simp only [List.foldl_cons] at h
    refine ancs_bits es acc _ ?_ (fun e' he' => he e' (by simp [he'])) i h
    intro i hi
    split at hi
    · rename_i hb
      obtain ⟨h1, h2⟩ := he e (by simp) hb
      simp only [Nat.testBit_or, Bool.or_eq_true] at hi
      rcases hi with (hi | hi) | hi
      · exact hs i hi
      · rw [Nat.testBit_two_pow] at hi
        simp only [decide_eq_true_eq] at hi
        subst hi
        exact h1
      · exact h2 i hi
    · exact hs i hi

theorem ancs_ok (ops : Array Oper) (D : Nat → Prop) (hD : Shut ops D) : ∀ j, D j → ∀ i, ((ancs ops.toList).getD j 0).testBit i = true → D i := by
  have key : ∀ (l : List Oper) (acc : List Nat), (∀ j, l[j]? = ops[acc.length + j]?) → (∀ j, D j → ∀ i, (acc.getD j 0).testBit i = true → D i) →
      ∀ j, D j → ∀ i, ((l.foldl (fun acc o => acc ++ [o.after.toList.foldl (fun s e => if Region.binds .any e then s ||| 2 ^ e.on ||| acc.getD e.on 0 else s) 0]) acc).getD j 0).testBit i = true → D i := by
    intro l
    induction l with
    | nil => intro acc _ h; exact h
    | cons o l ih =>
      intro acc hl h
      simp only [List.foldl_cons]
      have h0 : ops[acc.length]? = some o := by simpa using (hl 0).symm
      refine ih _ (fun j => by have := hl (j + 1); simpa [Nat.add_assoc, Nat.add_comm 1 j] using this) ?_
      intro j hj i hi
      by_cases hlt : j < acc.length
      · rw [List.getD_eq_getElem?_getD, List.getElem?_append_left hlt, ← List.getD_eq_getElem?_getD] at hi
        exact h j hj i hi
      · by_cases he : j = acc.length
        · subst he
          rw [List.getD_eq_getElem?_getD, List.getElem?_append_right (Nat.le_refl _)] at hi
          simp only [Nat.sub_self, List.getElem?_cons_zero, Option.getD_some] at hi
          refine ancs_bits o.after.toList acc 0 (by simp) (fun e hem hb => ?_) i hi
          have hd := hD acc.length o h0 hj e hem hb
          exact ⟨hd, fun i hi => h e.on hd i hi⟩
        · have : (acc ++ [o.after.toList.foldl (fun s e => if Region.binds .any e then s ||| 2 ^ e.on ||| acc.getD e.on 0 else s) 0]).getD j 0 = 0 := by
            rw [List.getD_eq_getElem?_getD, List.getElem?_eq_none (by simp; omega)]
            rfl
          rw [this] at hi
          simp at hi
  exact key ops.toList [] (by simp) (by simp)
end Go.As
namespace Go.As

/-! ### The run in the text's order, told by functions -/
/-- The block that operation i makes or reads, in the text's run. -/
def blkOf (P : Program) (base i : Nat) (T : List Value) (o : Oper) : Option Nat :=
  match okind P o with
  | .makes => some (base + i)
  | .silent => readBlock (evA T) o
  | .writes => none

structure TextRun (P : Program) (K : Kn) (ops : Array Oper) (base : Nat) (T : Nat → List Value) (S : Nat → St) (v : Nat → Value) : Prop where
  tmps : ∀ k o, ops[k]? = some o → T (k + 1) = putL (T k) o.dst (v k)
  does : ∀ k o, ops[k]? = some o → Region.wanted o (yieldedL ops (T k)) = true → evOper P K (some (base + k)) (T k) o (S k) = some (v k, S (k + 1))
  idles : ∀ k o, ops[k]? = some o → Region.wanted o (yieldedL ops (T k)) = false → v k = undef ∧ S (k + 1) = S k
  nx : base + ops.size ≤ (S 0).next

def Anc (ops : Array Oper) (i j : Nat) : Prop := ((ancs ops.toList).getD j 0).testBit i = true
def Unord (ops : Array Oper) (i j : Nat) : Prop := ¬ Anc ops i j ∧ ¬ Anc ops j i

structure Plan (P : Program) (ops : Array Oper) : Prop where
  back : ∀ j o, ops[j]? = some o → ∀ e, e ∈ o.after.toList → Region.binds .any e = true → e.on < j
  once : ∀ (i j : Nat) (oi oj : Oper) (t : Nat), ops[i]? = some oi → ops[j]? = some oj → oi.dst = some t → oj.dst = some t → i = j
  apart : ∀ (i j : Nat) (oi oj : Oper) (t : Nat), ops[i]? = some oi → ops[j]? = some oj → i ≠ j → Unord ops i j → oj.dst = some t → t ∉ oi.looksAt ops
  line : ∀ (i j : Nat) (oi oj : Oper), ops[i]? = some oi → ops[j]? = some oj → i ≠ j → okind P oi = .writes → okind P oj = .writes → Anc ops i j ∨ Anc ops j i

/-- It writes, and is carried out. -/
def IsW (P : Program) (ops : Array Oper) (T : Nat → List Value) (i : Nat) (o : Oper) : Prop := okind P o = .writes ∧ Region.wanted o (yieldedL ops (T i)) = true

def Still (P : Program) (ops : Array Oper) (base : Nat) (T : Nat → List Value) (S : Nat → St) : Prop :=
  ∀ (i j : Nat) (oi oj : Oper) (b : Nat), ops[i]? = some oi → ops[j]? = some oj → IsW P ops T j oj → i ≠ j → Unord ops i j → Region.wanted oi (yieldedL ops (T i)) = true → blkOf P base i (T i) oi = some b → (S j).get b = (S (j + 1)).get b

/-- The numbers that are kept for what operations make are free till then. -/
def Clean (P : Program) (ops : Array Oper) (base : Nat) (S : Nat → St) : Prop :=
  ∀ (q : Nat) (oq : Oper), ops[q]? = some oq → okind P oq = .makes → ∀ i, i ≤ q → (S i).get (base + q) = none

structure RelG (f : Inj) (g : Nat → Option AObj) (nx : Nat) (w : World) : Prop where
  obj : ∀ b o c k, g b = some o → f b = some (c, k) → ∃ o', w.heap[c]? = some o' ∧ ObjRel f k o o'
  inj : ∀ b b' o o' c k k', g b = some o → g b' = some o' → f b = some (c, k) → f b' = some (c, k') → b = b'
  dom : ∀ b x, f b = some x → b < nx
  img : ∀ b c k, f b = some (c, k) → c < w.heap.size

structure ExtG (f : Inj) (σ : St) (w : World) (f' : Inj) (g' : Nat → Option AObj) (nx' : Nat) (w' : World) : Prop where
  le : Inj.le f f'
  os : w'.os = w.os
  tape : w'.tape = w.tape
  output : w'.output = w.output
  size : w.heap.size ≤ w'.heap.size
  keep : ∀ c, c < w.heap.size → ¬ Img f σ.get c → w'.heap[c]? = w.heap[c]?
  img : ∀ c, c < w.heap.size → Img f' g' c → Img f σ.get c
  imgl : ∀ c, c < w.heap.size → ImgL f' g' c → ImgL f σ.get c
  new : ∀ b x, f' b = some x → f b = some x ∨ σ.next ≤ b
  next : σ.next ≤ nx'

theorem RelG.to {f : Inj} {σ : St} {w : World} (h : RelG f σ.get σ.next w) : Rel f σ w := ⟨h.obj, h.inj, h.dom, h.img⟩
theorem Rel.toG {f : Inj} {σ : St} {w : World} (h : Rel f σ w) : RelG f σ.get σ.next w := ⟨h.obj, h.inj, h.dom, h.img⟩

section
open Classical
/-- The heap when the operations of D have been carried out, m behind the last of them that writes. -/
noncomputable def Hp (S : Nat → St) (base n m : Nat) (D : Nat → Prop) (b : Nat) : Option AObj :=
  if base ≤ b ∧ b < base + n then (if D (b - base) then (S (max m (b - base + 1))).get b else none) else (S m).get b
end

section
variable {P : Program} {K : Kn} {ops : Array Oper} {base : Nat} {T : Nat → List Value} {S : Nat → St} {v : Nat → Value} {D : Nat → Prop}

theorem Hp_out (S : Nat → St) (base n m : Nat) (D : Nat → Prop) {b : Nat} (h : ¬ (base ≤ b ∧ b < base + n)) : Hp S base n m D b = (S m).get b := by
  unfold Hp; rw [if_neg h]
theorem Hp_in (S : Nat → St) (base n m : Nat) (D : Nat → Prop) {q : Nat} (hq : q < n) (hD : D q) : Hp S base n m D (base + q) = (S (max m (q + 1))).get (base + q) := by
  unfold Hp; rw [if_pos ⟨by omega, by omega⟩, Nat.add_sub_cancel_left, if_pos hD]
theorem Hp_not (S : Nat → St) (base n m : Nat) (D : Nat → Prop) {q : Nat} (hq : q < n) (hD : ¬ D q) : Hp S base n m D (base + q) = none := by
  unfold Hp; rw [if_pos ⟨by omega, by omega⟩, Nat.add_sub_cancel_left, if_neg hD]

theorem interval {b : Nat} : ∀ (d lo : Nat), (∀ j, lo ≤ j → j < lo + d → (S j).get b = (S (j + 1)).get b) → (S lo).get b = (S (lo + d)).get b
  | 0, lo, _ => rfl
  | d + 1, lo, h => by
    rw [interval d lo (fun j h1 h2 => h j h1 (by omega)), h (lo + d) (by omega) (by omega)]
    rfl

/-- A step that does not write turns its own number's block alone. -/
theorem quietStep (hr : TextRun P K ops base T S v) {k : Nat} {o : Oper} (ho : ops[k]? = some o) (hk : ¬ IsW P ops T k o) : (∀ b, b ≠ base + k → (S (k + 1)).get b = (S k).get b) ∧ (S (k + 1)).next = (S k).next := by
  cases hw : Region.wanted o (yieldedL ops (T k)) with
  | false =>
    rw [(hr.idles k o ho hw).2]
    exact ⟨fun _ _ => rfl, rfl⟩
  | true =>
    have h := hr.does k o ho hw
    unfold evOper at h
    split at h
    · cases hs : silentA P (evA (T k)) (S k).get o with
      | none => rw [hs] at h; cases h
      | some u =>
        rw [hs] at h
        simp only [Option.map_some, Option.some.injEq, Prod.mk.injEq] at h
        rw [← h.2]
        exact ⟨fun _ _ => rfl, rfl⟩
    · unfold allocTo at h
      cases hs : allocA P (evA (T k)) o with
      | none => rw [hs] at h; cases h
      | some p =>
        rw [hs] at h
        simp only [Option.map_some, Option.some.injEq, Prod.mk.injEq, place] at h
        rw [← h.2]
        exact ⟨fun b hb => by rw [St.get_at, if_neg hb], rfl⟩
    · rename_i he
      exact absurd ⟨he, hw⟩ hk

theorem T_length (hr : TextRun P K ops base T S v) : ∀ k, k ≤ ops.size → (T k).length = (T 0).length
  | 0, _ => rfl
  | k + 1, h => by
    have ho : ops[k]? = some ops[k] := by simp [show k < ops.size by omega]
    rw [hr.tmps k _ ho, ← T_length hr k (by omega)]
    unfold putL
    split <;> simp

theorem T_before (hr : TextRun P K ops base T S v) {t : Nat} : ∀ k, k ≤ ops.size → (∀ j o, j < k → ops[j]? = some o → o.dst ≠ some t) → (T k)[t]? = (T 0)[t]?
  | 0, _, _ => rfl
  | k + 1, h, hn => by
    have ho : ops[k]? = some ops[k] := by simp [show k < ops.size by omega]
    rw [hr.tmps k _ ho, ← T_before hr k (by omega) (fun j o hj => hn j o (by omega))]
    have hne := hn k _ (by omega) ho
    unfold putL
    split
    · rename_i d hd
      rw [List.getElem?_set, if_neg (by intro e; subst e; exact hne hd)]
    · rfl

theorem T_behind (hr : TextRun P K ops base T S v) (hp : Plan P ops) {t j : Nat} {o : Oper} (hj : ops[j]? = some o) (hd : o.dst = some t) (ht : t < (T 0).length) : ∀ k, k ≤ ops.size → j < k → (T k)[t]? = some (v j)
  | 0, _, h => by omega
  | k + 1, h, hjk => by
    have ho : ops[k]? = some ops[k] := by simp [show k < ops.size by omega]
    rw [hr.tmps k _ ho]
    by_cases e : j = k
    · subst e
      rw [hj] at ho
      cases ho
      rw [hd]
      simp only [putL]
      rw [List.getElem?_set, if_pos rfl, if_pos (by rw [T_length hr _ (by omega)]; exact ht)]
    · have ih := T_behind hr hp hj hd ht k (by omega) (by omega)
      unfold putL
      split
      · rename_i d hdd
        rw [List.getElem?_set, if_neg]
        · exact ih
        · intro e2
          subst e2
          exact e (hp.once j k _ _ d hj ho hd hdd)
      · exact ih

/-- The value of a temporary when the operations of D have been carried out. -/
def ValD (ops : Array Oper) (T : Nat → List Value) (v : Nat → Value) (D : Nat → Prop) (t : Nat) (x : Value) : Prop :=
  (∃ j o, D j ∧ ops[j]? = some o ∧ o.dst = some t ∧ x = v j) ∨ ((∀ j o, D j → ops[j]? = some o → o.dst ≠ some t) ∧ (T 0)[t]? = some x)

/-- An operation that may come up next. -/
structure Upcoming (ops : Array Oper) (D : Nat → Prop) (i : Nat) (o : Oper) : Prop where
  at_ : ops[i]? = some o
  not : ¬ D i
  shut : Shut ops D
  waits : ∀ e, e ∈ o.after.toList → Region.binds .any e = true → D e.on

theorem Plan.anc_le (hp : Plan P ops) {i j : Nat} (h : Anc ops i j) : i ≤ j :=
  ancs_ok ops (fun x => x ≤ j) (fun k o hk hkj e he hb => by have := hp.back k o hk e he hb; show e.on ≤ j; have : k ≤ j := hkj; omega) j (Nat.le_refl _) i h

theorem Upcoming.before {i : Nat} {o : Oper} (hn : Upcoming ops D i o) {j : Nat} (h : Anc ops j i) : D j ∨ j = i := by
  refine ancs_ok ops (fun x => D x ∨ x = i) ?_ i (.inr rfl) j h
  intro k ok hk hkD e he hb
  rcases hkD with hkD | rfl
  · exact .inl (hn.shut k ok hk hkD e he hb)
  · rw [hn.at_] at hk
    cases hk
    exact .inl (hn.waits e he hb)

theorem Upcoming.unord_lt (hp : Plan P ops) {i : Nat} {o : Oper} (hn : Upcoming ops D i o) {j : Nat} (hj : j < i) (hD : ¬ D j) : Unord ops i j :=
  ⟨fun h => by have := hp.anc_le h; omega, fun h => (hn.before h).elim hD (fun e => by omega)⟩
theorem Upcoming.unord_gt (hp : Plan P ops) {i : Nat} {o : Oper} (hn : Upcoming ops D i o) {j : Nat} (hj : i < j) (hD : D j) : Unord ops i j :=
  ⟨fun h => hn.not (ancs_ok ops D hn.shut j hD i h), fun h => by have := hp.anc_le h; omega⟩

theorem Upcoming.val (hr : TextRun P K ops base T S v) (hp : Plan P ops) {i : Nat} {o : Oper} (hn : Upcoming ops D i o) {t : Nat} {x : Value} (ht : t < (T 0).length) (hl : t ∈ o.looksAt ops) (hv : ValD ops T v D t x) : (T i)[t]? = some x := by
  have hi : i < ops.size := (Array.getElem?_eq_some_iff.1 hn.at_).1
  rcases hv with ⟨j, oj, hD, hj, hd, rfl⟩ | ⟨hno, h0⟩
  · have hji : j < i := by
      rcases Nat.lt_trichotomy j i with h | h | h
      · exact h
      · subst h; exact absurd hD hn.not
      · exact absurd hl (hp.apart i j o oj t hn.at_ hj (by omega) (hn.unord_gt hp h hD) hd)
    exact T_behind hr hp hj hd ht i (by omega) hji
  · rw [T_before hr i (by omega)]
    · exact h0
    · intro j oj hji hj hd
      by_cases hD : D j
      · exact hno j oj hD hj hd
      · exact hp.apart i j o oj t hn.at_ hj (by omega) (hn.unord_lt hp hji hD) hd hl

/-- The heap that operation i sees at its block is the text's. -/
theorem Upcoming.same (hr : TextRun P K ops base T S v) (hs : Still P ops base T S) {i : Nat} {o : Oper} (hn : Upcoming ops D i o) (hw : Region.wanted o (yieldedL ops (T i)) = true) {b : Nat} (hb : blkOf P base i (T i) o = some b)
    {lo hi : Nat} (hlh : lo ≤ hi) (hhi : hi ≤ ops.size) (hbq : ∀ q, lo ≤ q → q < hi → b ≠ base + q) (hW : ∀ j oj, lo ≤ j → j < hi → ops[j]? = some oj → IsW P ops T j oj → j ≠ i ∧ Unord ops i j) :
    (S lo).get b = (S hi).get b := by
  have := interval (S := S) (b := b) (hi - lo) lo (fun j h1 h2 => by
    have hj : j < ops.size := by omega
    have hoj : ops[j]? = some ops[j] := by simp [hj]
    by_cases hk : IsW P ops T j ops[j]
    · obtain ⟨h3, h4⟩ := hW j _ h1 (by omega) hoj hk
      exact hs i j o _ b hn.at_ hoj hk (Ne.symm h3) h4 hw hb
    · exact ((quietStep hr hoj hk).1 b (hbq j h1 (by omega))).symm)
  rw [show lo + (hi - lo) = hi by omega] at this
  exact this
end
end Go.As
namespace Go.As

section
variable {P : Program} {K : Kn} {ops : Array Oper} {base : Nat} {T : Nat → List Value} {S : Nat → St} {v : Nat → Value} {D : Nat → Prop} {f0 : Inj} {σ : St} {w0 : World} {ds : List Deferred}

structure Inv (P : Program) (ops : Array Oper) (base : Nat) (T : Nat → List Value) (S : Nat → St) (v : Nat → Value) (f0 : Inj) (σ : St) (w0 : World) (ds : List Deferred) (D : Nat → Prop) (f : Inj) (m : Nat) (TD : List Value) (a : Act) (w : World) : Prop where
  stage : ∀ (j : Nat) (o : Oper), ops[j]? = some o → IsW P ops T j o → D j → j < m
  le : m ≤ ops.size
  top : ∀ k, m = k + 1 → ∃ o, ops[k]? = some o ∧ IsW P ops T k o ∧ D k
  len : TD.length = (T 0).length
  val : ∀ (t : Nat) (x : Value), TD[t]? = some x → ValD ops T v D t x
  tmps : LRel f TD a.tmps.toList
  defers : a.defers = ds
  rel : RelG f (Hp S base ops.size m D) (S m).next w
  ext : ExtG f0 σ w0 f (Hp S base ops.size m D) (S m).next w
  own : ∀ q, q < ops.size → ∀ x, f (base + q) = some x → D q ∧ ∃ oq, ops[q]? = some oq ∧ okind P oq = .makes
  nx : base + ops.size ≤ (S m).next

abbrev With (D : Nat → Prop) (i : Nat) : Nat → Prop := fun j => D j ∨ j = i

theorem Inv.lower (hp : Plan P ops) {f : Inj} {m : Nat} {TD : List Value} {a : Act} {w : World} (I : Inv P ops base T S v f0 σ w0 ds D f m TD a w) (hsh : Shut ops D) {j : Nat} {oj : Oper} (hj : ops[j]? = some oj) (hk : IsW P ops T j oj) (hm : j < m) : D j := by
  obtain ⟨o, ho, hko, hD⟩ := I.top (m - 1) (by omega)
  by_cases e : j = m - 1
  · rw [e]; exact hD
  · rcases hp.line j (m - 1) oj o hj ho e hk.1 hko.1 with h | h
    · exact ancs_ok ops D hsh _ hD j h
    · have := hp.anc_le h; omega

theorem looks_of_operand {o : Oper} {t : Nat} (h : Operand.tmp t ∈ o.op.operands.toList) : t ∈ o.looksAt ops := by
  unfold Oper.looksAt
  exact List.mem_append_left _ (List.mem_filterMap.2 ⟨_, h, rfl⟩)

theorem Inv.ev (hr : TextRun P K ops base T S v) (hp : Plan P ops) {f : Inj} {m : Nat} {TD : List Value} {a : Act} {w : World} (I : Inv P ops base T S v f0 σ w0 ds D f m TD a w) {i : Nat} {o : Oper} (hn : Upcoming ops D i o) :
    (∀ x, x ∈ o.op.operands.toList → evA TD x = evA (T i) x) ∧ Region.wanted o (yieldedL ops TD) = Region.wanted o (yieldedL ops (T i)) := by
  have hi : i < ops.size := (Array.getElem?_eq_some_iff.1 hn.at_).1
  have key : ∀ t, t ∈ o.looksAt ops → TD[t]? = (T i)[t]? := by
    intro t ht
    by_cases hlt : t < (T 0).length
    · have hx : TD[t]? = some (TD[t]'(by rw [I.len]; exact hlt)) := by simp [I.len, hlt]
      rw [hx, hn.val hr hp hlt ht (I.val t _ hx)]
    · have h1 : (T 0).length ≤ t := Nat.le_of_not_lt hlt
      have h2 : TD.length ≤ t := by rw [I.len]; exact h1
      have h3 : (T i).length ≤ t := by rw [T_length hr i (by omega)]; exact h1
      rw [List.getElem?_eq_none h2, List.getElem?_eq_none h3]
  refine ⟨fun x hx => ?_, ?_⟩
  · cases x with
    | tmp t => simp only [evA, List.getD]; rw [key t (looks_of_operand hx)]
    | _ => rfl
  · unfold Region.wanted
    cases hg : o.guard with
    | none => rfl
    | some g =>
      obtain ⟨j, b⟩ := g
      simp only
      have : yieldedL ops TD j = yieldedL ops (T i) j := by
        unfold yieldedL
        cases hd : (ops[j]?).bind (·.dst) with
        | none => rfl
        | some t =>
          simp only [Option.bind_some]
          rw [key t]
          unfold Oper.looksAt
          rw [hg]
          simp [hd]
      rw [this]

theorem Inv.tmps' {f : Inj} {m : Nat} {TD : List Value} {a : Act} {w : World} (I : Inv P ops base T S v f0 σ w0 ds D f m TD a w) {i : Nat} {o : Oper} (ho : ops[i]? = some o) :
    (putL TD o.dst (v i)).length = (T 0).length ∧ ∀ (t : Nat) (x : Value), (putL TD o.dst (v i))[t]? = some x → ValD ops T v (With D i) t x := by
  refine ⟨?_, ?_⟩
  · rw [← I.len]; unfold putL; split <;> simp
  · intro t x hx
    unfold putL at hx
    have keep : o.dst ≠ some t → TD[t]? = some x → ValD ops T v (With D i) t x := by
      intro hne h
      rcases I.val t x h with ⟨j, oj, hD, hj, hd, rfl⟩ | ⟨hno, h0⟩
      · exact .inl ⟨j, oj, .inl hD, hj, hd, rfl⟩
      · refine .inr ⟨fun j oj hD hj => ?_, h0⟩
        rcases hD with hD | rfl
        · exact hno j oj hD hj
        · rw [ho] at hj; cases hj; exact hne
    split at hx
    · rename_i d hd
      by_cases e : d = t
      · subst e
        rw [List.getElem?_set, if_pos rfl] at hx
        split at hx
        · cases hx
          exact .inl ⟨i, o, .inr rfl, ho, hd, rfl⟩
        · cases hx
      · rw [List.getElem?_set, if_neg e] at hx
        exact keep (by rw [hd]; intro h; cases h; exact e rfl) hx
    · rename_i hd
      exact keep (by rw [hd]; simp) hx

/-- Heaps that agree where f leads anywhere. -/
theorem RelG.congr {f : Inj} {g g' : Nat → Option AObj} {nx nx' : Nat} {w : World} (h : RelG f g nx w) (hg : ∀ b x, f b = some x → g' b = g b) (hn : ∀ b x, f b = some x → b < nx') : RelG f g' nx' w :=
  ⟨fun b o c k ho hf => h.obj b o c k (by rw [← hg b _ hf]; exact ho) hf, fun b b' o o' c k k' h1 h2 f1 f2 => h.inj b b' o o' c k k' (by rw [← hg b _ f1]; exact h1) (by rw [← hg b' _ f2]; exact h2) f1 f2, hn, h.img⟩

theorem ExtG.congr {f f' : Inj} {w w' : World} {g g' : Nat → Option AObj} {nx nx' : Nat} (h : ExtG f σ w f' g nx w') (hg : ∀ b x, f' b = some x → g' b = g b) (hn : σ.next ≤ nx') : ExtG f σ w f' g' nx' w' :=
  ⟨h.le, h.os, h.tape, h.output, h.size, h.keep, fun c hc ⟨b, o, k, h1, h2, h3⟩ => h.img c hc ⟨b, o, k, by rw [← hg b _ h3]; exact h1, h2, h3⟩, fun c hc ⟨b, o, k, h1, h3⟩ => h.imgl c hc ⟨b, o, k, by rw [← hg b _ h3]; exact h1, h3⟩, h.new, hn⟩

/-- The invariant when nothing but the frame has turned. -/
theorem Inv.frame {f : Inj} {m : Nat} {TD : List Value} {a : Act} {w : World} (I : Inv P ops base T S v f0 σ w0 ds D f m TD a w) {i : Nat} {o : Oper} (hn : Upcoming ops D i o) (hk : ¬ IsW P ops T i o) {v' : Value} (hv : VRel f (v i) v') :
    Inv P ops base T S v f0 σ w0 ds (With D i) f m (putL TD o.dst (v i)) (a.put o.dst v') w := by
  have hi : i < ops.size := (Array.getElem?_eq_some_iff.1 hn.at_).1
  have hnone : f (base + i) = none := by
    cases h : f (base + i) with
    | none => rfl
    | some x => exact absurd (I.own i hi x h).1 hn.not
  have hh : ∀ b x, f b = some x → Hp S base ops.size m (With D i) b = Hp S base ops.size m D b := by
    intro b x hx
    by_cases hb : base ≤ b ∧ b < base + ops.size
    · obtain ⟨q, rfl⟩ : ∃ q, b = base + q := ⟨b - base, by omega⟩
      have hq : q < ops.size := by omega
      have hD := (I.own q hq x hx).1
      rw [Hp_in S base ops.size m _ hq hD, Hp_in S base ops.size m (With D i) hq (.inl hD)]
    · rw [Hp_out S base ops.size m _ hb, Hp_out S base ops.size m _ hb]
  refine ⟨?_, I.le, ?_, (I.tmps' hn.at_).1, (I.tmps' hn.at_).2, putL_rel I.tmps o.dst hv, by rw [put_defers]; exact I.defers, I.rel.congr hh I.rel.dom, I.ext.congr hh I.ext.next, fun q hq x hx => ⟨.inl (I.own q hq x hx).1, (I.own q hq x hx).2⟩, I.nx⟩
  · intro j oj hj hkj hD
    rcases hD with hD | rfl
    · exact I.stage j oj hj hkj hD
    · rw [hn.at_] at hj; cases hj; exact absurd hkj hk
  · intro k hm
    obtain ⟨ok, h1, h2, h3⟩ := I.top k hm
    exact ⟨ok, h1, h2, .inl h3⟩

theorem Rel.empty {f : Inj} {g : Nat → Option AObj} {nx : Nat} {w : World} (h : RelG f g nx w) : Rel f { heap := .nil, next := nx } w :=
  ⟨(fun b o c k h1 => by cases h1), (fun b b' o o' c k k' h1 => by cases h1), h.dom, h.img⟩

/-- The heap that is seen at a block that is read, or made. -/
theorem Inv.same (hr : TextRun P K ops base T S v) (hp : Plan P ops) (hst : Still P ops base T S) {f : Inj} {m : Nat} {TD : List Value} {a : Act} {w : World} (I : Inv P ops base T S v f0 σ w0 ds D f m TD a w) {i : Nat} {o : Oper}
    (hn : Upcoming ops D i o) (hw : Region.wanted o (yieldedL ops (T i)) = true) {b : Nat} (hb : blkOf P base i (T i) o = some b) (hpast : ¬ (base + i ≤ b ∧ b < base + ops.size)) {x : Nat × Nat} (hf : f b = some x) :
    Hp S base ops.size m D b = (S i).get b := by
  have hi : i < ops.size := (Array.getElem?_eq_some_iff.1 hn.at_).1
  have up : ∀ M, m ≤ M → ∀ j oj, M ≤ j → j < i → ops[j]? = some oj → IsW P ops T j oj → j ≠ i ∧ Unord ops i j := fun M hM j oj h1 h2 h3 h4 =>
    ⟨by omega, hn.unord_lt hp h2 (fun hD => by have := I.stage j oj h3 h4 hD; omega)⟩
  have down : ∀ j oj, i ≤ j → j < m → ops[j]? = some oj → IsW P ops T j oj → j ≠ i ∧ Unord ops i j := fun j oj h1 h2 h3 h4 => by
    have hD := I.lower hp hn.shut h3 h4 h2
    have hne : j ≠ i := fun e => hn.not (e ▸ hD)
    exact ⟨hne, hn.unord_gt hp (by omega) hD⟩
  by_cases hres : base ≤ b ∧ b < base + ops.size
  · obtain ⟨q, rfl⟩ : ∃ q, b = base + q := ⟨b - base, by omega⟩
    have hq : q < ops.size := by omega
    have hqi : q < i := by omega
    rw [Hp_in S base ops.size m D hq (I.own q hq x hf).1]
    by_cases hM : max m (q + 1) ≤ i
    · exact hn.same hr hst hw hb hM (by omega) (fun q' h1 _ => by omega) (up _ (by omega))
    · have hmm : max m (q + 1) = m := by omega
      rw [hmm]
      exact (hn.same hr hst hw hb (by omega) I.le (fun q' h1 _ => by omega) down).symm
  · rw [Hp_out S base ops.size m D hres]
    have hne : ∀ q, q < ops.size → b ≠ base + q := fun q hq e => hres ⟨by omega, by omega⟩
    by_cases hM : m ≤ i
    · exact hn.same hr hst hw hb hM (by omega) (fun q' _ h2 => hne q' (by omega)) (up _ (Nat.le_refl _))
    · have := I.le
      exact (hn.same hr hst hw hb (by omega) I.le (fun q' _ h2 => hne q' (by omega)) down).symm

/-- A silent operation. -/
theorem Inv.silent (hr : TextRun P K ops base T S v) (hp : Plan P ops) (hst : Still P ops base T S) (hcl : Clean P ops base S) {f : Inj} {m : Nat} {TD : List Value} {a : Act} {w : World} (I : Inv P ops base T S v f0 σ w0 ds D f m TD a w) {i : Nat} {o : Oper}
    (hn : Upcoming ops D i o) (ho : operOk o = true) (hk : okind P o = .silent) (hw : Region.wanted o (yieldedL ops (T i)) = true) :
    OpTo P o a w fun v' w' => w' = w ∧ Inv P ops base T S v f0 σ w0 ds (With D i) f m (putL TD o.dst (v i)) (a.put o.dst v') w := by
  have hi : i < ops.size := (Array.getElem?_eq_some_iff.1 hn.at_).1
  obtain ⟨hev, _⟩ := I.ev hr hp hn
  have hd := hr.does i o hn.at_ hw
  unfold evOper at hd
  rw [hk] at hd
  simp only at hd
  cases hs : silentA P (evA (T i)) (S i).get o with
  | none => rw [hs] at hd; cases hd
  | some u =>
    rw [hs] at hd
    simp only [Option.map_some, Option.some.injEq, Prod.mk.injEq] at hd
    obtain ⟨hu, _⟩ := hd
    subst hu
    -- the heap at the block that it reads
    have hone : ∃ σ1 : St, Rel f σ1 w ∧ silentA P (evA TD) σ1.get o = some (v i) := by
      rw [silent_congr (rd := (S i).get) (fun x hx => (hev x hx).symm)] at hs
      cases hb : readBlock (evA TD) o with
      | none =>
        refine ⟨{ heap := .nil, next := (S m).next }, Rel.empty I.rel, ?_⟩
        rw [silent_reads (rd' := (S i).get) (fun b h => by rw [hb] at h; cases h)]
        exact hs
      | some b =>
        have hb' : readBlock (evA (T i)) o = some b := by rw [← read_congr hev]; exact hb
        have hblk : blkOf P base i (T i) o = some b := by unfold blkOf; rw [hk]; exact hb'
        obtain ⟨ck, hf⟩ : ∃ x, f b = some x := readBlock_live (ρ' := a.eval) (fun x hx => evA_rel I.tmps (List.all_eq_true.1 ho x hx)) hb
        · cases hg : (S i).get b with
          | none =>
            refine ⟨{ heap := .nil, next := (S m).next }, Rel.empty I.rel, ?_⟩
            rw [silent_reads (rd' := (S i).get) (fun b' h => by rw [hb] at h; cases h; rw [hg]; rfl)]
            exact hs
          | some ob =>
            have hpast : ¬ (base + i ≤ b ∧ b < base + ops.size) := by
              rintro ⟨h1, h2⟩
              obtain ⟨q, rfl⟩ : ∃ q, b = base + q := ⟨b - base, by omega⟩
              obtain ⟨_, oq, hoq, hmk⟩ := I.own q (by omega) ck hf
              have := hcl q oq hoq hmk i (by omega)
              rw [this] at hg
              cases hg
            have hsame : Hp S base ops.size m D b = (S i).get b := I.same hr hp hst hn hw hblk hpast hf
            have hget : ∀ b', ({ heap := Tr.set .nil b (some ob), next := (S m).next } : St).get b' = if b' = b then some ob else none := fun b' => by
              show (Tr.set .nil b (some ob)).get b' = _
              rw [Tr.get_set]
              split
              · rfl
              · cases b' <;> rfl
            refine ⟨{ heap := Tr.set .nil b (some ob), next := (S m).next }, ⟨?_, ?_, I.rel.dom, I.rel.img⟩, ?_⟩
            · intro b' o' c k h1 h2
              rw [hget] at h1
              split at h1
              · rename_i e
                subst e
                cases h1
                exact I.rel.obj b' ob c k (by rw [hsame, hg]) h2
              · cases h1
            · intro b1 b2 o1 o2 c k1 k2 h1 h2 _ _
              rw [hget] at h1 h2
              split at h1
              · rename_i e1
                split at h2
                · rename_i e2; rw [e1, e2]
                · cases h2
              · cases h1
            · rw [silent_reads (rd' := (S i).get) (fun b' h => by rw [hb] at h; cases h; rw [hget, if_pos rfl, hg])]
              exact hs
    obtain ⟨σ1, hR1, hs1⟩ := hone
    obtain ⟨v', hrun, hv⟩ := silentA_ok hR1 I.tmps ho hs1
    exact OpTo.value hrun ⟨rfl, I.frame hn (fun h => by have h1 := h.1; rw [hk] at h1; cases h1) hv⟩
end
end Go.As
namespace Go.As

section
variable {P : Program} {K : Kn} {ops : Array Oper} {base : Nat} {T : Nat → List Value} {S : Nat → St} {v : Nat → Value} {D : Nat → Prop} {f0 : Inj} {σ : St} {w0 : World} {ds : List Deferred}

theorem Inv.freeAt {f : Inj} {m : Nat} {TD : List Value} {a : Act} {w : World} (I : Inv P ops base T S v f0 σ w0 ds D f m TD a w) {i : Nat} {o : Oper} (hn : Upcoming ops D i o) : f (base + i) = none := by
  have hi : i < ops.size := (Array.getElem?_eq_some_iff.1 hn.at_).1
  cases h : f (base + i) with
  | none => rfl
  | some x => exact absurd (I.own i hi x h).1 hn.not

theorem Inv.heap' {f : Inj} {m : Nat} {TD : List Value} {a : Act} {w : World} (I : Inv P ops base T S v f0 σ w0 ds D f m TD a w) (i : Nat) : ∀ b x, f b = some x → Hp S base ops.size m (With D i) b = Hp S base ops.size m D b := by
  intro b x hx
  by_cases hb : base ≤ b ∧ b < base + ops.size
  · obtain ⟨q, rfl⟩ : ∃ q, b = base + q := ⟨b - base, by omega⟩
    have hq : q < ops.size := by omega
    have hD := (I.own q hq x hx).1
    rw [Hp_in S base ops.size m _ hq hD, Hp_in S base ops.size m (With D i) hq (.inl hD)]
  · rw [Hp_out S base ops.size m _ hb, Hp_out S base ops.size m _ hb]

theorem Inv.makes (hr : TextRun P K ops base T S v) (hp : Plan P ops) (hst : Still P ops base T S) (hσ : σ.next = base) {f : Inj} {m : Nat} {TD : List Value} {a : Act} {w : World} (I : Inv P ops base T S v f0 σ w0 ds D f m TD a w) {i : Nat} {o : Oper}
    (hn : Upcoming ops D i o) (ho : operOk o = true) (hk : okind P o = .makes) (hw : Region.wanted o (yieldedL ops (T i)) = true) :
    OpTo P o a w fun v' w' => ∃ f', Inv P ops base T S v f0 σ w0 ds (With D i) f' m (putL TD o.dst (v i)) (a.put o.dst v') w' := by
  have hi : i < ops.size := (Array.getElem?_eq_some_iff.1 hn.at_).1
  obtain ⟨hev, _⟩ := I.ev hr hp hn
  have hd := hr.does i o hn.at_ hw
  unfold evOper at hd
  rw [hk] at hd
  simp only [allocTo] at hd
  cases hs : allocA P (evA (T i)) o with
  | none => rw [hs] at hd; cases hd
  | some p =>
    obtain ⟨ob, mk⟩ := p
    rw [hs] at hd
    simp only [Option.map_some, place, Option.some.injEq, Prod.mk.injEq] at hd
    obtain ⟨hv, hS⟩ := hd
    rw [alloc_congr (fun x hx => (hev x hx).symm)] at hs
    obtain ⟨o', k, v', w', hrun, h1, h2, h3, h4, h5, h6⟩ := (allocA_ok (w := w) I.tmps ho hs (base + i)).ex
    have hnone := I.freeAt hn
    have hh := I.heap' i
    have hmade : (S (i + 1)).get (base + i) = some ob := by rw [← hS, St.get_at, if_pos rfl]
    have hnew : Hp S base ops.size m (With D i) (base + i) = some ob := by
      rw [Hp_in S base ops.size m (With D i) hi (.inr rfl)]
      rw [← hn.same hr hst hw (lo := i + 1) (b := base + i) (by unfold blkOf; rw [hk]) (by omega) (by have := I.le; omega) (fun q h1 _ => by omega) ?_]
      · exact hmade
      · intro j oj h1 h2 h3 h4
        have hjm : j < m := by omega
        have hD := I.lower hp hn.shut h3 h4 hjm
        exact ⟨by omega, hn.unord_gt hp (by omega) hD⟩
    refine OpTo.value hrun ⟨f.set (base + i) (w.heap.size, k), ?_⟩
    refine ⟨?_, I.le, ?_, (I.tmps' hn.at_).1, (I.tmps' hn.at_).2, putL_rel (I.tmps.mono (Inj.le_set hnone)) o.dst (hv ▸ h6 _ (Inj.set_self _ _ _)), by rw [put_defers]; exact I.defers, ?_, ?_, ?_, I.nx⟩
    · intro j oj hj hkj hD
      rcases hD with hD | rfl
      · exact I.stage j oj hj hkj hD
      · rw [hn.at_] at hj; cases hj; have h1 := hkj.1; rw [hk] at h1; cases h1
    · intro k hm
      obtain ⟨ok, h1, h2, h3⟩ := I.top k hm
      exact ⟨ok, h1, h2, .inl h3⟩
    · refine ⟨?_, ?_, ?_, ?_⟩
      · intro b oo c q hb hc
        unfold Inj.set at hc
        split at hc
        · rename_i e
          subst e
          cases hc
          rw [hnew] at hb
          cases hb
          exact ⟨o', by rw [h1]; simp, h5 _ (Inj.le_set hnone)⟩
        · rw [hh b _ hc] at hb
          obtain ⟨oo', g1, g2⟩ := I.rel.obj b oo c q hb hc
          have := I.rel.img b c q hc
          refine ⟨oo', ?_, g2.mono (Inj.le_set hnone)⟩
          rw [h1, Array.getElem?_push_lt this]
          rw [Array.getElem?_eq_getElem this] at g1
          exact g1
      · intro b b' oo oo' c q q' hb hb' hc hc'
        unfold Inj.set at hc hc'
        by_cases e : b = base + i <;> by_cases e' : b' = base + i
        · rw [e, e']
        · rw [if_pos e] at hc
          rw [if_neg e'] at hc'
          cases hc
          have := I.rel.img b' _ _ hc'
          omega
        · rw [if_neg e] at hc
          rw [if_pos e'] at hc'
          cases hc'
          have := I.rel.img b _ _ hc
          omega
        · rw [if_neg e] at hc
          rw [if_neg e'] at hc'
          rw [hh b _ hc] at hb
          rw [hh b' _ hc'] at hb'
          exact I.rel.inj b b' oo oo' c q q' hb hb' hc hc'
      · intro b x hx
        unfold Inj.set at hx
        split at hx
        · rename_i e; have := I.nx; omega
        · exact I.rel.dom b x hx
      · intro b c q hx
        unfold Inj.set at hx
        rw [h1]
        simp only [Array.size_push]
        split at hx
        · cases hx; omega
        · have := I.rel.img b c q hx; omega
    · have hsz : w.heap.size ≤ w'.heap.size := by rw [h1]; simp
      refine ⟨fun b x hx => Inj.le_set hnone b x (I.ext.le b x hx), h2.trans I.ext.os, h3.trans I.ext.tape, h4.trans I.ext.output, Nat.le_trans I.ext.size hsz, ?_, ?_, ?_, ?_, I.ext.next⟩
      · intro c hc hni
        have hlt : c < w.heap.size := Nat.lt_of_lt_of_le hc I.ext.size
        rw [← I.ext.keep c hc hni, h1, Array.getElem?_push_lt hlt, Array.getElem?_eq_getElem hlt]
      · rintro c hc ⟨b, oo, q, g1, g2, g3⟩
        have hlt : c < w.heap.size := Nat.lt_of_lt_of_le hc I.ext.size
        unfold Inj.set at g3
        split at g3
        · cases g3; omega
        · rw [hh b _ g3] at g1
          exact I.ext.img c hc ⟨b, oo, q, g1, g2, g3⟩
      · rintro c hc ⟨b, oo, q, g1, g3⟩
        have hlt : c < w.heap.size := Nat.lt_of_lt_of_le hc I.ext.size
        unfold Inj.set at g3
        split at g3
        · cases g3; omega
        · rw [hh b _ g3] at g1
          exact I.ext.imgl c hc ⟨b, oo, q, g1, g3⟩
      · intro b x hx
        unfold Inj.set at hx
        split at hx
        · rename_i e; exact .inr (by omega)
        · exact I.ext.new b x hx
    · intro q hq x hx
      unfold Inj.set at hx
      split at hx
      · rename_i e
        have : q = i := by omega
        subst this
        exact ⟨.inr rfl, o, hn.at_, hk⟩
      · exact ⟨.inl (I.own q hq x hx).1, (I.own q hq x hx).2⟩

theorem Inv.writes (hK : K.ok P) (hr : TextRun P K ops base T S v) (hp : Plan P ops) (hcl : Clean P ops base S) {f : Inj} {m : Nat} {TD : List Value} {a : Act} {w : World} (I : Inv P ops base T S v f0 σ w0 ds D f m TD a w) {i : Nat} {o : Oper}
    (hn : Upcoming ops D i o) (ho : operOk o = true) (hk : okind P o = .writes) (hw : Region.wanted o (yieldedL ops (T i)) = true) :
    OpTo P o a w fun v' w' => ∃ f', Inv P ops base T S v f0 σ w0 ds (With D i) f' (i + 1) (putL TD o.dst (v i)) (a.put o.dst v') w' := by
  have hi : i < ops.size := (Array.getElem?_eq_some_iff.1 hn.at_).1
  obtain ⟨hev, _⟩ := I.ev hr hp hn
  have hd := hr.does i o hn.at_ hw
  unfold evOper at hd
  rw [hk] at hd
  simp only at hd
  rw [writes_congr (fun x hx => (hev x hx).symm)] at hd
  have hmi : m ≤ i := by
    rcases Nat.lt_or_ge i m with h | h
    · obtain ⟨ok, h1, h2, h3⟩ := I.top (m - 1) (by omega)
      by_cases e : m - 1 = i
      · rw [e] at h3; exact absurd h3 hn.not
      · rcases hp.line i (m - 1) o ok hn.at_ h1 (by omega) hk h2.1 with h4 | h4
        · exact absurd (ancs_ok ops D hn.shut _ h3 i h4) hn.not
        · have := hp.anc_le h4; omega
    · exact h
  have noW : ∀ j oj, m ≤ j → j < i → ops[j]? = some oj → ¬ IsW P ops T j oj := by
    intro j oj h1 h2 h3 h4
    rcases hp.line j i oj o h3 hn.at_ (by omega) h4.1 hk with h5 | h5
    · rcases hn.before h5 with hD | e
      · have := I.stage j oj h3 h4 hD; omega
      · omega
    · have := hp.anc_le h5; omega
  have keepS : ∀ lo, m ≤ lo → lo ≤ i → (∀ b, (∀ q, lo ≤ q → q < i → b ≠ base + q) → (S lo).get b = (S i).get b) := by
    intro lo h1 h2 b hb
    have := interval (S := S) (b := b) (i - lo) lo (fun j h3 h4 => by
      have hj : j < ops.size := by omega
      have hoj : ops[j]? = some ops[j] := by simp [hj]
      exact ((quietStep hr hoj (noW j _ (by omega) (by omega) hoj)).1 b (hb j h3 (by omega))).symm)
    rw [show lo + (i - lo) = i by omega] at this
    exact this
  have nextS : (S i).next = (S m).next := by
    have : ∀ d, m + d ≤ i → (S (m + d)).next = (S m).next := by
      intro d
      induction d with
      | zero => intro _; rfl
      | succ d ih =>
        intro h
        have hj : m + d < ops.size := by omega
        have hoj : ops[m + d]? = some ops[m + d] := by simp [hj]
        rw [← ih (by omega)]
        exact (quietStep hr hoj (noW _ _ (by omega) (by omega) hoj)).2
    have h2 := this (i - m) (by omega)
    rw [show m + (i - m) = i by omega] at h2
    exact h2
  -- what the text's heap holds here and the map leads to, is what is there
  have eqH : ∀ b x, f b = some x → (∃ ob, (S i).get b = some ob) → Hp S base ops.size m D b = (S i).get b := by
    rintro b x hx ⟨ob, hob⟩
    by_cases hb : base ≤ b ∧ b < base + ops.size
    · obtain ⟨q, rfl⟩ : ∃ q, b = base + q := ⟨b - base, by omega⟩
      obtain ⟨hD, oq, hoq, hmk⟩ := I.own q (by omega) x hx
      have hqi : q < i := by
        rcases Nat.lt_or_ge q i with h | h
        · exact h
        · rw [hcl q oq hoq hmk i h] at hob; cases hob
      rw [Hp_in S base ops.size m D (by omega) hD]
      exact keepS _ (by omega) (by omega) _ (fun q' h1 _ => by omega)
    · rw [Hp_out S base ops.size m D hb]
      exact keepS m (Nat.le_refl _) hmi b (fun q' h1 h2 e => hb ⟨by omega, by omega⟩)
  have hRi : Rel f (S i) w := by
    refine ⟨?_, ?_, ?_, I.rel.img⟩
    · intro b ob c q h1 h2
      exact I.rel.obj b ob c q (by rw [eqH b _ h2 ⟨ob, h1⟩]; exact h1) h2
    · intro b b' ob ob' c q q' h1 h2 h3 h4
      exact I.rel.inj b b' ob ob' c q q' (by rw [eqH b _ h3 ⟨ob, h1⟩]; exact h1) (by rw [eqH b' _ h4 ⟨ob', h2⟩]; exact h2) h3 h4
    · intro b x hx
      rw [nextS]
      exact I.rel.dom b x hx
  intro next Q hnext
  refine writesA_ok hK hRi I.tmps ho hd next Q ?_
  rintro v' w' ⟨f1, hx, hR1, hv⟩
  refine hnext v' w' ⟨f1, ?_⟩
  -- a block that is kept for what comes behind in the text, and is there
  have later : ∀ q x, q < ops.size → i < q → f1 (base + q) = some x → f (base + q) = some x := by
    intro q x hq _ h
    rcases hx.new _ x h with h | h
    · exact h
    · have := I.nx; rw [nextS] at h; omega
  have hpl : ∀ q, q < ops.size → i < q → D q → Hp S base ops.size (i + 1) (With D i) (base + q) = Hp S base ops.size m D (base + q) := by
    intro q hq hiq hD
    rw [Hp_in S base ops.size (i + 1) (With D i) hq (.inl hD), Hp_in S base ops.size m D hq hD]
    rw [show max (i + 1) (q + 1) = q + 1 by omega, show max m (q + 1) = q + 1 by omega]
  have hnow : ∀ b, (∀ q, q < ops.size → i < q → b ≠ base + q) → (∀ x, f1 b = some x → Hp S base ops.size (i + 1) (With D i) b = (S (i + 1)).get b ∨ Hp S base ops.size (i + 1) (With D i) b = none) := by
    intro b hb x _
    by_cases hbr : base ≤ b ∧ b < base + ops.size
    · obtain ⟨q, rfl⟩ : ∃ q, b = base + q := ⟨b - base, by omega⟩
      have hq : q < ops.size := by omega
      have hqi : q ≤ i := by
        rcases Nat.lt_or_ge i q with h | h
        · exact absurd rfl (hb q hq h)
        · exact h
      by_cases hD : With D i q
      · left
        rw [Hp_in S base ops.size (i + 1) (With D i) hq hD, show max (i + 1) (q + 1) = i + 1 by omega]
      · right
        exact Hp_not S base ops.size (i + 1) (With D i) hq hD
    · left
      exact Hp_out S base ops.size (i + 1) (With D i) hbr
  -- a block kept for later is no block of the text's heap here
  have apart : ∀ q x, q < ops.size → i < q → f (base + q) = some x → ∀ b ob y, (S i).get b = some ob → f b = some y → y.1 ≠ x.1 ∨ Hp S base ops.size m D (base + q) = none := by
    intro q x hq hiq hfq b ob y hb hfb
    cases hH : Hp S base ops.size m D (base + q) with
    | none => exact .inr rfl
    | some oq' =>
      left
      intro e
      have h1 := eqH b y hfb ⟨ob, hb⟩
      have h2 := I.rel.inj b (base + q) ob oq' y.1 y.2 x.2 (by rw [h1]; exact hb) hH hfb (by rw [e]; exact hfq)
      obtain ⟨_, oq, hoq, hmk⟩ := I.own q hq x hfq
      rw [h2, hcl q oq hoq hmk i (by omega)] at hb
      cases hb
  have split : ∀ b, (∃ q, q < ops.size ∧ i < q ∧ b = base + q) ∨ (∀ q, q < ops.size → i < q → b ≠ base + q) := by
    intro b
    by_cases h : ∃ q, q < ops.size ∧ i < q ∧ b = base + q
    · exact .inl h
    · exact .inr fun q h1 h2 e => h ⟨q, h1, h2, e⟩
  refine ⟨?_, by omega, ?_, (I.tmps' hn.at_).1, (I.tmps' hn.at_).2, putL_rel (I.tmps.mono hx.le) o.dst hv, by rw [put_defers]; exact I.defers, ?_, ?_, ?_, ?_⟩
  · intro j oj hj hkj hD
    rcases hD with hD | rfl
    · have := I.stage j oj hj hkj hD; omega
    · omega
  · intro k hm
    have : k = i := by omega
    subst this
    exact ⟨o, hn.at_, ⟨hk, hw⟩, .inr rfl⟩
  · refine ⟨?_, ?_, hR1.dom, hR1.img⟩
    · intro b ob c q hb hc
      rcases split b with ⟨p, hp1, hp2, rfl⟩ | hno
      · have hfq := later p _ hp1 hp2 hc
        have hD := (I.own p hp1 _ hfq).1
        rw [hpl p hp1 hp2 hD] at hb
        obtain ⟨oo, h1, h2⟩ := I.rel.obj _ ob c q hb hfq
        refine ⟨oo, ?_, h2.mono hx.le⟩
        rw [hx.keep c (I.rel.img _ c q hfq)]
        · exact h1
        · rintro ⟨b2, ob2, q2, g1, _, g3⟩
          rcases apart p _ hp1 hp2 hfq b2 ob2 _ g1 g3 with h | h
          · exact h rfl
          · rw [h] at hb; cases hb
      · rcases hnow b hno _ hc with h | h
        · rw [h] at hb
          exact hR1.obj b ob c q hb hc
        · rw [h] at hb; cases hb
    · intro b b' ob ob' c q q' hb hb' hc hc'
      rcases split b with ⟨p, hp1, hp2, rfl⟩ | hno <;> rcases split b' with ⟨p', hp1', hp2', rfl⟩ | hno'
      · have hfq := later p _ hp1 hp2 hc
        have hfq' := later p' _ hp1' hp2' hc'
        rw [hpl p hp1 hp2 (I.own p hp1 _ hfq).1] at hb
        rw [hpl p' hp1' hp2' (I.own p' hp1' _ hfq').1] at hb'
        exact I.rel.inj _ _ ob ob' c q q' hb hb' hfq hfq'
      · exfalso
        have hfq := later p _ hp1 hp2 hc
        rw [hpl p hp1 hp2 (I.own p hp1 _ hfq).1] at hb
        rcases hnow b' hno' _ hc' with h | h
        · rw [h] at hb'
          obtain ⟨b2, ob2, q2, g1, g3⟩ := hx.imgl c (I.rel.img _ c q hfq) ⟨b', ob', q', hb', hc'⟩
          rcases apart p _ hp1 hp2 hfq b2 ob2 _ g1 g3 with h | h
          · exact h rfl
          · rw [h] at hb; cases hb
        · rw [h] at hb'; cases hb'
      · exfalso
        have hfq := later p' _ hp1' hp2' hc'
        rw [hpl p' hp1' hp2' (I.own p' hp1' _ hfq).1] at hb'
        rcases hnow b hno _ hc with h | h
        · rw [h] at hb
          obtain ⟨b2, ob2, q2, g1, g3⟩ := hx.imgl c (I.rel.img _ c q' hfq) ⟨b, ob, q, hb, hc⟩
          rcases apart p' _ hp1' hp2' hfq b2 ob2 _ g1 g3 with h | h
          · exact h rfl
          · rw [h] at hb'; cases hb'
        · rw [h] at hb; cases hb
      · rcases hnow b hno _ hc with h | h
        · rcases hnow b' hno' _ hc' with h' | h'
          · rw [h] at hb
            rw [h'] at hb'
            exact hR1.inj b b' ob ob' c q q' hb hb' hc hc'
          · rw [h'] at hb'; cases hb'
        · rw [h] at hb; cases hb
  · have keepI : ∀ c, Img f (S i).get c → Img f (Hp S base ops.size m D) c := by
      rintro c ⟨b, ob, q, g1, g2, g3⟩
      exact ⟨b, ob, q, by rw [eqH b _ g3 ⟨ob, g1⟩]; exact g1, g2, g3⟩
    have keepL : ∀ c, ImgL f (S i).get c → ImgL f (Hp S base ops.size m D) c := by
      rintro c ⟨b, ob, q, g1, g3⟩
      exact ⟨b, ob, q, by rw [eqH b _ g3 ⟨ob, g1⟩]; exact g1, g3⟩
    refine ⟨fun b x h => hx.le b x (I.ext.le b x h), hx.os.trans I.ext.os, hx.tape.trans I.ext.tape, hx.output.trans I.ext.output, Nat.le_trans I.ext.size hx.size, ?_, ?_, ?_, ?_, ?_⟩
    · intro c hc hni
      have hlt : c < w.heap.size := Nat.lt_of_lt_of_le hc I.ext.size
      rw [← I.ext.keep c hc hni]
      exact hx.keep c hlt (fun h => hni (I.ext.img c hc (keepI c h)))
    · rintro c hc ⟨b, ob, q, g1, g2, g3⟩
      have hlt : c < w.heap.size := Nat.lt_of_lt_of_le hc I.ext.size
      rcases split b with ⟨p, hp1, hp2, rfl⟩ | hno
      · have hfq := later p _ hp1 hp2 g3
        rw [hpl p hp1 hp2 (I.own p hp1 _ hfq).1] at g1
        exact I.ext.img c hc ⟨_, ob, q, g1, g2, hfq⟩
      · rcases hnow b hno _ g3 with h | h
        · rw [h] at g1
          exact I.ext.img c hc (keepI c (hx.img c hlt ⟨b, ob, q, g1, g2, g3⟩))
        · rw [h] at g1; cases g1
    · rintro c hc ⟨b, ob, q, g1, g3⟩
      have hlt : c < w.heap.size := Nat.lt_of_lt_of_le hc I.ext.size
      rcases split b with ⟨p, hp1, hp2, rfl⟩ | hno
      · have hfq := later p _ hp1 hp2 g3
        rw [hpl p hp1 hp2 (I.own p hp1 _ hfq).1] at g1
        exact I.ext.imgl c hc ⟨_, ob, q, g1, hfq⟩
      · rcases hnow b hno _ g3 with h | h
        · rw [h] at g1
          exact I.ext.imgl c hc (keepL c (hx.imgl c hlt ⟨b, ob, q, g1, g3⟩))
        · rw [h] at g1; cases g1
    · intro b x h
      rcases hx.new b x h with h | h
      · exact I.ext.new b x h
      · exact .inr (by rw [nextS] at h; exact Nat.le_trans I.ext.next h)
    · have h1 := hx.next
      rw [nextS] at h1
      exact Nat.le_trans I.ext.next h1
  · intro q hq x h
    have : f (base + q) = some x := by
      rcases hx.new _ x h with h | h
      · exact h
      · have := I.nx; rw [nextS] at h; omega
    exact ⟨.inl (I.own q hq x this).1, (I.own q hq x this).2⟩
  · have h1 := hx.next
    rw [nextS] at h1
    have := I.nx
    omega
end
end Go.As
namespace Go.As

section
variable {P : Program} {K : Kn} {ops : Array Oper} {base : Nat} {T : Nat → List Value} {S : Nat → St} {v : Nat → Value} {D : Nat → Prop} {f0 : Inj} {σ : St} {w0 : World} {ds : List Deferred}

theorem Inv.final (hr : TextRun P K ops base T S v) (hp : Plan P ops) {f : Inj} {m : Nat} {TD : List Value} {a : Act} {w : World} (I : Inv P ops base T S v f0 σ w0 ds D f m TD a w) (hall : ∀ j, j < ops.size → D j) :
    After f0 σ w0 (T ops.size) (S ops.size) ds a w := by
  have hT : TD = T ops.size := by
    apply List.ext_getElem?
    intro t
    by_cases hlt : t < (T 0).length
    · have hx : TD[t]? = some (TD[t]'(by rw [I.len]; exact hlt)) := by simp [I.len, hlt]
      rw [hx]
      rcases I.val t _ hx with ⟨j, oj, _, hj, hd, e⟩ | ⟨hno, h0⟩
      · rw [e]
        exact (T_behind hr hp hj hd hlt ops.size (Nat.le_refl _) (Array.getElem?_eq_some_iff.1 hj).1).symm
      · rw [T_before hr ops.size (Nat.le_refl _) (fun j oj hj h => hno j oj (hall j hj) h)]
        exact h0.symm
    · have h1 : (T 0).length ≤ t := Nat.le_of_not_lt hlt
      rw [List.getElem?_eq_none (by rw [I.len]; exact h1), List.getElem?_eq_none (by rw [T_length hr ops.size (Nat.le_refl _)]; exact h1)]
  have noW : ∀ j oj, m ≤ j → ops[j]? = some oj → ¬ IsW P ops T j oj := by
    intro j oj h1 h2 h3
    have := I.stage j oj h2 h3 (hall j (Array.getElem?_eq_some_iff.1 h2).1)
    omega
  have keepS : ∀ lo, m ≤ lo → lo ≤ ops.size → (∀ b, (∀ q, lo ≤ q → q < ops.size → b ≠ base + q) → (S lo).get b = (S ops.size).get b) := by
    intro lo h1 h2 b hb
    have := interval (S := S) (b := b) (ops.size - lo) lo (fun j h3 h4 => by
      have hj : j < ops.size := by omega
      have hoj : ops[j]? = some ops[j] := by simp [hj]
      exact ((quietStep hr hoj (noW j _ (by omega) hoj)).1 b (hb j h3 hj)).symm)
    rw [show lo + (ops.size - lo) = ops.size by omega] at this
    exact this
  have nextS : (S ops.size).next = (S m).next := by
    have : ∀ d, m + d ≤ ops.size → (S (m + d)).next = (S m).next := by
      intro d
      induction d with
      | zero => intro _; rfl
      | succ d ih =>
        intro h
        have hj : m + d < ops.size := by omega
        have hoj : ops[m + d]? = some ops[m + d] := by simp [hj]
        rw [← ih (by omega)]
        exact (quietStep hr hoj (noW _ _ (by omega) hoj)).2
    have h2 := this (ops.size - m) (by have := I.le; omega)
    rw [show m + (ops.size - m) = ops.size by have := I.le; omega] at h2
    exact h2
  have hg : ∀ b x, f b = some x → (S ops.size).get b = Hp S base ops.size m D b := by
    intro b x hx
    by_cases hb : base ≤ b ∧ b < base + ops.size
    · obtain ⟨q, rfl⟩ : ∃ q, b = base + q := ⟨b - base, by omega⟩
      rw [Hp_in S base ops.size m D (by omega) (hall q (by omega))]
      exact (keepS _ (by omega) (by have := I.le; omega) _ (fun q' h1 _ => by omega)).symm
    · rw [Hp_out S base ops.size m D hb]
      exact (keepS m (Nat.le_refl _) I.le b (fun q' h1 h2 e => hb ⟨by omega, by omega⟩)).symm
  have h1 := I.rel.congr (nx' := (S ops.size).next) hg (fun b x hx => by rw [nextS]; exact I.rel.dom b x hx)
  have h2 := I.ext.congr (nx' := (S ops.size).next) hg (by rw [nextS]; exact I.ext.next)
  exact ⟨f, ⟨h2.le, h2.os, h2.tape, h2.output, h2.size, h2.keep, h2.img, h2.imgl, h2.new, h2.next⟩, h1.to, hT ▸ I.tmps, I.defers⟩

theorem Inv.step (hK : K.ok P) (hr : TextRun P K ops base T S v) (hp : Plan P ops) (hst : Still P ops base T S) (hcl : Clean P ops base S) (hσ : σ.next = base) {f : Inj} {m : Nat} {TD : List Value} {a : Act} {w : World}
    (I : Inv P ops base T S v f0 σ w0 ds D f m TD a w) {i : Nat} {o : Oper} (hn : Upcoming ops D i o) (ho : operOk o = true) {Q : Exit → Act → World → Prop} {N : Act → World → Prop}
    (hN : ∀ f' m' TD' a' w', Inv P ops base T S v f0 σ w0 ds (With D i) f' m' TD' a' w' → N a' w') : wpOp P ops Q i N a w := by
  unfold wpOp
  rw [hn.at_]
  simp only
  rw [yielded_rel I.tmps ops, (I.ev hr hp hn).2]
  cases hw : Region.wanted o (yieldedL ops (T i)) with
  | true =>
    rw [if_pos rfl]
    refine .inl ?_
    cases hk : okind P o with
    | silent => exact I.silent hr hp hst hcl hn ho hk hw _ _ fun v' w' ⟨e, h⟩ => by rw [e]; exact hN _ _ _ _ _ h
    | makes => exact I.makes hr hp hst hσ hn ho hk hw _ _ fun v' w' ⟨f', h⟩ => hN _ _ _ _ _ h
    | writes => exact I.writes hK hr hp hcl hn ho hk hw _ _ fun v' w' ⟨f', h⟩ => hN _ _ _ _ _ h
  | false =>
    rw [if_neg (by simp)]
    obtain ⟨hv, _⟩ := hr.idles i o hn.at_ hw
    have := I.frame hn (fun h => by rw [h.2] at hw; cases hw) (v' := undef) (hv ▸ VRel.undef f)
    exact hN _ _ _ _ _ this

theorem getD_any {listed : Array Bool} {j : Nat} (h : j < listed.size) (a b : Bool) : listed.getD j a = listed.getD j b := by simp [Array.getD, h]

theorem wpAny_inv (hK : K.ok P) (hr : TextRun P K ops base T S v) (hp : Plan P ops) (hst : Still P ops base T S) (hcl : Clean P ops base S) (hσ : σ.next = base) (hops : ∀ o, o ∈ ops.toList → operOk o = true) {Q : Exit → Act → World → Prop}
    (hQ : ∀ a w, After f0 σ w0 (T ops.size) (S ops.size) ds a w → Q .normal a w) : ∀ (fuel : Nat) (listed : Array Bool) (f : Inj) (m : Nat) (TD : List Value) (a : Act) (w : World), listed.size = ops.size →
      ((List.range ops.size).filter fun j => !listed.getD j false).length ≤ fuel → Shut ops (fun j => listed.getD j false = true) → Inv P ops base T S v f0 σ w0 ds (fun j => listed.getD j false = true) f m TD a w →
      wpAny P .any ops Q fuel listed a w := by
  have done : ∀ (listed : Array Bool) (f : Inj) (m : Nat) (TD : List Value) (a : Act) (w : World), Region.ready .any ops listed = [] → listed.size = ops.size →
      Inv P ops base T S v f0 σ w0 ds (fun j => listed.getD j false = true) f m TD a w → Q .normal a w := by
    intro listed f m TD a w hrd hsz I
    refine hQ a w (I.final hr hp ?_)
    intro j
    induction j using Nat.strongRecOn with
    | _ j ih =>
      intro hj
      have hoj : ops[j]? = some ops[j] := by simp [hj]
      cases hl : listed.getD j false with
      | true => rfl
      | false =>
        exfalso
        have : j ∈ Region.ready .any ops listed := mem_ready.2 ⟨by
            rw [getD_any (show j < listed.size by omega) true false]
            exact hl, _, hoj, fun e he hb => by
            have h1 := hp.back j _ hoj e (by simpa using he) hb
            exact ih e.on h1 (by omega)⟩
        rw [hrd] at this
        cases this
  intro fuel
  induction fuel with
  | zero =>
    intro listed f m TD a w hsz hc hsh I
    have hrd : Region.ready .any ops listed = [] := by
      apply List.eq_nil_iff_forall_not_mem.2
      intro j hj
      obtain ⟨h1, oj, hoj, _⟩ := mem_ready.1 hj
      have hjs : j < ops.size := (Array.getElem?_eq_some_iff.1 hoj).1
      have hmem : j ∈ (List.range ops.size).filter fun j => !listed.getD j false := List.mem_filter.2 ⟨List.mem_range.2 hjs, by
        rw [getD_any (show j < listed.size by omega) true false] at h1
        rw [h1]
        rfl⟩
      have := List.length_pos_of_mem hmem
      omega
    exact ⟨hrd, done listed f m TD a w hrd hsz I⟩
  | succ fuel ih =>
    intro listed f m TD a w hsz hc hsh I
    refine ⟨fun hrd => done listed f m TD a w hrd hsz I, fun i hi => ?_⟩
    obtain ⟨h1, oi, hoi, hw⟩ := mem_ready.1 hi
    have his : i < ops.size := (Array.getElem?_eq_some_iff.1 hoi).1
    have hil : i < listed.size := by omega
    have hfi : listed.getD i false = false := by
      rw [getD_any hil true false] at h1
      exact h1
    have hget : ∀ j, (listed.setIfInBounds i true).getD j false = (if j = i then true else listed.getD j false) := by
      intro j
      by_cases e : j = i
      · subst e; simp [hil]
      · rw [if_neg e, getD_set_ne false (Ne.symm e)]
    have hn : Upcoming ops (fun j => listed.getD j false = true) i oi := ⟨hoi, by simp [hfi], hsh, fun e he hb => hw e (by simpa using he) hb⟩
    refine I.step hK hr hp hst hcl hσ hn (hops oi (by simpa using Array.mem_of_getElem? hoi)) ?_
    intro f' m' TD' a' w' I'
    have hD : (fun j => (listed.setIfInBounds i true).getD j false = true) = With (fun j => listed.getD j false = true) i := by
      funext j
      rw [hget j]
      by_cases e : j = i
      · simp [e, With]
      · simp [e, With]
    refine ih _ f' m' TD' a' w' (by simp [hsz]) ?_ ?_ (by rw [hD]; exact I')
    · have hlt : ((List.range ops.size).filter fun j => !(listed.setIfInBounds i true).getD j false).length < ((List.range ops.size).filter fun j => !listed.getD j false).length := by
        have key : ∀ l : List Nat, i ∈ l → (l.filter fun j => !(listed.setIfInBounds i true).getD j false).length < (l.filter fun j => !listed.getD j false).length := by
          have le : ∀ l : List Nat, (l.filter fun j => !(listed.setIfInBounds i true).getD j false).length ≤ (l.filter fun j => !listed.getD j false).length := by
            intro l
            induction l with
            | nil => simp
            | cons x l ihl =>
              simp only [List.filter_cons, hget x]
              by_cases e : x = i
              · subst e
                rw [if_pos rfl, hfi]
                simp only [Bool.not_true, Bool.false_eq_true, if_false, Bool.not_false, if_true, List.length_cons]
                omega
              · rw [if_neg e]
                cases listed.getD x false <;> simp only [Bool.not_true, Bool.false_eq_true, if_false, Bool.not_false, if_true, List.length_cons] <;> omega
          intro l
          induction l with
          | nil => intro h; cases h
          | cons x l ihl =>
            intro h
            simp only [List.filter_cons, hget x]
            by_cases e : x = i
            · subst e
              rw [if_pos rfl, hfi]
              simp only [Bool.not_true, Bool.false_eq_true, if_false, Bool.not_false, if_true, List.length_cons]
              have := le l
              omega
            · have := ihl ((List.mem_cons.1 h).resolve_left (Ne.symm e))
              rw [if_neg e]
              cases listed.getD x false <;> simp only [Bool.not_true, Bool.false_eq_true, if_false, Bool.not_false, if_true, List.length_cons] <;> omega
        exact key _ (List.mem_range.2 his)
      omega
    · rw [hD]
      intro j o hj hDj e he hb
      rcases hDj with hDj | rfl
      · exact .inl (hsh j o hj hDj e he hb)
      · rw [hoi] at hj
        cases hj
        exact .inl (hn.waits e he hb)

theorem drawn_ok (hK : K.ok P) (hr : TextRun P K ops σ.next T S v) (hp : Plan P ops) (hst : Still P ops σ.next T S) (hcl : Clean P ops σ.next S) (hops : ∀ o, o ∈ ops.toList → operOk o = true) (hm : P.follows .mixedOrders = true)
    (hS0 : S 0 = { σ with next := σ.next + ops.size }) {f : Inj} {w : World} {a : Act} (hR : Rel f σ w) (hT : LRel f (T 0) a.tmps.toList) {id : Nat} {Q : Exit → Act → World → Prop}
    (hQ : ∀ a' w', After f σ w (T ops.size) (S ops.size) a.defers a' w' → Q .normal a' w') : (Code.region id ops true).wp P Q a w := by
  refine wp_region_any hm ?_
  have hnone : ∀ b, σ.next ≤ b → f b = none := by
    intro b hb
    cases h : f b with
    | none => rfl
    | some x => have := hR.dom b x h; omega
  have hget0 : ∀ b, (S 0).get b = σ.get b := by intro b; rw [hS0]; rfl
  have hnx0 : (S 0).next = σ.next + ops.size := by rw [hS0]
  have hHp : ∀ b x, f b = some x → Hp S σ.next ops.size 0 (fun j => (Array.replicate ops.size false).getD j false = true) b = σ.get b := by
    intro b x hx
    have := hR.dom b x hx
    rw [Hp_out S σ.next ops.size 0 _ (by omega), hget0]
  refine wpAny_inv hK hr hp hst hcl rfl hops hQ ops.size _ f 0 (T 0) a _ (by simp) ?_ ?_ ?_
  · exact Nat.le_trans (List.length_filter_le _ _) (by simp)
  · intro j o hj hD
    exfalso
    revert hD
    simp [Array.getD]
  · refine ⟨?_, Nat.zero_le _, fun k h => by omega, rfl, ?_, hT, rfl, ?_, ?_, ?_, by rw [hnx0]; exact Nat.le_refl _⟩
    · intro j o hj hk hD
      exfalso
      revert hD
      simp [Array.getD]
    · intro t x hx
      refine .inr ⟨fun j o hD => ?_, hx⟩
      exfalso
      revert hD
      simp [Array.getD]
    · have hrel : RelG f σ.get σ.next { w with drawn := w.drawn + 1 } := ⟨hR.obj, hR.inj, hR.dom, hR.img⟩
      exact hrel.congr hHp (fun b x hx => by have := hR.dom b x hx; rw [hnx0]; omega)
    · have hext : ExtG f σ w f σ.get σ.next { w with drawn := w.drawn + 1 } := ⟨fun _ _ h => h, rfl, rfl, rfl, Nat.le_refl _, fun _ _ _ => rfl, fun _ _ h => h, fun _ _ h => h, fun _ _ h => .inl h, Nat.le_refl _⟩
      exact hext.congr hHp (by rw [hnx0]; omega)
    · intro q hq x hx
      rw [hnone _ (by omega)] at hx
      cases hx
end
end Go.As
namespace Go.As

/-! ### Drawn regions, by a function -/
abbrev Trace := List (List Value × St × Value)

def evTr (P : Program) (K : Kn) (ops : Array Oper) (base : Nat) : List Oper → Nat → List Value → St → Option (Trace × List Value × St)
  | [], _, T, σ => some ([], T, σ)
  | o :: l, k, T, σ =>
    if Region.wanted o (yieldedL ops T) then
      match evOper P K (some (base + k)) T o σ with
      | some (v, σ') =>
        match evTr P K ops base l (k + 1) (putL T o.dst v) σ' with
        | some (tr, r) => some ((T, σ, v) :: tr, r)
        | none => none
      | none => none
    else
      match evTr P K ops base l (k + 1) (putL T o.dst undef) σ with
      | some (tr, r) => some ((T, σ, undef) :: tr, r)
      | none => none

def tAt (tr : Trace) (T' : List Value) (k : Nat) : List Value := match tr[k]? with | some x => x.1 | none => T'
def sAt (tr : Trace) (σ' : St) (k : Nat) : St := match tr[k]? with | some x => x.2.1 | none => σ'
def vAt (tr : Trace) (k : Nat) : Value := match tr[k]? with | some x => x.2.2 | none => undef

theorem evTr_length {P : Program} {K : Kn} {ops : Array Oper} {base : Nat} : ∀ (l : List Oper) (k : Nat) (T : List Value) (σ : St) {tr : Trace} {T' : List Value} {σ' : St}, evTr P K ops base l k T σ = some (tr, T', σ') → tr.length = l.length
  | [], k, T, σ, tr, T', σ', h => by simp only [evTr, Option.some.injEq, Prod.mk.injEq] at h; rw [← h.1]; rfl
  | o :: l, k, T, σ, tr, T', σ', h => by
    simp only [evTr] at h
    split at h
    · split at h
      · split at h
        · rename_i hr
          simp only [Option.some.injEq, Prod.mk.injEq] at h
          rw [← h.1, List.length_cons, evTr_length l _ _ _ hr, List.length_cons]
        · cases h
      · cases h
    · split at h
      · rename_i hr
        simp only [Option.some.injEq, Prod.mk.injEq] at h
        rw [← h.1, List.length_cons, evTr_length l _ _ _ hr, List.length_cons]
      · cases h

theorem evTr_spec {P : Program} {K : Kn} {ops : Array Oper} {base : Nat} : ∀ (l : List Oper) (k : Nat) (T : List Value) (σ : St) {tr : Trace} {T' : List Value} {σ' : St}, evTr P K ops base l k T σ = some (tr, T', σ') →
    tAt tr T' 0 = T ∧ sAt tr σ' 0 = σ ∧ ∀ j o, l[j]? = some o →
      tAt tr T' (j + 1) = putL (tAt tr T' j) o.dst (vAt tr j) ∧
      (Region.wanted o (yieldedL ops (tAt tr T' j)) = true → evOper P K (some (base + (k + j))) (tAt tr T' j) o (sAt tr σ' j) = some (vAt tr j, sAt tr σ' (j + 1))) ∧
      (Region.wanted o (yieldedL ops (tAt tr T' j)) = false → vAt tr j = undef ∧ sAt tr σ' (j + 1) = sAt tr σ' j)
  | [], k, T, σ, tr, T', σ', h => by
    simp only [evTr, Option.some.injEq, Prod.mk.injEq] at h
    obtain ⟨rfl, rfl, rfl⟩ := h
    exact ⟨rfl, rfl, fun j o h => by simp at h⟩
  | o :: l, k, T, σ, tr, T', σ', h => by
    have shift : ∀ (x : List Value × St × Value) (tr1 : Trace) (j : Nat), tAt (x :: tr1) T' (j + 1) = tAt tr1 T' j ∧ sAt (x :: tr1) σ' (j + 1) = sAt tr1 σ' j ∧ vAt (x :: tr1) (j + 1) = vAt tr1 j := by
      intro x tr1 j
      unfold tAt sAt vAt
      simp
    simp only [evTr] at h
    split at h
    · rename_i hw
      split at h
      · rename_i v σ1 hv
        split at h
        · rename_i tr1 r hr
          simp only [Option.some.injEq, Prod.mk.injEq] at h
          obtain ⟨rfl, rfl⟩ := h
          obtain ⟨h1, h2, h3⟩ := evTr_spec l (k + 1) _ σ1 hr
          refine ⟨rfl, rfl, fun j oj hj => ?_⟩
          cases j with
          | zero =>
            simp only [List.getElem?_cons_zero, Option.some.injEq] at hj
            subst hj
            rw [(shift _ _ 0).1, (shift _ _ 0).2.1, h1, h2]
            refine ⟨rfl, fun _ => hv, fun hn => ?_⟩
            have : Region.wanted o (yieldedL ops T) = false := hn
            rw [hw] at this
            cases this
          | succ j =>
            simp only [List.getElem?_cons_succ] at hj
            obtain ⟨g1, g2, g3⟩ := h3 j oj hj
            rw [(shift _ _ (j + 1)).1, (shift _ _ j).1, (shift _ _ j).2.1, (shift _ _ j).2.2, (shift _ _ (j + 1)).2.1, show k + (j + 1) = k + 1 + j by omega]
            exact ⟨g1, g2, g3⟩
        · cases h
      · cases h
    · rename_i hw
      split at h
      · rename_i tr1 r hr
        simp only [Option.some.injEq, Prod.mk.injEq] at h
        obtain ⟨rfl, rfl⟩ := h
        obtain ⟨h1, h2, h3⟩ := evTr_spec l (k + 1) _ σ hr
        refine ⟨rfl, rfl, fun j oj hj => ?_⟩
        cases j with
        | zero =>
          simp only [List.getElem?_cons_zero, Option.some.injEq] at hj
          subst hj
          rw [(shift _ _ 0).1, (shift _ _ 0).2.1, h1, h2]
          exact ⟨rfl, fun hn => absurd hn hw, fun _ => ⟨rfl, rfl⟩⟩
        | succ j =>
          simp only [List.getElem?_cons_succ] at hj
          obtain ⟨g1, g2, g3⟩ := h3 j oj hj
          rw [(shift _ _ (j + 1)).1, (shift _ _ j).1, (shift _ _ j).2.1, (shift _ _ j).2.2, (shift _ _ (j + 1)).2.1, show k + (j + 1) = k + 1 + j by omega]
          exact ⟨g1, g2, g3⟩
      · cases h

/-! ### The plan of a region, and its checks -/
def unordB (anc : List Nat) (i j : Nat) : Bool := !((anc.getD j 0).testBit i) && !((anc.getD i 0).testBit j)

def planB (P : Program) (ops : Array Oper) : Bool :=
  let anc := ancs ops.toList
  let ix := ops.toList.zipIdx
  ix.all fun (oi, i) =>
    oi.after.toList.all (fun e => !Region.binds .any e || decide (e.on < i)) &&
    ix.all fun (oj, j) => i == j ||
      ((match oi.dst, oj.dst with | some s, some t => s != t | _, _ => true) &&
       (!unordB anc i j || ((match oj.dst with | some t => !(oi.looksAt ops).contains t | none => true) && !(okind P oi == .writes && okind P oj == .writes))))

theorem Unord_of {ops : Array Oper} {i j : Nat} : unordB (ancs ops.toList) i j = true ↔ Unord ops i j := by
  unfold unordB Unord Anc
  simp

theorem plan_of {P : Program} {ops : Array Oper} (h : planB P ops = true) : Plan P ops := by
  unfold planB at h
  simp only [List.all_eq_true] at h
  have get : ∀ (i : Nat) (oi : Oper), ops[i]? = some oi → (oi, i) ∈ ops.toList.zipIdx := by
    intro i oi hi
    rw [List.mem_zipIdx_iff_getElem?]
    rw [Array.getElem?_toList]
    exact hi
  have two : ∀ (i j : Nat) (oi oj : Oper), ops[i]? = some oi → ops[j]? = some oj → i ≠ j →
      (match oi.dst, oj.dst with | some s, some t => s != t | _, _ => true) = true ∧ (Unord ops i j → (match oj.dst with | some t => !(oi.looksAt ops).contains t | none => true) = true ∧ ¬ (okind P oi = .writes ∧ okind P oj = .writes)) := by
    intro i j oi oj hi hj hne
    have h1 := h (oi, i) (get i oi hi)
    simp only [Bool.and_eq_true, List.all_eq_true] at h1
    have h2 := h1.2 (oj, j) (get j oj hj)
    simp only [Bool.or_eq_true, beq_iff_eq, hne, false_or, Bool.and_eq_true, Bool.not_eq_true'] at h2
    refine ⟨h2.1, fun hu => ?_⟩
    have h3 := h2.2.resolve_left (by rw [Unord_of.2 hu]; simp)
    refine ⟨h3.1, fun ⟨e1, e2⟩ => ?_⟩
    have := h3.2
    rw [e1, e2] at this
    exact absurd this (by decide)
  refine ⟨?_, ?_, ?_, ?_⟩
  · intro j o hj e he hb
    have h1 := h (o, j) (get j o hj)
    simp only [Bool.and_eq_true, List.all_eq_true] at h1
    have := h1.1 e he
    rw [hb] at this
    simpa using this
  · intro i j oi oj t hi hj hdi hdj
    by_cases hne : i = j
    · exact hne
    · have := (two i j oi oj hi hj hne).1
      rw [hdi, hdj] at this
      simp at this
  · intro i j oi oj t hi hj hne hu hd
    have := ((two i j oi oj hi hj hne).2 hu).1
    rw [hd] at this
    simpa using this
  · intro i j oi oj hi hj hne hki hkj
    by_cases hu : Unord ops i j
    · exact absurd ⟨hki, hkj⟩ ((two i j oi oj hi hj hne).2 hu).2
    · unfold Unord at hu
      by_cases h1 : Anc ops i j
      · exact .inl h1
      · by_cases h2 : Anc ops j i
        · exact .inr h2
        · exact absurd ⟨h1, h2⟩ hu

/-- May it read memory? -/
def mayRead (o : Oper) : Bool :=
  match o.op with
  | .load .. | .lookup .. | .convert .. | .call _ => true
  | _ => false

theorem readBlock_none {ρ : Operand → Value} {o : Oper} (h : mayRead o = false) : readBlock ρ o = none := by
  obtain ⟨dst, op, type, pos, after, guard⟩ := o
  cases op <;> first | rfl | (simp only [mayRead] at h; cases h)

/-- Pairs to be looked at: what makes or may read, and what writes, in either order. -/
def stillPairs (P : Program) (ops : Array Oper) : List (Nat × Nat) :=
  let anc := ancs ops.toList
  let ix := ops.toList.zipIdx
  ix.flatMap fun (oi, i) => if okind P oi == .makes || (okind P oi == .silent && mayRead oi) then (ix.filter fun (oj, j) => i != j && okind P oj == .writes && unordB anc i j).map fun p => (i, p.2) else []

def stillAt (P : Program) (ops : Array Oper) (base : Nat) (tr : Trace) (T' : List Value) (σ' : St) (p : Nat × Nat) : Prop :=
  match ops[p.1]? with
  | some o => Region.wanted o (yieldedL ops (tAt tr T' p.1)) = true → ∀ b, blkOf P base p.1 (tAt tr T' p.1) o = some b → (sAt tr σ' p.2).get b = (sAt tr σ' (p.2 + 1)).get b
  | none => True

def cleanPts (P : Program) (ops : Array Oper) : List (Nat × Nat) :=
  let ix := ops.toList.zipIdx
  ix.flatMap fun (oq, q) => if okind P oq == .makes then (q, 0) :: (ix.filter fun (oj, j) => j < q && okind P oj == .writes).map fun p => (q, p.2 + 1) else []

def Checks (P : Program) (ops : Array Oper) (base : Nat) (tr : Trace) (T' : List Value) (σ' : St) : Prop :=
  (∀ p, p ∈ stillPairs P ops → stillAt P ops base tr T' σ' p) ∧ ∀ p, p ∈ cleanPts P ops → (sAt tr σ' p.2).get (base + p.1) = none

open Classical in
noncomputable def evRegD (P : Program) (K : Kn) (ops : Array Oper) (T : List Value) (σ : St) : Option (List Value × St) :=
  if planB P ops then
    match evTr P K ops σ.next ops.toList 0 T { σ with next := σ.next + ops.size } with
    | some (tr, T', σ') => if Checks P ops σ.next tr T' σ' then some (T', σ') else none
    | none => none
  else none

theorem evRegD_ok {P : Program} {K : Kn} (hK : K.ok P) (hm : P.follows .mixedOrders = true) {ops : Array Oper} (hops : ∀ o, o ∈ ops.toList → operOk o = true) {T T' : List Value} {σ σ' : St} (h : evRegD P K ops T σ = some (T', σ'))
    {f : Inj} {w : World} {a : Act} (hR : Rel f σ w) (hT : LRel f T a.tmps.toList) {id : Nat} {Q : Exit → Act → World → Prop} (hQ : ∀ a' w', After f σ w T' σ' a.defers a' w' → Q .normal a' w') : (Code.region id ops true).wp P Q a w := by
  unfold evRegD at h
  split at h
  · rename_i hp
    split at h
    · rename_i tr T1 σ1 htr
      split at h
      · rename_i hck
        simp only [Option.some.injEq, Prod.mk.injEq] at h
        obtain ⟨rfl, rfl⟩ := h
        have hlen : tr.length = ops.size := by have := evTr_length _ _ _ _ htr; simpa using this
        obtain ⟨h1, h2, h3⟩ := evTr_spec _ _ _ _ htr
        have h3' : ∀ j o, ops[j]? = some o → _ := fun j o hj => h3 j o (by rw [Array.getElem?_toList]; exact hj)
        have hplan := plan_of hp
        have hrun : TextRun P K ops σ.next (tAt tr T1) (sAt tr σ1) (vAt tr) := by
          refine ⟨fun k o ho => (h3' k o ho).1, fun k o ho hw => ?_, fun k o ho hw => (h3' k o ho).2.2 hw, by rw [h2]; exact Nat.le_refl _⟩
          have := (h3' k o ho).2.1 hw
          rwa [Nat.zero_add] at this
        have hst : Still P ops σ.next (tAt tr T1) (sAt tr σ1) := by
          intro i j oi oj b hi hj hW hne hu hw hb
          have hmem : (i, j) ∈ stillPairs P ops := by
            unfold stillPairs
            refine List.mem_flatMap.2 ⟨(oi, i), by rw [List.mem_zipIdx_iff_getElem?, Array.getElem?_toList]; exact hi, ?_⟩
            have hk : (okind P oi == .makes || (okind P oi == .silent && mayRead oi)) = true := by
              unfold blkOf at hb
              split at hb
              · rename_i e; rw [e]; rfl
              · rename_i e
                rw [e]
                cases hm : mayRead oi with
                | true => rfl
                | false => rw [readBlock_none hm] at hb; cases hb
              · cases hb
            simp only [hk, if_true]
            refine List.mem_map.2 ⟨(oj, j), List.mem_filter.2 ⟨by rw [List.mem_zipIdx_iff_getElem?, Array.getElem?_toList]; exact hj, ?_⟩, rfl⟩
            simp only [Bool.and_eq_true, bne_iff_ne, ne_eq, beq_iff_eq]
            exact ⟨⟨hne, hW.1⟩, Unord_of.2 hu⟩
          have := hck.1 (i, j) hmem
          unfold stillAt at this
          simp only [hi] at this
          exact this hw b hb
        have hcl : Clean P ops σ.next (sAt tr σ1) := by
          intro q oq hq hk i hiq
          have hqs : q < ops.size := (Array.getElem?_eq_some_iff.1 hq).1
          have hmem0 : (q, 0) ∈ cleanPts P ops := by
            unfold cleanPts
            refine List.mem_flatMap.2 ⟨(oq, q), by rw [List.mem_zipIdx_iff_getElem?, Array.getElem?_toList]; exact hq, ?_⟩
            simp only [hk, beq_self_eq_true, if_true]
            exact List.mem_cons_self
          induction i with
          | zero => exact hck.2 (q, 0) hmem0
          | succ i ih =>
            have hi : i < ops.size := by omega
            have hoi : ops[i]? = some ops[i] := by simp [hi]
            by_cases hW : IsW P ops (tAt tr T1) i ops[i]
            · refine hck.2 (q, i + 1) ?_
              unfold cleanPts
              refine List.mem_flatMap.2 ⟨(oq, q), by rw [List.mem_zipIdx_iff_getElem?, Array.getElem?_toList]; exact hq, ?_⟩
              simp only [hk, beq_self_eq_true, if_true]
              refine List.mem_cons_of_mem _ (List.mem_map.2 ⟨(ops[i], i), List.mem_filter.2 ⟨by rw [List.mem_zipIdx_iff_getElem?, Array.getElem?_toList]; exact hoi, ?_⟩, rfl⟩)
              simp only [Bool.and_eq_true, decide_eq_true_eq, beq_iff_eq]
              exact ⟨by omega, hW.1⟩
            · rw [(quietStep hrun hoi hW).1 _ (by omega)]
              exact ih (by omega)
        have e1 : tAt tr T1 ops.size = T1 := by unfold tAt; rw [List.getElem?_eq_none (by omega)]
        have e2 : sAt tr σ1 ops.size = σ1 := by unfold sAt; rw [List.getElem?_eq_none (by omega)]
        exact drawn_ok hK hrun hplan hst hcl hops hm h2 hR (by rw [h1]; exact hT) (fun a' w' ha => hQ a' w' (by rw [e1, e2] at ha; exact ha))
      · cases h
    · cases h
  · cases h
end Go.As
