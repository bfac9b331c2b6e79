/- A loop over a map: whatever the order in which its entries come. -/
import Derived.Test.YtfffmmgmjlfkoaaGreatA26
import Derived.Maps.RangeRun
namespace Go.As
set_option linter.unusedSimpArgs false
set_option linter.unusedVariables false
open Go.ChangeMaps (setBlock)

/-- An iterator over a map, both out of reach of what the state holds. -/
structure It (f : Inj) (σ : St) (w : World) (bi r cm since c0 : Nat) (seen : Array Nat) (es' : Array MapEntry) (clock : Nat) : Prop where
  fi : f bi = some (r, 0)
  off : ¬ ImgL f σ.get r
  it : w.heap[r]? = some (.mapIter (some cm) since seen c0)
  offm : ¬ ImgL f σ.get cm
  mp : w.heap[cm]? = some (.map es' clock)

theorem lt_of_some {w : World} {r : Nat} {o : Obj} (h : w.heap[r]? = some o) : r < w.heap.size := (Array.getElem?_eq_some_iff.1 h).1
theorem not_img {f : Inj} {g : Nat → Option AObj} {c : Nat} (h : ¬ ImgL f g c) : ¬ Img f g c := fun ⟨b, o, k, h1, _, h2⟩ => h ⟨b, o, k, h1, h2⟩

theorem It.keep {f f' : Inj} {σ σ' : St} {w w' : World} {bi r cm since c0 clock : Nat} {seen : Array Nat} {es' : Array MapEntry} (h : It f σ w bi r cm since c0 seen es' clock) (hx : Ext f σ w f' σ' w') : It f' σ' w' bi r cm since c0 seen es' clock :=
  ⟨hx.le _ _ h.fi, fun hi => h.off (hx.imgl r (lt_of_some h.it) hi), by rw [hx.keep r (lt_of_some h.it) (not_img h.off)]; exact h.it,
   fun hi => h.offm (hx.imgl cm (lt_of_some h.mp) hi), by rw [hx.keep cm (lt_of_some h.mp) (not_img h.offm)]; exact h.mp⟩

/-- A world that is another one only in a block out of reach. -/
structure Aside (w w' : World) (r : Nat) : Prop where
  heap : ∀ c, c ≠ r → w'.heap[c]? = w.heap[c]?
  size : w'.heap.size = w.heap.size
  os : w'.os = w.os
  tape : w'.tape = w.tape
  output : w'.output = w.output

theorem Aside.set {w w1 : World} (h : w1 = w ∨ w1 = w.drew) (r : Nat) (o : Obj) : Aside w (setBlock w1 r o) r := by
  have key : ∀ w2 : World, w2.heap = w.heap → w2.os = w.os → w2.tape = w.tape → w2.output = w.output → Aside w (setBlock w2 r o) r := by
    intro w2 h1 h2 h3 h4
    refine ⟨fun c hc => ?_, ?_, h2, h3, h4⟩
    · show (w2.heap.setIfInBounds r o)[c]? = _
      rw [Array.getElem?_setIfInBounds_ne (Ne.symm hc), h1]
    · show (w2.heap.setIfInBounds r o).size = _
      rw [Array.size_setIfInBounds, h1]
  rcases h with rfl | rfl
  · exact key _ rfl rfl rfl rfl
  · exact key _ rfl rfl rfl rfl

theorem Rel.aside {f : Inj} {σ : St} {w w' : World} {r : Nat} (h : Rel f σ w) (ha : Aside w w' r) (hr : ¬ ImgL f σ.get r) : Rel f σ w' := by
  refine ⟨fun b o c k hb hf => ?_, h.inj, h.dom, fun b c k hf => by rw [ha.size]; exact h.img b c k hf⟩
  obtain ⟨o', h1, h2⟩ := h.obj b o c k hb hf
  refine ⟨o', ?_, h2⟩
  rw [ha.heap c (fun e => hr (by subst e; exact ⟨b, o, k, hb, hf⟩))]
  exact h1

theorem Ext.aside {f f' : Inj} {σ σ' : St} {w w1 w2 : World} {r : Nat} (h : Ext f σ w f' σ' w1) (ha : Aside w1 w2 r) (hr : w.heap.size ≤ r) : Ext f σ w f' σ' w2 :=
  ⟨h.le, by rw [ha.os]; exact h.os, by rw [ha.tape]; exact h.tape, by rw [ha.output]; exact h.output, by rw [ha.size]; exact h.size,
   fun c hc hi => by rw [ha.heap c (by omega)]; exact h.keep c hc hi, h.img, h.imgl, h.new, h.next⟩

theorem next_op {P : Program} {a : Act} {it : Nat} {dst : Option Tmp} {ty : TypeId} {pos : String} {af : Array Edge} {w w' : World} {v : Value} (h : (Instr.next (a.eval (.tmp it)) false ty).run P w = .ok v w') :
    (execOp a.eval ⟨dst, .next (.tmp it) false, ty, pos, af, none⟩).run P w = .ok (.value v) w' := run_v h
theorem entry_op {P : Program} {a : Act} {it : Nat} {dst : Option Tmp} {ty : TypeId} {pos : String} {af : Array Edge} {w w' : World} {v : Value} (h : (Instr.entry (a.eval (.tmp it))).run P w = .ok v w') :
    (execOp a.eval ⟨dst, .entry (.tmp it), ty, pos, af, none⟩).run P w = .ok (.value v) w' := run_v h
theorem extract_op {P : Program} {a : Act} {x : Nat} {dst : Option Tmp} {ty : TypeId} {pos : String} {af : Array Edge} {w : World} {vs : Array Value} {v : Value} (h : a.eval (.tmp x) = .tuple vs) (hv : vs[0]? = some v) :
    (execOp a.eval ⟨dst, .extract (.tmp x) 0, ty, pos, af, none⟩).run P w = .ok (.value v) w := by
  refine run_v ?_
  simp [Instr.extract, h, hv]

/-- The shape of a loop over a map. -/
structure Shape where
  it : Nat
  d1 : Nat
  d2 : Nat
  d3 : Nat
  X : Nat
  Y : Nat
  i1 : Nat
  i2 : Nat
  ty1 : TypeId
  ty2 : TypeId
  ty3 : TypeId
  p1 : String
  p2 : String
  p3 : String
  af1 : Array Edge
  af2 : Array Edge
  af3 : Array Edge
  tail : List Oper
  rest : Code

def Shape.code (s : Shape) : Code :=
  .seq (.region s.i1 #[⟨some s.d1, .next (.tmp s.it) false, s.ty1, s.p1, s.af1, none⟩, ⟨some s.d2, .extract (.tmp s.d1) 0, s.ty2, s.p2, s.af2, none⟩] false)
    (.seq (.cond (.tmp s.d2) .skip (.exit s.X)) (.block s.Y (.seq (.region s.i2 (⟨some s.d3, .entry (.tmp s.it), s.ty3, s.p3, s.af3, none⟩ :: s.tail).toArray false) s.rest)))

theorem eval_of {f : Inj} {T : List Value} {a : Act} (hT : LRel f T a.tmps.toList) (x : Nat) : VRel f (T.getD x undef) (a.eval (.tmp x)) := evA_rel (x := .tmp x) hT rfl

theorem same_key : ∀ {l : List MapEntry}, l.Pairwise (fun x y => x.key ≠ y.key) → ∀ {x y : MapEntry}, x ∈ l → y ∈ l → x.key = y.key → x = y
  | [], _, _, _, hx, _, _ => by cases hx
  | z :: l, hp, x, y, hx, hy, he => by
    rw [List.pairwise_cons] at hp
    rcases List.mem_cons.1 hx with e1 | h1
    · rcases List.mem_cons.1 hy with e2 | h2
      · rw [e1, e2]
      · subst e1; exact absurd he (hp.1 y h2)
    · rcases List.mem_cons.1 hy with e2 | h2
      · subst e2; exact absurd he.symm (hp.1 x h1)
      · exact same_key hp.2 h1 h2 he

/-- The head of a round: either nothing is left, or some entry that is left comes. -/
theorem wp_head {P : Program} {s : Shape} {f : Inj} {σ : St} {w : World} {T : List Value} {a : Act} {bi r cm since c0 clock : Nat} {seen : Array Nat} {es' : Array MapEntry} {ik : IntKind} {es : List (Int × Value)} {Q : Exit → Act → World → Prop}
    (hT : LRel f T a.tmps.toList) (hi : It f σ w bi r cm since c0 seen es' clock) (hm : MapOk f ik es es'.toList since) (hsc : since ≤ c0) (hit : T.getD s.it undef = .pointer (some ⟨bi, 0, none⟩)) (h1 : s.d1 < T.length)
    (hend : (leftOf es' seen).size = 0 → ∀ a', a'.defers = a.defers → LRel f ((T.set s.d1 (.tuple #[.bool false])).set s.d2 (.bool false)) a'.tmps.toList → Q .normal a' w)
    (hmore : ∀ e n v, e ∈ (leftOf es' seen).toList → e.key = .int ik n → (n, v) ∈ es → ∀ w1, Aside w w1 r → w1.heap[r]? = some (.mapIter (some cm) since (seen.push e.born) clock) → ∀ a', a'.defers = a.defers →
      LRel f ((T.set s.d1 (.tuple #[.bool true, .int ik n, v])).set s.d2 (.bool true)) a'.tmps.toList → VRel f v e.val → Q .normal a' w1) :
    (Code.region s.i1 #[⟨some s.d1, .next (.tmp s.it) false, s.ty1, s.p1, s.af1, none⟩, ⟨some s.d2, .extract (.tmp s.d1) 0, s.ty2, s.p2, s.af2, none⟩] false).wp P Q a w := by
  refine wp_region ?_
  have ev1 : a.eval (.tmp s.it) = .pointer (some ⟨r, 0, none⟩) := by
    have := eval_of hT s.it
    rw [hit] at this
    obtain ⟨a', e, hp⟩ := this.ptr_of
    obtain ⟨q, hq⟩ := hp.blk
    rw [hi.fi] at hq
    cases hq
    rw [e, hp.eq.2]
  have step : ∀ (v' : Value) (v : Value) (b : Bool) (w1 : World) (vs : Array Value), v' = .tuple vs → vs[0]? = some (.bool b) → VRel f v v' → (Instr.next (a.eval (.tmp s.it)) false s.ty1).run P w = .ok v' w1 →
      (∀ a', a'.defers = a.defers → LRel f ((T.set s.d1 v).set s.d2 (.bool b)) a'.tmps.toList → Q .normal a' w1) →
      wpOps P #[⟨some s.d1, .next (.tmp s.it) false, s.ty1, s.p1, s.af1, none⟩, ⟨some s.d2, .extract (.tmp s.d1) 0, s.ty2, s.p2, s.af2, none⟩] Q (List.range 2) a w := by
    intro v' v b w1 vs hvs hv0 hvr hrun hq
    show wpOps P _ Q [0, 1] a w
    simp only [wpOps]
    refine .inl ?_
    refine OpTo.value (R := fun x w' => x = v' ∧ w' = w1) (next_op hrun) ⟨rfl, rfl⟩ _ _ ?_
    rintro x w' ⟨rfl, rfl⟩
    refine .inl ?_
    have hT1 : LRel f (T.set s.d1 v) (a.put (some s.d1) x).tmps.toList := putL_rel hT (some s.d1) hvr
    have ev2 : (a.put (some s.d1) x).eval (.tmp s.d1) = .tuple vs := by
      rw [← hvs]
      have hl : s.d1 < a.tmps.size := by have := hT.1; simp only [Array.length_toList] at this; omega
      simp [Act.put, Act.eval, hl]
    refine OpTo.value (R := fun x w2 => x = .bool b ∧ w2 = w') (extract_op ev2 hv0) ⟨rfl, rfl⟩ _ _ ?_
    rintro y w2 ⟨rfl, rfl⟩
    refine hq _ (by rw [put_defers, put_defers]) ?_
    exact putL_rel hT1 (some s.d2) (.bool b)
  rw [ev1] at step
  rcases run_next_at (P := P) w s.ty1 r cm since c0 seen es' clock hi.it hi.mp hm.lt hsc with ⟨h0, hrun⟩ | ⟨e, he, w1, hw1, hrun⟩
  · exact step (.tuple #[.bool false]) (.tuple #[.bool false]) false w _ rfl rfl (VRel.closed f rfl) hrun (fun a' hd ht => hend h0 a' hd ht)
  · have hees : e ∈ es'.toList := by
      unfold leftOf at he
      simp at he
      simpa using he.1
    obtain ⟨n, v, hkey, hmem⟩ := hm.of e hees
    obtain ⟨e2, h2, hkey2, hvv⟩ := hm.to n v hmem
    have hee : e2 = e := by
      exact same_key (List.pairwise_map.1 hm.keys) h2 hees (hkey2.trans hkey.symm)
    subst hee
    have hrel : VRel f (.tuple #[.bool true, .int ik n, v]) (.tuple #[.bool true, e2.key, e2.val]) := by
      rw [hkey]
      exact VRel.tuple_of (LRel.cons (.bool true) (LRel.cons (.int ik n) (LRel.cons hvv LRel.nil)))
    refine step _ _ true _ _ rfl rfl hrel hrun (fun a' hd ht => hmore e2 n v he hkey hmem _ (Aside.set hw1 r _) ?_ a' hd ht hvv)
    have hr : r < w1.heap.size := by
      have := lt_of_some hi.it
      rcases hw1 with rfl | rfl
      · exact this
      · exact this
    show (w1.heap.setIfInBounds r _)[r]? = _
    rw [Array.getElem?_setIfInBounds_self_of_lt hr]

theorem MapOk.mono {f g : Inj} (h : Inj.le f g) {ik : IntKind} {es : List (Int × Value)} {es' : List MapEntry} {clock : Nat} (m : MapOk f ik es es' clock) : MapOk g ik es es' clock :=
  ⟨m.nodup, fun n v hn => let ⟨e, a, b, c⟩ := m.to n v hn; ⟨e, a, b, c.mono h⟩, m.of, m.keys, m.born, m.lt⟩

/-- What has been handed out so far. -/
structure Done (ik : IntKind) (es : List (Int × Value)) (es' : List MapEntry) (done : List (Int × Value)) (seen : Array Nat) : Prop where
  ex : ∃ l : List MapEntry, seen = (l.map (·.born)).toArray ∧ (∀ e ∈ l, e ∈ es') ∧ l.map (·.key) = done.map fun p => .int ik p.1
  sub : ∀ p ∈ done, p ∈ es
  nodup : (done.map (·.1)).Nodup

theorem size_left {es' : Array MapEntry} {seen : Array Nat} {e : MapEntry} (he : e ∈ (leftOf es' seen).toList) : (leftOf es' (seen.push e.born)).size < (leftOf es' seen).size := by
  have h1 : leftOf es' (seen.push e.born) = (leftOf es' seen).filter fun x => !(x.born == e.born) := by
    unfold leftOf
    rw [Array.filter_filter]
    congr 1
    funext x
    simp only [Array.contains_push]
    cases seen.contains x.born <;> cases hb : (x.born == e.born) <;> simp_all
  rw [h1]
  have h2 : ((leftOf es' seen).filter fun x => !(x.born == e.born)).toList = (leftOf es' seen).toList.filter fun x => !(x.born == e.born) := by simp
  have h3 : ∀ l : List MapEntry, e ∈ l → (l.filter fun x => !(x.born == e.born)).length < l.length := by
    intro l
    induction l with
    | nil => intro h; cases h
    | cons x l ih =>
      intro h
      by_cases hx : x.born = e.born
      · rw [List.filter_cons_of_neg (by simp [hx])]
        exact Nat.lt_succ_of_le (List.length_filter_le _ _)
      · rw [List.filter_cons_of_pos (by simpa using hx)]
        rcases List.mem_cons.1 h with rfl | h
        · exact absurd rfl hx
        · simpa using ih h
  rw [← Array.length_toList, h2, ← Array.length_toList]
  exact h3 _ he

theorem Done.push {f : Inj} {ik : IntKind} {es : List (Int × Value)} {es' : Array MapEntry} {ck : Nat} {done : List (Int × Value)} {seen : Array Nat} (h : Done ik es es'.toList done seen) (hm : MapOk f ik es es'.toList ck) {e : MapEntry} {n : Int} {v : Value}
    (he : e ∈ (leftOf es' seen).toList) (hk : e.key = .int ik n) (hv : (n, v) ∈ es) : n ∉ done.map (·.1) ∧ Done ik es es'.toList (done ++ [(n, v)]) (seen.push e.born) := by
  obtain ⟨l, h1, h2, h3⟩ := h.ex
  have hl : e ∈ es'.toList ∧ e.born ∉ seen.toList := by
    unfold leftOf at he
    simp at he
    exact ⟨by simpa using he.1, by simpa using he.2⟩
  have hn : n ∉ done.map (·.1) := by
    intro hn
    obtain ⟨p, hp, hpn⟩ := List.mem_map.1 hn
    have : Value.int ik p.1 ∈ l.map (·.key) := by rw [h3]; exact List.mem_map.2 ⟨p, hp, rfl⟩
    obtain ⟨e2, he2, hk2⟩ := List.mem_map.1 this
    have hee : e2 = e := same_key (List.pairwise_map.1 hm.keys) (h2 e2 he2) hl.1 (by rw [hk2, hk, hpn])
    subst hee
    apply hl.2
    rw [h1]
    simp only []
    exact List.mem_map.2 ⟨e2, he2, rfl⟩
  refine ⟨hn, ⟨l ++ [e], by simp [h1], ?_, by simp [h3, hk]⟩, ?_, ?_⟩
  · intro x hx
    rcases List.mem_append.1 hx with hx | hx
    · exact h2 x hx
    · rw [List.mem_singleton.1 hx]; exact hl.1
  · intro p hp
    rcases List.mem_append.1 hp with hp | hp
    · exact h.sub p hp
    · rw [List.mem_singleton.1 hp]; exact hv
  · rw [List.map_append, List.nodup_append]
    refine ⟨h.nodup, by simp, ?_⟩
    intro x hx y hy
    simp at hy
    subst hy
    intro hxy
    subst hxy
    exact hn hx

theorem Done.full {f : Inj} {ik : IntKind} {es : List (Int × Value)} {es' : Array MapEntry} {ck : Nat} {done : List (Int × Value)} {seen : Array Nat} (h : Done ik es es'.toList done seen) (hm : MapOk f ik es es'.toList ck) (h0 : (leftOf es' seen).size = 0) : ∀ p ∈ es, p.1 ∈ done.map (·.1) := by
  intro p hp
  obtain ⟨l, h1, h2, h3⟩ := h.ex
  obtain ⟨e, he, hk, _⟩ := hm.to p.1 p.2 hp
  have hb : e.born ∈ seen.toList := by
    apply Classical.byContradiction
    intro hn
    have : e ∈ (leftOf es' seen).toList := by
      unfold leftOf
      simp only [Array.toList_filter, List.mem_filter]
      refine ⟨he, by simpa using hn⟩
    have h5 := List.length_pos_of_mem this
    simp only [Array.length_toList] at h5
    omega
  rw [h1] at hb
  obtain ⟨e2, he2, hbb⟩ := List.mem_map.1 (by simpa using hb : e.born ∈ l.map (·.born))
  have hee : e2 = e := by
    have hp := List.pairwise_map.1 hm.born
    have key : ∀ {l : List MapEntry}, l.Pairwise (fun x y => x.born ≠ y.born) → ∀ {x y : MapEntry}, x ∈ l → y ∈ l → x.born = y.born → x = y := by
      intro l
      induction l with
      | nil => intro _ x y hx; cases hx
      | cons z l ih =>
        intro hp x y hx hy hxy
        rw [List.pairwise_cons] at hp
        rcases List.mem_cons.1 hx with e1 | g1
        · rcases List.mem_cons.1 hy with e2 | g2
          · rw [e1, e2]
          · subst e1; exact absurd hxy (hp.1 y g2)
        · rcases List.mem_cons.1 hy with e2 | g2
          · subst e2; exact absurd hxy.symm (hp.1 x g1)
          · exact ih hp.2 g1 g2 hxy
    exact key hp (h2 e2 he2) he hbb
  subst hee
  have : e2.key ∈ done.map fun p => Value.int ik p.1 := by rw [← h3]; exact List.mem_map.2 ⟨e2, he2, rfl⟩
  obtain ⟨q, hq, hqk⟩ := List.mem_map.1 this
  rw [hk] at hqk
  exact List.mem_map.2 ⟨q, hq, (Value.int.inj hqk).2⟩

/-- The loop. 'Inv done T σ' holds ahead of each round, 'done' the entries that came. -/
theorem range_rounds {P : Program} {K : Kn} (hK : K.ok P) (hmix : P.follows .mixedOrders = true) {N : Nat} {s : Shape} {ik : IntKind} {es : List (Int × Value)} {bi : Nat} (Inv : List (Int × Value) → List Value → St → Prop)
    (hinv : ∀ done T σ, Inv done T σ → T.getD s.it undef = .pointer (some ⟨bi, 0, none⟩) ∧ s.d1 < T.length ∧ s.d2 < T.length)
    (hne : s.d2 ≠ s.d1 ∧ s.it ≠ s.d1 ∧ s.it ≠ s.d2) (htail : ∀ o, o ∈ s.tail → operOk o = true) (hrest : codeOk s.rest = true)
    (hbody : ∀ done T σ n v, Inv done T σ → (n, v) ∈ es → n ∉ done.map (·.1) → ∃ T1 σ1 T2 σ2, evOps P K (⟨some s.d3, .entry (.tmp s.it), s.ty3, s.p3, s.af3, none⟩ :: s.tail).toArray s.tail (((T.set s.d1 (.tuple #[.bool true, .int ik n, v])).set s.d2 (.bool true)).set s.d3 (.tuple #[.int ik n, v])) σ = some (T1, σ1) ∧
      (ev P (evRegB P) K N s.rest).1 T1 σ1 = some (.normal, T2, σ2) ∧ Inv (done ++ [(n, v)]) T2 σ2)
    {f0 : Inj} {σ0 : St} {w0 : World} {ds : List Deferred} {r cm ck : Nat} {es' : Array MapEntry} {Q : Exit → Act → World → Prop} (hr0 : w0.heap.size ≤ r)
    (hQ : ∀ done seen T σ f w a, Ext f0 σ0 w0 f σ w → Rel f σ w → LRel f ((T.set s.d1 (.tuple #[.bool false])).set s.d2 (.bool false)) a.tmps.toList → a.defers = ds → It f σ w bi r cm ck ck seen es' ck → Inv done T σ → MapOk f ik es es'.toList ck → Done ik es es'.toList done seen → (∀ p ∈ es, p.1 ∈ done.map (·.1)) → Q (.exit s.X) a w) :
    ∀ (m : Nat) (done : List (Int × Value)) (seen : Array Nat) (T : List Value) (σ : St) (f : Inj) (w : World) (a : Act), (leftOf es' seen).size < m → Ext f0 σ0 w0 f σ w → Rel f σ w → LRel f T a.tmps.toList → a.defers = ds → It f σ w bi r cm ck ck seen es' ck → Inv done T σ → MapOk f ik es es'.toList ck →
      Done ik es es'.toList done seen → Code.rounds P s.code Q m a w := by
  intro m
  induction m with
  | zero => intro done seen T σ f w a h; omega
  | succ m ih =>
    intro done seen T σ f w a hsz hx hR hT hd hi hI hm hD
    obtain ⟨g1, g2, g3⟩ := hinv done T σ hI
    rw [rounds_succ]
    unfold Shape.code
    refine wp_seq ?_
    refine wp_head hT hi hm (Nat.le_refl _) g1 g2 ?_ ?_
    · intro h0 a' hd' hT'
      refine wp_seq ?_
      refine wp_cond_false ?_ ?_
      · have := eval_of hT' s.d2
        rw [List.getD_eq_getElem?_getD, List.getElem?_set_self (by simpa using g3)] at this
        exact this.bool_of
      · refine wp_exit ?_
        exact hQ done seen T σ f w a' hx hR hT' (hd'.trans hd) hi hI hm hD (hD.full hm h0)
    · intro e n v he hkey hmem w1 ha hit1 a' hd' hT' hvv
      obtain ⟨hn, hD'⟩ := hD.push hm he hkey hmem
      have hR1 : Rel f σ w1 := hR.aside ha hi.off
      have hx1 : Ext f0 σ0 w0 f σ w1 := hx.aside ha hr0
      have hcm : cm ≠ r := fun e => by
        have h1 := hi.mp
        rw [e, hi.it] at h1
        cases h1
      have hi1 : It f σ w1 bi r cm ck ck (seen.push e.born) es' ck := ⟨hi.fi, hi.off, hit1, hi.offm, by rw [ha.heap cm hcm]; exact hi.mp⟩
      obtain ⟨T1, σ1, T2, σ2, hb1, hb2, hb3⟩ := hbody done T σ n v hI hmem hn
      refine wp_seq ?_
      refine wp_cond_true ?_ ?_
      · have := eval_of hT' s.d2
        rw [List.getD_eq_getElem?_getD, List.getElem?_set_self (by simpa using g3)] at this
        exact this.bool_of
      refine wp_skip ?_
      refine wp_block ?_
      refine wp_seq ?_
      refine wp_region ?_
      have hees : e ∈ es'.toList := by
        unfold leftOf at he
        simp at he
        simpa using he.1
      have hev : a'.eval (.tmp s.it) = .pointer (some ⟨r, 0, none⟩) := by
        have := eval_of hT' s.it
        rw [List.getD_eq_getElem?_getD, List.getElem?_set_ne (Ne.symm hne.2.2), List.getElem?_set_ne (Ne.symm hne.2.1), ← List.getD_eq_getElem?_getD, g1] at this
        obtain ⟨a2, e2, hp⟩ := this.ptr_of
        obtain ⟨q, hq⟩ := hp.blk
        rw [hi.fi] at hq
        cases hq
        rw [e2, hp.eq.2]
      have hent := run_entry_at (P := P) w1 r cm ck seen es' ck e hit1 hi1.mp hees hm.born
      have hrange : List.range (⟨some s.d3, .entry (.tmp s.it), s.ty3, s.p3, s.af3, none⟩ :: s.tail : List Oper).toArray.size = 0 :: List.range' 1 s.tail.length := by
        rw [List.size_toArray, List.length_cons, List.range_eq_range', List.range'_succ]
      rw [hrange]
      have h0 : (⟨some s.d3, .entry (.tmp s.it), s.ty3, s.p3, s.af3, none⟩ :: s.tail : List Oper).toArray[0]? = some ⟨some s.d3, .entry (.tmp s.it), s.ty3, s.p3, s.af3, none⟩ := by simp
      simp only [wpOps, h0]
      refine .inl ?_
      refine OpTo.value (R := fun x w' => x = .tuple #[e.key, e.val] ∧ w' = w1) (entry_op (by rw [hev]; exact hent)) ⟨rfl, rfl⟩ _ _ ?_
      rintro x w' ⟨rfl, rfl⟩
      have hrel : VRel f (.tuple #[.int ik n, v]) (.tuple #[e.key, e.val]) := by
        rw [hkey]
        exact VRel.tuple_of (LRel.cons (.int ik n) (LRel.cons hvv LRel.nil))
      have hT3 := putL_rel hT' (some s.d3) hrel
      refine evOps_ok hK s.tail 1 _ σ T1 σ1 f w' _ (fun j => by simp [Nat.add_comm 1 j]) htail hb1 hR1 hT3 ?_
      rintro a1 w2 ⟨f1, hx2, hR2, hT2, hd2⟩
      refine (ev_sound (evRegB_ok P) hK hmix N s.rest hrest).1 T1 σ1 .normal T2 σ2 hb2 f1 w2 a1 _ hR2 hT2 ?_
      rintro a2 w3 ⟨f2, hx3, hR3, hT3', hd3⟩
      refine ih (done ++ [(n, v)]) (seen.push e.born) T2 σ2 f2 w3 a2 ?_ (hx1.trans (hx2.trans hx3)) hR3 hT3' ?_ ((hi1.keep hx2).keep hx3) hb3 ((hm.mono hx2.le).mono hx3.le) hD'
      · have := size_left he; omega
      · rw [hd3, hd2, put_defers, hd', hd]
end Go.As
