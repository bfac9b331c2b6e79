/- Rows one behind the other; strings of bytes. -/
import Derived.Test.YtfffmmgmjlfkoaaGreatD14
import Derived.Test.YtfffmmgmjlfkoaaGreatA37
namespace Go.Proofs.YtfffmmgmjlfkoaaGreat
set_option linter.unusedSimpArgs false
set_option linter.unusedVariables false
open Go.As
theorem binA_str {op : BinOp} {t : TypeId} {xo yo : Operand} {a b : ByteArray} {v : Value} (h : (binOp op t (.string a) (.string b)).run Tryz.prog default = .ok v default) (hv : closedV v = true) : binA Tryz.prog op t xo yo (.string a) (.string b) = some v := by
  have hg : (eqGuard op t xo yo (.string a) (.string b)).run Tryz.prog default = .ok () default := by cases op <;> rfl
  have key : (if discV (.string a) && discV (.string b) then
      match pureRun Tryz.prog (do eqGuard op t xo yo (.string a) (.string b); binOp op t (.string a) (.string b)) with
      | some v => if closedV v then some v else none
      | none => none
    else none) = some v := by
    have e : (discV (.string a) && discV (.string b)) = true := rfl
    rw [if_pos e]
    have : pureRun Tryz.prog (do eqGuard op t xo yo (.string a) (.string b); binOp op t (.string a) (.string b)) = some v := by
      unfold pureRun
      rw [Sem.run_bind, hg, Result.andThen_ok, h]
    rw [this]
    exact if_pos hv
  unfold binA
  split
  · rename_i h1 h2 h3; cases h2
  · rename_i h1 h2 h3; cases h2
  · rename_i h1 h2 h3; cases h2
  · exact key
theorem sadd {xo yo : Operand} {a b : ByteArray} {t : TypeId} (h : a.size + b.size ≤ 1000000) : binA Tryz.prog .add t xo yo (.string a) (.string b) = some (.string (a ++ b)) := by
  refine binA_str ?_ rfl
  show (Op.stringOp .add a b).run Tryz.prog default = _
  simp only [Op.stringOp]
  rw [if_neg (by have : IntKind.i64.max = 9223372036854775807 := rfl; omega)]
  rfl
theorem seql {xo yo : Operand} {a : ByteArray} {t : TypeId} : binA Tryz.prog .eql t xo yo (.string a) (.string a) = some (.bool true) := by
  refine binA_str ?_ rfl
  show (Op.stringOp .eql a a).run Tryz.prog default = _
  simp only [Op.stringOp, beq_self_eq_true]
  rfl
theorem strOf_aux : ∀ (ns : List Int) (r : ByteArray), ns.foldl (fun r n => r.push (UInt8.ofNat n.toNat)) r = r ++ strOf ns ∧ (ns.foldl (fun r n => r.push (UInt8.ofNat n.toNat)) r).size = r.size + ns.length
  | [], r => by refine ⟨?_, rfl⟩; simp [strOf]
  | n :: ns, r => by
    have e : ∀ (q : ByteArray) (x : UInt8), q.push x = q ++ ByteArray.empty.push x := by
      intro q x
      apply ByteArray.ext
      simp
    obtain ⟨h1, h2⟩ := strOf_aux ns (r.push (UInt8.ofNat n.toNat))
    obtain ⟨h3, -⟩ := strOf_aux ns (ByteArray.empty.push (UInt8.ofNat n.toNat))
    refine ⟨?_, ?_⟩
    · simp only [List.foldl_cons, strOf] at h1 h3 ⊢
      rw [h1, h3, e r, ByteArray.append_assoc]
    · simp only [List.foldl_cons] at h2 ⊢
      rw [h2, ByteArray.size_push, List.length_cons]
      omega
theorem strOf_size (ns : List Int) : (strOf ns).size = ns.length := by
  have := (strOf_aux ns ByteArray.empty).2
  simpa [strOf] using this
theorem strOf_append (a b : List Int) : strOf (a ++ b) = strOf a ++ strOf b := by
  show (a ++ b).foldl _ _ = _
  rw [List.foldl_append]
  exact (strOf_aux b _).1
theorem u8s_map : ∀ l : List Int, u8s (l.map (Value.int .u8)) = some l
  | [] => rfl
  | n :: l => by simp only [List.map_cons, u8s, u8s_map l, Option.map_some]
theorem u8_5 : isU8 Tryz.prog 5 = true := by kernel_rfl
theorem bs23_0 (ρ : Operand → Value) (dst : Option Tmp) (ty : TypeId) (pos : String) (af : Array Edge) : allocA Tryz.prog ρ ⟨dst, .buildSlice 23 0 #[], ty, pos, af, none⟩ = some (.cells [] 30 .ex, fun b => .slice (some ⟨b, 0, none⟩) 0 0) := by kernel_rfl
theorem bs25_0 (ρ : Operand → Value) (dst : Option Tmp) (ty : TypeId) (pos : String) (af : Array Edge) : allocA Tryz.prog ρ ⟨dst, .buildSlice 25 0 #[], ty, pos, af, none⟩ = some (.cells [] 5 .ex, fun b => .slice (some ⟨b, 0, none⟩) 0 0) := by kernel_rfl

/-- What append makes of an empty row. -/
def JR (σ : St) (et : TypeId) (sz : Nat) (v : Value) (m : Nat) (l : List Value) (b : Nat) : Prop :=
  (m = 0 ∧ l = [] ∧ v = .slice (some ⟨b, 0, none⟩) 0 0 ∧ σ.get b = some (.cells [] et .ex)) ∨
  (m ≠ 0 ∧ l.length = m * sz ∧ v = .slice (some ⟨b, 0, none⟩) m unk ∧ σ.get b = some (.cells l et (.vec sz)))

theorem JR.keep {σ σ' : St} {et : TypeId} {sz : Nat} {v : Value} {m : Nat} {l : List Value} {b : Nat} (h : JR σ et sz v m l b) (hk : σ'.get b = σ.get b) : JR σ' et sz v m l b := by
  rcases h with ⟨h1, h2, h3, h4⟩ | ⟨h1, h2, h3, h4⟩
  · exact .inl ⟨h1, h2, h3, hk.trans h4⟩
  · exact .inr ⟨h1, h2, h3, hk.trans h4⟩

theorem JR.append {σ : St} {t et : TypeId} {sz : Nat} {v x : Value} {m k : Nat} {l news : List Value} {b : Nat} (h : JR σ et sz v m l b) (hbn : b < σ.next) (ht : Tryz.prog.underlying t = some (.slice et)) {it : TypeInfo} {z : Value} (hi : Tryz.prog.info? et = some it) (hz : zeroV Tryz.prog et = some z) (h1 : it.size = sz) (h0 : sz ≠ 0) (hz1 : z.cells.size = sz) (hby : it.bytes ≤ 1000)
    (hn : newsA σ sz x = some (k, news)) (hl : news.length = k * sz) (h1x : news.all Value.oneCell' = true) (hlen : m + k < 1000000) :
    ∃ v' σ' b', appendA Tryz.prog #[t, t] [v, x] σ = some (v', σ') ∧ JR σ' et sz v' (m + k) (l ++ news) b' ∧ σ.next ≤ σ'.next ∧ b' < σ'.next ∧ (b' = b ∨ σ.next ≤ b') ∧ ∀ c, c < σ.next → c ≠ b → σ'.get c = σ.get c := by
  subst h1
  have hm : ∀ m : Nat, m < 1000000 → m * it.bytes ≤ 2 ^ 40 ∧ m ≤ 2 ^ 40 := fun m hm => ⟨Nat.le_trans (Nat.mul_le_mul (Nat.le_of_lt hm) hby) (by decide), Nat.le_trans (Nat.le_of_lt hm) (by decide)⟩
  have hsz : ¬ (it.size = 0 ∨ z.cells.size ≠ it.size) := by omega
  have hone : ¬ ¬ (news.all Value.oneCell' = true) := fun hn => hn h1x
  by_cases hk : k = 0
  · subst hk
    have hne : news = [] := List.eq_nil_of_length_eq_zero (by omega)
    subst hne
    refine ⟨v, σ, b, ?_, by simpa using h, Nat.le_refl _, hbn, .inl rfl, fun _ _ _ => rfl⟩
    rcases h with ⟨-, -, rfl, -⟩ | ⟨-, -, rfl, -⟩ <;> simp only [appendA, ht, hi, hz, if_true, if_neg hsz, hn]
  · rcases h with ⟨rfl, rfl, rfl, hb⟩ | ⟨hm0, hll, rfl, hb⟩
    · refine ⟨.slice (some ⟨σ.next, 0, none⟩) k unk, σ.add (.cells news et (.vec it.size)), σ.next, ?_, ?_, by simp, by simp, .inr (Nat.le_refl _), fun c hc _ => by rw [St.get_add_ne (by omega)]⟩
      · simp only [appendA, ht, hi, hz, if_true, if_neg hsz, hn, if_neg hone, hb]
        rw [if_neg hk, if_neg (fun hn => hn (hm (0 + k) (by omega))), if_neg (by decide), if_neg (by omega), if_pos (by simp)]
        simp
      · exact .inr ⟨by omega, by simpa using hl, by simp, St.get_add_eq rfl⟩
    · refine ⟨.slice (some ⟨σ.next, 0, none⟩) (m + k) unk, (σ.del b).add (.cells (l ++ news) et (.vec it.size)), σ.next, ?_, ?_, by simp, by simp, .inr (Nat.le_refl _), fun c hc hcb => by rw [St.get_add_ne (by rw [St.next_del']; omega), St.get_del_ne hcb]⟩
      · simp only [appendA, ht, hi, hz, if_true, if_neg hsz, hn, if_neg hone, hb]
        rw [if_neg hk, if_neg (fun hn => hn (hm (m + k) hlen))]
        have hc : m ≠ 0 ∧ True ∧ True ∧ l.length = m * it.size ∧ Kd.vec it.size = .vec it.size := ⟨hm0, trivial, trivial, hll, rfl⟩
        rw [if_pos (by simpa using hc)]
      · exact .inr ⟨by omega, by rw [List.length_append, hll, hl, Nat.add_mul], rfl, St.get_add_eq (by rw [St.next_del'])⟩

theorem rowN_news {σ : St} {sz : Nat} {v : Value} {t : TypeId} {l : List (List Value)} {b : Nat} (h : RowN σ t sz v l b) : newsA σ sz v = some (l.length, l.flatten) := by
  obtain ⟨hall, h⟩ := h
  rcases h with ⟨rfl, rfl⟩ | ⟨hne, rfl, hb⟩
  · rfl
  · have hl0 : l.length ≠ 0 := fun e => hne (List.eq_nil_of_length_eq_zero e)
    have hf := flatten_length hall
    simp only [newsA, if_neg hl0, hb]
    rw [if_pos (by omega), List.drop_zero, ← hf, List.take_length]
theorem BX.news2 {σ : St} {sv : Value} {bs : List Int} {b : Nat} (h : BX σ sv bs b) : newsA σ 1 sv = some (bs.length, bv bs) := by
  by_cases hne : bs = []
  · subst hne
    rcases h with ⟨_, rfl⟩ | ⟨h, _⟩
    · rfl
    · exact absurd rfl h
  · exact h.news hne
theorem JR.bts {S : Nat → Prop} {σ : St} {v : Value} {bs : List Int} {b : Nat} (h : JR σ 5 1 v bs.length (bv bs) b) (hS : S b) : Bts S σ v bs := by
  rcases h with ⟨h1, h2, rfl, h4⟩ | ⟨h1, h2, rfl, h4⟩
  · obtain rfl := List.eq_nil_of_length_eq_zero h1
    exact ⟨some ⟨b, 0, none⟩, 0, rfl, (fun _ h => by cases h), fun h => absurd rfl h⟩
  · refine ⟨some ⟨b, 0, none⟩, unk, rfl, (fun _ h => by cases h), fun _ => ⟨b, 0, _, _, _, rfl, hS, h4, ?_, .inl rfl⟩⟩
    rw [List.drop_zero, List.take_of_length_le (by simp)]
theorem JR.sta {S : Nat → Prop} {σ : St} {v : Value} {ls : List Stp} {b : Nat} (h : JR σ 30 14 v ls.length (ls.map Stp.cells).flatten b) (hS : S b) (hok : ∀ s ∈ ls, s.ok) : StA S σ v ls := by
  rcases h with ⟨h1, h2, rfl, h4⟩ | ⟨h1, h2, rfl, h4⟩
  · obtain rfl := List.eq_nil_of_length_eq_zero h1
    exact ⟨some ⟨b, 0, none⟩, 0, rfl, fun h => absurd rfl h⟩
  · refine ⟨some ⟨b, 0, none⟩, unk, rfl, fun _ => ⟨b, 0, _, _, _, rfl, hS, h4, fun i hi => ?_⟩⟩
    have := flatten_at (l := ls.map Stp.cells) (sz := 14) (fun x hx => by obtain ⟨s, hs, rfl⟩ := List.mem_map.1 hx; exact cells_length (hok s hs)) (i := i) (by simpa using hi)
    rw [Nat.zero_add, this]
    simp
theorem BX.str {σ : St} {sv : Value} {bs : List Int} {b : Nat} (h : BX σ sv bs b) : convA Tryz.prog σ.get 25 9 sv = some (.string (strOf bs)) := by
  rcases h with ⟨rfl, rfl⟩ | ⟨hne, c, kd, rfl, hb, _⟩
  · simp only [convA, Tryz.underlying25, Tryz.underlying9, u8_5, if_true]
  · have hl0 : bs.length ≠ 0 := fun e => hne (List.eq_nil_of_length_eq_zero e)
    simp only [convA, Tryz.underlying25, Tryz.underlying9, u8_5, if_true, if_neg hl0, hb]
    rw [if_pos (by simp), List.drop_zero, List.take_of_length_le (by simp), u8s_map]
    rfl
theorem flat_one {ls : List Stp} (hok : ∀ s ∈ ls, s.ok) : (ls.map Stp.cells).flatten.all Value.oneCell' = true := by
  rw [List.all_eq_true]
  intro x hx
  obtain ⟨l, hl, hxl⟩ := List.mem_flatten.1 hx
  obtain ⟨s, hs, rfl⟩ := List.mem_map.1 hl
  exact List.all_eq_true.1 (cells_one (hok s hs)) x hxl
theorem flat_len {ls : List Stp} (hok : ∀ s ∈ ls, s.ok) : (ls.map Stp.cells).flatten.length = ls.length * 14 := by
  rw [flatten_length (sz := 14) (fun x hx => by obtain ⟨s, hs, rfl⟩ := List.mem_map.1 hx; exact cells_length (hok s hs)), List.length_map]
theorem JR.start {σ : St} {et : TypeId} {sz b : Nat} (h : σ.get b = some (.cells [] et .ex)) : JR σ et sz (.slice (some ⟨b, 0, none⟩) 0 0) 0 [] b := .inl ⟨rfl, rfl, rfl, h⟩
/-- Two rows of steps, one behind the other. -/
theorem join_steps {σ : St} {x y : Value} {L M : List Stp} {b bl bm : Nat} (hb : σ.get b = some (.cells [] 30 .ex)) (hbn : b < σ.next) (hx : RowN σ 30 14 x (L.map Stp.cells) bl) (hy : RowN σ 30 14 y (M.map Stp.cells) bm) (hxb : L ≠ [] → bl < b) (hyb : M ≠ [] → bm < b)
    (hL : ∀ s ∈ L, s.ok) (hM : ∀ s ∈ M, s.ok) (hlen : L.length + M.length < 1000000) :
    ∃ v1 σ1 v2 σ2 b2, appendA Tryz.prog #[23, 23] [.slice (some ⟨b, 0, none⟩) 0 0, x] σ = some (v1, σ1) ∧ appendA Tryz.prog #[23, 23] [v1, y] σ1 = some (v2, σ2) ∧ JR σ2 30 14 v2 (L ++ M).length ((L ++ M).map Stp.cells).flatten b2 ∧ σ.next ≤ σ2.next ∧ b2 < σ2.next ∧ b ≤ b2 ∧ ∀ c, c < b → σ2.get c = σ.get c := by
  obtain ⟨it, z, h1, h2, h3, h4, h5⟩ := i30
  obtain ⟨v1, σ1, b1, e1, j1, n1, l1, o1, k1⟩ := (JR.start (sz := 14) hb).append hbn Tryz.underlying23 h1 h4 h2 (by decide) h5 (by omega) (rowN_news hx) (by rw [List.length_map]; exact flat_len hL) (flat_one hL) (by rw [List.length_map]; omega)
  have hy1 : RowN σ1 30 14 y (M.map Stp.cells) bm := hy.keep (fun hne => k1 bm (by have := hyb (by simpa using hne); omega) (by have := hyb (by simpa using hne); omega))
  obtain ⟨v2, σ2, b2, e2, j2, n2, l2, o2, k2⟩ := j1.append l1 Tryz.underlying23 h1 h4 h2 (by decide) h5 (by omega) (rowN_news hy1) (by rw [List.length_map]; exact flat_len hM) (flat_one hM) (by rw [List.length_map, List.length_map]; omega)
  refine ⟨v1, σ1, v2, σ2, b2, e1, e2, ?_, by omega, l2, by omega, fun c hc => by rw [k2 c (by omega) (by omega), k1 c (by omega) (by omega)]⟩
  rw [List.map_append, List.flatten_append, List.length_append]
  simpa using j2
theorem join_bytes {σ : St} {x y : Value} {L M : List Int} {b bl bm : Nat} (hb : σ.get b = some (.cells [] 5 .ex)) (hbn : b < σ.next) (hx : BX σ x L bl) (hy : BX σ y M bm) (hyb : M ≠ [] → bm < b) (hlen : L.length + M.length < 1000000) :
    ∃ v1 σ1 v2 σ2 b2, appendA Tryz.prog #[25, 25] [.slice (some ⟨b, 0, none⟩) 0 0, x] σ = some (v1, σ1) ∧ appendA Tryz.prog #[25, 25] [v1, y] σ1 = some (v2, σ2) ∧ JR σ2 5 1 v2 (L ++ M).length (bv (L ++ M)) b2 ∧ σ.next ≤ σ2.next ∧ b2 < σ2.next ∧ b ≤ b2 ∧ ∀ c, c < b → σ2.get c = σ.get c := by
  obtain ⟨it, z, h1, h2, h3, h4, h5⟩ := i5b
  obtain ⟨v1, σ1, b1, e1, j1, n1, l1, o1, k1⟩ := (JR.start (sz := 1) hb).append hbn Tryz.underlying25 h1 h4 h2 (by decide) h5 (by omega) hx.news2 (by simp) (bv_one _) (by omega)
  have hy1 : BX σ1 y M bm := hy.keep (fun hne => k1 bm (by have := hyb hne; omega) (by have := hyb hne; omega))
  obtain ⟨v2, σ2, b2, e2, j2, n2, l2, o2, k2⟩ := j1.append l1 Tryz.underlying25 h1 h4 h2 (by decide) h5 (by omega) hy1.news2 (by simp) (bv_one _) (by omega)
  refine ⟨v1, σ1, v2, σ2, b2, e1, e2, ?_, by omega, l2, by omega, fun c hc => by rw [k2 c (by omega) (by omega), k1 c (by omega) (by omega)]⟩
  rw [bv, List.map_append, List.length_append]
  simpa using j2
end Go.Proofs.YtfffmmgmjlfkoaaGreat
