/- play: numbers out of bytes -/
import Derived.Test.YtfffmmgmjlfkoaaGreatD5
import Derived.Test.YtfffmmgmjlfkoaaGreatA36
namespace Go.Proofs.YtfffmmgmjlfkoaaGreat
set_option linter.unusedSimpArgs false
set_option linter.unusedVariables false
open Go.As

/-- Bytes, the lowest first, as a number. -/
def le : List Int → Int
  | [] => 0
  | b :: l => b + 256 * le l
def Byt (l : List Int) : Prop := ∀ b ∈ l, 0 ≤ b ∧ b < 256
theorem le_bound : ∀ (l : List Int), Byt l → 0 ≤ le l ∧ le l < 256 ^ l.length
  | [], _ => by simp [le]
  | b :: l, h => by
    have h1 := h b List.mem_cons_self
    have h2 := le_bound l (fun x hx => h x (List.mem_cons_of_mem _ hx))
    simp only [le, List.length_cons, Int.pow_succ]
    omega
theorem wrapu64b {a : Int} (h0 : 0 ≤ a) (h1 : a < 18446744073709551616) : IntKind.u64.wrap a = a := by
  simp [IntKind.wrap, IntKind.bits, IntKind.signed]
  omega
theorem shl_or {a x : Int} (ha : 0 ≤ a) (ha' : a < 72057594037927936) (hx : 0 ≤ x) (hx' : x < 256) :
    IntKind.u64.wrap (BitVec.ofInt IntKind.u64.bits (IntKind.u64.wrap (a * 2 ^ min (8 : Int).toNat IntKind.u64.bits)) ||| BitVec.ofInt IntKind.u64.bits (IntKind.u64.wrap x)).toNat = x + 256 * a := by
  obtain ⟨a, rfl⟩ := Int.eq_ofNat_of_zero_le ha
  obtain ⟨x, rfl⟩ := Int.eq_ofNat_of_zero_le hx
  have e1 : ((a : Int) * 2 ^ min (8 : Int).toNat IntKind.u64.bits) = ((a * 256 : Nat) : Int) := by
    have : min (8 : Int).toNat IntKind.u64.bits = 8 := by decide
    rw [this]; omega
  rw [e1, wrapu64b (a := ((a * 256 : Nat) : Int)) (by omega) (by omega), wrapu64b (a := (x : Int)) (by omega) (by omega)]
  have hb : IntKind.u64.bits = 64 := rfl
  have e2 : ∀ n : Nat, n < 18446744073709551616 → (BitVec.ofInt IntKind.u64.bits (n : Int)).toNat = n := by
    intro n hn
    rw [BitVec.ofInt_natCast, BitVec.toNat_ofNat, hb]
    exact Nat.mod_eq_of_lt (by omega)
  have e3 : (BitVec.ofInt IntKind.u64.bits ((a * 256 : Nat) : Int) ||| BitVec.ofInt IntKind.u64.bits (x : Int)).toNat = x + 256 * a := by
    rw [BitVec.toNat_or, e2 _ (by omega), e2 _ (by omega)]
    have h1 : a * 256 ||| x = a * 256 + x := by
      have := Nat.shiftLeft_add_eq_or_of_lt (i := 8) (show x < 2 ^ 8 by omega) a
      rw [Nat.shiftLeft_eq] at this
      exact this.symm
    omega
  rw [e3, wrapu64b (by omega) (by omega)]
  omega

abbrev bv (l : List Int) : List Value := l.map (Value.int .u8)
/-- A slice that says such bytes. -/
def Bts (S : Nat → Prop) (σ : St) (v : Value) (bs : List Int) : Prop :=
  ∃ a c, v = .slice a bs.length c ∧ (bs = [] → a = none → c = 0) ∧ (bs ≠ [] → ∃ b off cs e kd, a = some ⟨b, off, none⟩ ∧ S b ∧ σ.get b = some (.cells cs e kd) ∧ (cs.drop off).take bs.length = bv bs ∧ (c = unk ∨ bs.length ≤ c))

theorem Bts.keep {S : Nat → Prop} {σ σ' : St} {v : Value} {bs : List Int} (h : Bts S σ v bs) (hk : ∀ b, S b → σ'.get b = σ.get b) : Bts S σ' v bs := by
  obtain ⟨a, c, rfl, h1, h2⟩ := h
  refine ⟨a, c, rfl, h1, fun hb => ?_⟩
  obtain ⟨b, off, cs, e, kd, rfl, hs, h3, h4, h5⟩ := h2 hb
  exact ⟨b, off, cs, e, kd, rfl, hs, by rw [hk b hs]; exact h3, h4, h5⟩
theorem Bts.nil {S : Nat → Prop} {σ : St} : Bts S σ (.slice none 0 0) [] := ⟨none, 0, rfl, fun _ _ => rfl, fun h => absurd rfl h⟩

theorem take_at {cs : List Value} {off n : Nat} {l : List Value} (h : (cs.drop off).take n = l) {i : Nat} (hi : i < n) : cs[off + i]? = l[i]? := by
  rw [← h, List.getElem?_take, if_pos hi, List.getElem?_drop]

theorem sl25 {b off len c n : Nat} (hn : n ≤ len) (hc : c = unk ∨ len ≤ c) : ∃ a' c', sliceA Tryz.prog 25 (.slice (some ⟨b, off, none⟩) len c) (some (.int .i64 (n : Int))) none none = some (.slice (some a') (len - n) c') ∧ (n < len → a' = ⟨b, off + n, none⟩ ∧ (c' = unk ∨ len - n ≤ c')) := by
  obtain ⟨it, h1, h2⟩ := i5
  have hl : len ≤ (if c = unk then len else c) := by
    by_cases h : c = unk
    · rw [if_pos h]; exact Nat.le_refl _
    · rw [if_neg h]; exact hc.resolve_left h
  have hb : bnds len (if c = unk then len else c) (some (.int .i64 (n : Int))) none none = some (n, len, none) := by
    simp only [bnds, intOfV]
    rw [if_pos ⟨by omega, by omega, by omega⟩]
    simp
  simp only [sliceA, Tryz.underlying25, h1, h2, hb]
  by_cases h : c = unk
  · exact ⟨⟨b, off + n, none⟩, unk, by simp [h, Addr.add]; try omega, fun _ => ⟨rfl, .inl rfl⟩⟩
  · have hlc := hc.resolve_left h
    by_cases h' : c = n
    · subst h'
      exact ⟨⟨b, off, none⟩, c - c, by simp [h], fun hlt => by omega⟩
    · exact ⟨⟨b, off + n, none⟩, c - n, by simp [h, h', Addr.add]; try omega, fun _ => ⟨rfl, .inr (by omega)⟩⟩

theorem Bts.tail {S : Nat → Prop} {σ : St} {b off c n : Nat} {bs : List Int} (hn : n ≤ bs.length) (hn0 : bs ≠ []) {cs : List Value} {e : TypeId} {kd : Kd} (hb : σ.get b = some (.cells cs e kd)) (ht : (cs.drop off).take bs.length = bv bs) (hc : c = unk ∨ bs.length ≤ c) (hS : S b) :
    ∃ v', sliceA Tryz.prog 25 (.slice (some ⟨b, off, none⟩) bs.length c) (some (.int .i64 (n : Int))) none none = some v' ∧ (∀ σ' : St, σ'.get b = σ.get b → Bts S σ' v' (bs.drop n)) ∧ v'.oneCell' = true := by
  obtain ⟨a', c', h1, h2⟩ := sl25 (b := b) (off := off) hn hc
  refine ⟨_, h1, fun σ' hs => ⟨some a', c', by rw [List.length_drop], (fun _ h => by cases h), fun hne => ?_⟩, rfl⟩
  have hlt : n < bs.length := by
    rcases Nat.lt_or_ge n bs.length with h | h
    · exact h
    · exact absurd (List.drop_eq_nil_of_le h) hne
  obtain ⟨rfl, h3⟩ := h2 hlt
  refine ⟨b, off + n, cs, e, kd, rfl, hS, by rw [hs]; exact hb, ?_, by rw [List.length_drop]; exact h3⟩
  have : ((cs.drop off).take bs.length).drop n = (bv bs).drop n := by rw [ht]
  rw [List.drop_take, List.drop_drop] at this
  rw [List.length_drop, this]
  simp [List.map_drop]

theorem le_step {bs : List Int} {n j : Nat} (hj : j < n) (hn : n ≤ bs.length) : le ((bs.take n).drop (n - (j + 1))) = bs[n - 1 - j]'(by omega) + 256 * le ((bs.take n).drop (n - j)) := by
  have hl : n - (j + 1) < (bs.take n).length := by rw [List.length_take]; omega
  rw [List.drop_eq_getElem_cons hl, le]
  have e1 : (bs.take n)[n - (j + 1)] = bs[n - 1 - j]'(by omega) := by
    rw [List.getElem_take]
    congr 1
    omega
  rw [e1, show n - (j + 1) + 1 = n - j by omega]
theorem Byt.drop {l : List Int} (h : Byt l) (n : Nat) : Byt (l.drop n) := fun b hb => h b (List.mem_of_mem_drop hb)
theorem Byt.take {l : List Int} (h : Byt l) (n : Nat) : Byt (l.take n) := fun b hb => h b (List.mem_of_mem_take hb)
theorem le_small {l : List Int} (h : Byt l) (hl : l.length ≤ 7) : 0 ≤ le l ∧ le l < 72057594037927936 := by
  have := le_bound l h
  rcases (by omega : l.length = 0 ∨ l.length = 1 ∨ l.length = 2 ∨ l.length = 3 ∨ l.length = 4 ∨ l.length = 5 ∨ l.length = 6 ∨ l.length = 7) with h2 | h2 | h2 | h2 | h2 | h2 | h2 | h2 <;> rw [h2] at this <;> omega

noncomputable def code14 : Code := match Tryz.f14.body with | some c => c | none => .skip
theorem code14_eq : Tryz.f14.body = some code14 := by kernel_rfl
theorem ok14 : fnOk Tryz.f14 = true := by kernel_rfl
set_option maxRecDepth 8000 in
theorem num_short {S : Nat → Prop} {σ : St} {rb n : Nat} {v : Value} {sh : Bool} {e : TypeId} {kd : Kd} {bs : List Int} (hr : σ.get rb = some (.cells [v, .bool sh] e kd)) (hkd : kd ≠ .ro) (hrn : rb < σ.next) (hS : ¬ S rb) (hv : Bts S σ v bs) (hby : Byt bs) (hn : bs.length < n) (hn8 : n ≤ 8) : Con Tryz.prog 14 [.pointer (some ⟨rb, 0, none⟩), .int .i64 (n : Int)] σ (fun v' σ' => v' = .int .u64 0 ∧ σ'.get rb = some (.cells [.slice none 0 0, .bool true] e kd) ∧ But σ σ' (· = rb)) := by
  refine Con.of_goP (nt := 46) (rs := [.tmp 4]) Tryz.func14 code14_eq ok14 rfl rfl (by simp) ?_
  have f0 : rdT 46 (fill .nil 0 [.pointer (some ⟨rb, 0, none⟩), .int .i64 (n : Int)]) 0 = .pointer (some ⟨rb, 0, none⟩) := rfl
  have f1 : rdT 46 (fill .nil 0 [.pointer (some ⟨rb, 0, none⟩), .int .i64 (n : Int)]) 1 = .int .i64 (n : Int) := rfl
  generalize fill .nil 0 [.pointer (some ⟨rb, 0, none⟩), .int .i64 (n : Int)] = t at f0 f1
  unfold code14 Tryz.f14
  repeat (refine GoP.seq ?_)
  obtain ⟨a, c, rfl, -, -⟩ := hv
  refine GoP.region ?_ ?_
  · rfl
  refine OpsG.cons (o_assign (by (try simp only [rdF, rd_none, rd_same, rd_ne, ne_eq, Nat.reduceEqDiff, not_false_eq_true, Nat.reduceLT, f0, f1]) <;> rfl)) ?_
  refine OpsG.nil ?_
  repeat (refine GoP.seq ?_)
  refine GoP.region ?_ ?_
  · rfl
  refine OpsG.cons (o_move (by (try simp only [rdF, rd_none, rd_same, rd_ne, ne_eq, Nat.reduceEqDiff, not_false_eq_true, Nat.reduceLT, f0, f1]) <;> rfl)) ?_
  refine OpsG.cons (o_nil (by (try simp only [rdF, rd_none, rd_same, rd_ne, ne_eq, Nat.reduceEqDiff, not_false_eq_true, Nat.reduceLT, f0, f1]) <;> rfl)) ?_
  refine OpsG.cons (o_field (by (try simp only [rdF, rd_none, rd_same, rd_ne, ne_eq, Nat.reduceEqDiff, not_false_eq_true, Nat.reduceLT, f0, f1]) <;> rfl) (fa_50_0 _ _)) ?_
  refine OpsG.cons (o_load (by (try simp only [rdF, rd_none, rd_same, rd_ne, ne_eq, Nat.reduceEqDiff, not_false_eq_true, Nat.reduceLT, f0, f1]) <;> rfl) (by (try simp (disch := omega) only [St.get_room, St.get_at_eq, St.get_at_ne, St.get_put_eq, St.get_put_ne, St.get_add_eq, St.get_add_ne, St.get_del_ne, St.next_at, St.next_put', St.next_room, St.next_add', St.next_del', hr]) <;> rfl) (by rw [p_25]; rfl)) ?_
  refine OpsG.cons (o_builtin rfl (by (try simp only [List.map_cons, List.map_nil, rdF, rd_none, rd_same, rd_ne, ne_eq, Nat.reduceEqDiff, not_false_eq_true, Nat.reduceLT, f0, f1]) <;> rfl) (len_25 ..)) ?_
  refine OpsG.cons (o_move (by (try simp only [rdF, rd_none, rd_same, rd_ne, ne_eq, Nat.reduceEqDiff, not_false_eq_true, Nat.reduceLT, f0, f1]) <;> rfl)) ?_
  refine OpsG.cons (o_bin (by (try simp only [rdF, rd_none, rd_same, rd_ne, ne_eq, Nat.reduceEqDiff, not_false_eq_true, Nat.reduceLT, f0, f1]) <;> rfl) (by (try simp only [rdF, rd_none, rd_same, rd_ne, ne_eq, Nat.reduceEqDiff, not_false_eq_true, Nat.reduceLT, f0, f1]) <;> rfl) binA_lss) ?_
  refine OpsG.nil ?_
  repeat (refine GoP.seq ?_)
  refine GoP.cond (by rfl) (by (try simp only [rdF, rd_none, rd_same, rd_ne, ne_eq, Nat.reduceEqDiff, not_false_eq_true, Nat.reduceLT, f0, f1]) <;> rfl) (fun hc => ?_) (fun hc => ?_)
  ·
    repeat (refine GoP.seq ?_)
    refine GoP.region ?_ ?_
    · rfl
    refine OpsG.cons (o_move (by (try simp only [rdF, rd_none, rd_same, rd_ne, ne_eq, Nat.reduceEqDiff, not_false_eq_true, Nat.reduceLT, f0, f1]) <;> rfl)) ?_
    refine OpsG.cons (o_move (by (try simp only [rdF, rd_none, rd_same, rd_ne, ne_eq, Nat.reduceEqDiff, not_false_eq_true, Nat.reduceLT, f0, f1]) <;> rfl)) ?_
    refine OpsG.cons (o_nil (by (try simp only [rdF, rd_none, rd_same, rd_ne, ne_eq, Nat.reduceEqDiff, not_false_eq_true, Nat.reduceLT, f0, f1]) <;> rfl)) ?_
    refine OpsG.cons (o_field (by (try simp only [rdF, rd_none, rd_same, rd_ne, ne_eq, Nat.reduceEqDiff, not_false_eq_true, Nat.reduceLT, f0, f1]) <;> rfl) (fa_50_0 _ _)) ?_
    refine OpsG.cons (o_store (by (try simp only [rdF, rd_none, rd_same, rd_ne, ne_eq, Nat.reduceEqDiff, not_false_eq_true, Nat.reduceLT, f0, f1]) <;> rfl) (by (try simp only [rdF, rd_none, rd_same, rd_ne, ne_eq, Nat.reduceEqDiff, not_false_eq_true, Nat.reduceLT, f0, f1]) <;> rfl) (by (try simp (disch := omega) only [St.get_room, St.get_at_eq, St.get_at_ne, St.get_put_eq, St.get_put_ne, St.get_add_eq, St.get_add_ne, St.get_del_ne, St.next_at, St.next_put', St.next_room, St.next_add', St.next_del', hr]) <;> rfl) hkd s_25 (cl1 rfl) rfl rfl (by simp) (by simp only [splice, List.length_cons, List.length_nil, List.drop_succ_cons, List.drop_zero, List.take_zero, List.nil_append, List.cons_append, Nat.zero_add]; rfl)) ?_
    refine OpsG.cons (o_nil (by (try simp only [rdF, rd_none, rd_same, rd_ne, ne_eq, Nat.reduceEqDiff, not_false_eq_true, Nat.reduceLT, f0, f1]) <;> rfl)) ?_
    refine OpsG.cons (o_field (by (try simp only [rdF, rd_none, rd_same, rd_ne, ne_eq, Nat.reduceEqDiff, not_false_eq_true, Nat.reduceLT, f0, f1]) <;> rfl) (fa_50_1 _ _)) ?_
    refine OpsG.cons (o_store (by (try simp only [rdF, rd_none, rd_same, rd_ne, ne_eq, Nat.reduceEqDiff, not_false_eq_true, Nat.reduceLT, f0, f1]) <;> rfl) (by (try simp only [rdF, rd_none, rd_same, rd_ne, ne_eq, Nat.reduceEqDiff, not_false_eq_true, Nat.reduceLT, f0, f1]) <;> rfl) (by (try simp (disch := omega) only [St.get_room, St.get_at_eq, St.get_at_ne, St.get_put_eq, St.get_put_ne, St.get_add_eq, St.get_add_ne, St.get_del_ne, St.next_at, St.next_put', St.next_room, St.next_add', St.next_del', hr]) <;> rfl) hkd s_4 (cl1 rfl) rfl rfl (by simp) (by simp only [splice, List.length_cons, List.length_nil, List.drop_succ_cons, List.drop_zero, List.take_succ_cons, List.take_zero, List.nil_append, List.cons_append, Nat.zero_add, Nat.reduceAdd]; rfl)) ?_
    refine OpsG.nil ?_
    repeat (refine GoP.seq ?_)
    refine GoP.region ?_ ?_
    · rfl
    refine OpsG.cons (o_assign (by (try simp only [rdF, rd_none, rd_same, rd_ne, ne_eq, Nat.reduceEqDiff, not_false_eq_true, Nat.reduceLT, f0, f1]) <;> rfl)) ?_
    refine OpsG.nil ?_
    repeat (refine GoP.seq ?_)
    refine GoP.ret ?_
    refine ⟨.inl rfl, [.int .u64 0], ?_, ?_⟩
    · exact (by (try simp only [resAllF, resOneF, rdF, rd_none, rd_same, rd_ne, ne_eq, Nat.reduceEqDiff, not_false_eq_true, Nat.reduceLT, f0, f1]) <;> rfl)
    · refine ⟨rfl, by rw [St.get_put_eq rfl], ((But.refl σ (fun x => x = rb)).putOf (b := rb) rfl).putOf (b := rb) rfl⟩
  ·
    exact absurd (of_decide_eq_false hc) (by omega)
set_option maxRecDepth 8000 in
theorem num_long {S : Nat → Prop} {σ : St} {rb n : Nat} {v : Value} {sh : Bool} {e : TypeId} {kd : Kd} {bs : List Int} (hr : σ.get rb = some (.cells [v, .bool sh] e kd)) (hkd : kd ≠ .ro) (hrn : rb < σ.next) (hS : ¬ S rb) (hv : Bts S σ v bs) (hby : Byt bs) (hn : n ≤ bs.length) (hn1 : 1 ≤ n) (hn8 : n ≤ 8) : Con Tryz.prog 14 [.pointer (some ⟨rb, 0, none⟩), .int .i64 (n : Int)] σ (fun v' σ' => v' = .int .u64 (le (bs.take n)) ∧ ∃ v2, σ'.get rb = some (.cells [v2, .bool sh] e kd) ∧ Bts S σ' v2 (bs.drop n) ∧ But σ σ' (· = rb)) := by
  refine Con.of_goP (nt := 46) (rs := [.tmp 4]) Tryz.func14 code14_eq ok14 rfl rfl (by simp) ?_
  have f0 : rdT 46 (fill .nil 0 [.pointer (some ⟨rb, 0, none⟩), .int .i64 (n : Int)]) 0 = .pointer (some ⟨rb, 0, none⟩) := rfl
  have f1 : rdT 46 (fill .nil 0 [.pointer (some ⟨rb, 0, none⟩), .int .i64 (n : Int)]) 1 = .int .i64 (n : Int) := rfl
  generalize fill .nil 0 [.pointer (some ⟨rb, 0, none⟩), .int .i64 (n : Int)] = t at f0 f1
  unfold code14 Tryz.f14
  repeat (refine GoP.seq ?_)
  have hne : bs ≠ [] := by intro h; subst h; simp at hn; omega
  obtain ⟨a, c, rfl, -, h2⟩ := hv
  obtain ⟨b, off, cs, e2, kd2, rfl, hSb, hb, ht, hcap⟩ := h2 hne
  obtain ⟨v2, hsl, hv2, hone⟩ := Bts.tail hn hne hb ht hcap hSb
  have hbr : b ≠ rb := fun h => hS (h ▸ hSb)
  refine GoP.name ?_
  rintro σ1 hσ1
  rw [← hσ1] at hr hb hrn hv2 ⊢
  refine GoP.region ?_ ?_
  · rfl
  refine OpsG.cons (o_assign (v := .int .u64 (le ((bs.take n).drop (n - 0)))) (by rw [show le ((bs.take n).drop (n - 0)) = 0 by rw [List.drop_eq_nil_of_le (by rw [List.length_take]; omega)]; rfl]; rfl)) ?_
  refine OpsG.nil ?_
  repeat (refine GoP.seq ?_)
  refine GoP.region ?_ ?_
  · rfl
  refine OpsG.cons (o_move (by (try simp only [rdF, rd_none, rd_same, rd_ne, ne_eq, Nat.reduceEqDiff, not_false_eq_true, Nat.reduceLT, f0, f1]) <;> rfl)) ?_
  refine OpsG.cons (o_nil (by (try simp only [rdF, rd_none, rd_same, rd_ne, ne_eq, Nat.reduceEqDiff, not_false_eq_true, Nat.reduceLT, f0, f1]) <;> rfl)) ?_
  refine OpsG.cons (o_field (by (try simp only [rdF, rd_none, rd_same, rd_ne, ne_eq, Nat.reduceEqDiff, not_false_eq_true, Nat.reduceLT, f0, f1]) <;> rfl) (fa_50_0 _ _)) ?_
  refine OpsG.cons (o_load (by (try simp only [rdF, rd_none, rd_same, rd_ne, ne_eq, Nat.reduceEqDiff, not_false_eq_true, Nat.reduceLT, f0, f1]) <;> rfl) (by (try simp (disch := omega) only [St.get_room, St.get_at_eq, St.get_at_ne, St.get_put_eq, St.get_put_ne, St.get_add_eq, St.get_add_ne, St.get_del_ne, St.next_at, St.next_put', St.next_room, St.next_add', St.next_del', hr, hb]) <;> rfl) (by rw [p_25]; rfl)) ?_
  refine OpsG.cons (o_builtin rfl (by (try simp only [List.map_cons, List.map_nil, rdF, rd_none, rd_same, rd_ne, ne_eq, Nat.reduceEqDiff, not_false_eq_true, Nat.reduceLT, f0, f1]) <;> rfl) (len_25 ..)) ?_
  refine OpsG.cons (o_move (by (try simp only [rdF, rd_none, rd_same, rd_ne, ne_eq, Nat.reduceEqDiff, not_false_eq_true, Nat.reduceLT, f0, f1]) <;> rfl)) ?_
  refine OpsG.cons (o_bin (by (try simp only [rdF, rd_none, rd_same, rd_ne, ne_eq, Nat.reduceEqDiff, not_false_eq_true, Nat.reduceLT, f0, f1]) <;> rfl) (by (try simp only [rdF, rd_none, rd_same, rd_ne, ne_eq, Nat.reduceEqDiff, not_false_eq_true, Nat.reduceLT, f0, f1]) <;> rfl) binA_lss) ?_
  refine OpsG.nil ?_
  repeat (refine GoP.seq ?_)
  refine GoP.cond (by rfl) (by (try simp only [rdF, rd_none, rd_same, rd_ne, ne_eq, Nat.reduceEqDiff, not_false_eq_true, Nat.reduceLT, f0, f1]) <;> rfl) (fun hc => ?_) (fun hc => ?_)
  ·
    exact absurd (of_decide_eq_true hc) (by omega)
  ·
    repeat (refine GoP.seq ?_)
    refine GoP.skip ?_
    repeat (refine GoP.seq ?_)
    refine GoP.region ?_ ?_
    · rfl
    refine OpsG.cons (o_move (by (try simp only [rdF, rd_none, rd_same, rd_ne, ne_eq, Nat.reduceEqDiff, not_false_eq_true, Nat.reduceLT, f0, f1]) <;> rfl)) ?_
    refine OpsG.cons (o_bin (by (try simp only [rdF, rd_none, rd_same, rd_ne, ne_eq, Nat.reduceEqDiff, not_false_eq_true, Nat.reduceLT, f0, f1]) <;> rfl) (by (try simp only [rdF, rd_none, rd_same, rd_ne, ne_eq, Nat.reduceEqDiff, not_false_eq_true, Nat.reduceLT, f0, f1]) <;> rfl) ((b_sub64 (by omega) (by omega)).trans (congrArg (fun z => some (Value.int .i64 z)) (by omega : ((n : Int) - 1) = (n : Int) - 1 - ((0 : Nat) : Int))))) ?_
    refine OpsG.cons (o_assign (by (try simp only [rdF, rd_none, rd_same, rd_ne, ne_eq, Nat.reduceEqDiff, not_false_eq_true, Nat.reduceLT, f0, f1]) <;> rfl)) ?_
    refine OpsG.nil ?_
    repeat (refine GoP.seq ?_)
    refine GoP.block ?_
    repeat (refine GoP.seq ?_)
    refine GoP.loop (fun m t σ => ∃ (j : Nat), rdT 46 t 0 = .pointer (some ⟨rb, 0, none⟩) ∧ rdT 46 t 1 = .int .i64 (n : Int) ∧ rdT 46 t 4 = .int .u64 (le ((bs.take n).drop (n - j))) ∧ rdT 46 t 5 = .int .i64 ((n : Int) - 1 - (j : Int)) ∧ (j ≤ n) ∧ (σ1 = σ) ∧ m = n - j) ?_ (m := n) ?_
    ·
      rintro m t s ⟨j, g0, g1, g4, g5, hj, rfl, rfl⟩
      repeat (refine GoP.seq ?_)
      refine GoP.region ?_ ?_
      · rfl
      refine OpsG.cons (o_move (by (try simp only [rdF, rd_none, rd_same, rd_ne, ne_eq, Nat.reduceEqDiff, not_false_eq_true, Nat.reduceLT, g0, g1, g4, g5]) <;> rfl)) ?_
      refine OpsG.cons (o_bin (by (try simp only [rdF, rd_none, rd_same, rd_ne, ne_eq, Nat.reduceEqDiff, not_false_eq_true, Nat.reduceLT, g0, g1, g4, g5]) <;> rfl) (by (try simp only [rdF, rd_none, rd_same, rd_ne, ne_eq, Nat.reduceEqDiff, not_false_eq_true, Nat.reduceLT, g0, g1, g4, g5]) <;> rfl) binA_geq) ?_
      refine OpsG.nil ?_
      repeat (refine GoP.seq ?_)
      refine GoP.cond (by rfl) (by (try simp only [rdF, rd_none, rd_same, rd_ne, ne_eq, Nat.reduceEqDiff, not_false_eq_true, Nat.reduceLT, g0, g1, g4, g5]) <;> rfl) (fun hcc => ?_) (fun hcc => ?_)
      ·
        have hjn : j < n := by have := of_decide_eq_true hcc; omega
        have hbyte : cs[off + ((n : Int) - 1 - (j : Int)).toNat]? = some (.int .u8 (bs[n - 1 - j]'(by omega))) := by
          rw [take_at ht (by omega), show ((n : Int) - 1 - (j : Int)).toNat = n - 1 - j by omega]
          simp [show n - 1 - j < bs.length by omega]
        have hx := hby (bs[n - 1 - j]'(by omega)) (List.getElem_mem _)
        have hl := le_small ((hby.take n).drop (n - j)) (by simp only [List.length_drop, List.length_take]; omega)
        have hst := le_step (bs := bs) hjn hn
        repeat (refine GoP.seq ?_)
        refine GoP.skip ?_
        repeat (refine GoP.seq ?_)
        refine GoP.block ?_
        repeat (refine GoP.seq ?_)
        refine GoP.region ?_ ?_
        · rfl
        refine OpsG.cons (o_move (by (try simp only [rdF, rd_none, rd_same, rd_ne, ne_eq, Nat.reduceEqDiff, not_false_eq_true, Nat.reduceLT, g0, g1, g4, g5]) <;> rfl)) ?_
        refine OpsG.cons (o_bin (by (try simp only [rdF, rd_none, rd_same, rd_ne, ne_eq, Nat.reduceEqDiff, not_false_eq_true, Nat.reduceLT, g0, g1, g4, g5]) <;> rfl) (by (try simp only [rdF, rd_none, rd_same, rd_ne, ne_eq, Nat.reduceEqDiff, not_false_eq_true, Nat.reduceLT, g0, g1, g4, g5]) <;> rfl) (b_shl (by omega))) ?_
        refine OpsG.cons (o_move (by (try simp only [rdF, rd_none, rd_same, rd_ne, ne_eq, Nat.reduceEqDiff, not_false_eq_true, Nat.reduceLT, g0, g1, g4, g5]) <;> rfl)) ?_
        refine OpsG.cons (o_nil (by (try simp only [rdF, rd_none, rd_same, rd_ne, ne_eq, Nat.reduceEqDiff, not_false_eq_true, Nat.reduceLT, g0, g1, g4, g5]) <;> rfl)) ?_
        refine OpsG.cons (o_field (by (try simp only [rdF, rd_none, rd_same, rd_ne, ne_eq, Nat.reduceEqDiff, not_false_eq_true, Nat.reduceLT, g0, g1, g4, g5]) <;> rfl) (fa_50_0 _ _)) ?_
        refine OpsG.cons (o_load (by (try simp only [rdF, rd_none, rd_same, rd_ne, ne_eq, Nat.reduceEqDiff, not_false_eq_true, Nat.reduceLT, g0, g1, g4, g5]) <;> rfl) (by (try simp (disch := omega) only [St.get_room, St.get_at_eq, St.get_at_ne, St.get_put_eq, St.get_put_ne, St.get_add_eq, St.get_add_ne, St.get_del_ne, St.next_at, St.next_put', St.next_room, St.next_add', St.next_del', hr, hb]) <;> rfl) (by rw [p_25]; rfl)) ?_
        refine OpsG.cons (o_move (by (try simp only [rdF, rd_none, rd_same, rd_ne, ne_eq, Nat.reduceEqDiff, not_false_eq_true, Nat.reduceLT, g0, g1, g4, g5]) <;> rfl)) ?_
        refine OpsG.cons (o_indexAddr (by (try simp only [rdF, rd_none, rd_same, rd_ne, ne_eq, Nat.reduceEqDiff, not_false_eq_true, Nat.reduceLT, g0, g1, g4, g5]) <;> rfl) (by (try simp only [rdF, rd_none, rd_same, rd_ne, ne_eq, Nat.reduceEqDiff, not_false_eq_true, Nat.reduceLT, g0, g1, g4, g5]) <;> rfl) (by first | (refine ixn_25 ?_; omega) | (refine ixi_25 ?_ ?_ <;> omega))) ?_
        refine OpsG.cons (o_load (by (try simp only [rdF, rd_none, rd_same, rd_ne, ne_eq, Nat.reduceEqDiff, not_false_eq_true, Nat.reduceLT, g0, g1, g4, g5]) <;> rfl) (by (try simp (disch := omega) only [St.get_room, St.get_at_eq, St.get_at_ne, St.get_put_eq, St.get_put_ne, St.get_add_eq, St.get_add_ne, St.get_del_ne, St.next_at, St.next_put', St.next_room, St.next_add', St.next_del', hr, hb]) <;> rfl) (by rw [p_5]; exact hbyte)) ?_
        refine OpsG.cons (o_convert rfl (by (try simp only [rdF, rd_none, rd_same, rd_ne, ne_eq, Nat.reduceEqDiff, not_false_eq_true, Nat.reduceLT, g0, g1, g4, g5]) <;> rfl) (cv_5_26 _)) ?_
        refine OpsG.cons (o_bin (by (try simp only [rdF, rd_none, rd_same, rd_ne, ne_eq, Nat.reduceEqDiff, not_false_eq_true, Nat.reduceLT, g0, g1, g4, g5]) <;> rfl) (by (try simp only [rdF, rd_none, rd_same, rd_ne, ne_eq, Nat.reduceEqDiff, not_false_eq_true, Nat.reduceLT, g0, g1, g4, g5]) <;> rfl) (b_or.trans (congrArg (fun z => some (Value.int .u64 z)) ((shl_or hl.1 hl.2 hx.1 hx.2).trans hst.symm)))) ?_
        refine OpsG.cons (o_assign (by (try simp only [rdF, rd_none, rd_same, rd_ne, ne_eq, Nat.reduceEqDiff, not_false_eq_true, Nat.reduceLT, g0, g1, g4, g5]) <;> rfl)) ?_
        refine OpsG.nil ?_
        repeat (refine GoP.seq ?_)
        refine GoP.region ?_ ?_
        · rfl
        refine OpsG.cons (o_move (by (try simp only [rdF, rd_none, rd_same, rd_ne, ne_eq, Nat.reduceEqDiff, not_false_eq_true, Nat.reduceLT, g0, g1, g4, g5]) <;> rfl)) ?_
        refine OpsG.cons (o_bin (by (try simp only [rdF, rd_none, rd_same, rd_ne, ne_eq, Nat.reduceEqDiff, not_false_eq_true, Nat.reduceLT, g0, g1, g4, g5]) <;> rfl) (by (try simp only [rdF, rd_none, rd_same, rd_ne, ne_eq, Nat.reduceEqDiff, not_false_eq_true, Nat.reduceLT, g0, g1, g4, g5]) <;> rfl) ((b_sub64 (by omega) (by omega)).trans (congrArg (fun z => some (Value.int .i64 z)) (by omega : ((n : Int) - 1 - (j : Int) - 1) = (n : Int) - 1 - ((j + 1 : Nat) : Int))))) ?_
        refine OpsG.cons (o_assign (by (try simp only [rdF, rd_none, rd_same, rd_ne, ne_eq, Nat.reduceEqDiff, not_false_eq_true, Nat.reduceLT, g0, g1, g4, g5]) <;> rfl)) ?_
        refine OpsG.nil ?_
        refine ⟨_, ?_, j + 1, (by (try simp only [rdF, rd_none, rd_same, rd_ne, ne_eq, Nat.reduceEqDiff, not_false_eq_true, Nat.reduceLT, g0, g1, g4, g5]) <;> rfl), (by (try simp only [rdF, rd_none, rd_same, rd_ne, ne_eq, Nat.reduceEqDiff, not_false_eq_true, Nat.reduceLT, g0, g1, g4, g5]) <;> rfl), (by (try simp only [rdF, rd_none, rd_same, rd_ne, ne_eq, Nat.reduceEqDiff, not_false_eq_true, Nat.reduceLT, g0, g1, g4, g5]) <;> rfl), (by (try simp only [rdF, rd_none, rd_same, rd_ne, ne_eq, Nat.reduceEqDiff, not_false_eq_true, Nat.reduceLT, g0, g1, g4, g5]) <;> rfl), by omega, rfl, rfl⟩
        omega
      ·
        have hjn : j = n := by have := of_decide_eq_false hcc; omega
        rw [show n - j = 0 by omega, List.drop_zero] at g4
        repeat (refine GoP.seq ?_)
        refine GoP.exit ?_
        refine Eq.mpr (if_pos rfl) ?_
        repeat (refine GoP.seq ?_)
        refine GoP.region ?_ ?_
        · rfl
        refine OpsG.cons (o_move (by (try simp only [rdF, rd_none, rd_same, rd_ne, ne_eq, Nat.reduceEqDiff, not_false_eq_true, Nat.reduceLT, g0, g1, g4, g5]) <;> rfl)) ?_
        refine OpsG.cons (o_move (by (try simp only [rdF, rd_none, rd_same, rd_ne, ne_eq, Nat.reduceEqDiff, not_false_eq_true, Nat.reduceLT, g0, g1, g4, g5]) <;> rfl)) ?_
        refine OpsG.cons (o_nil (by (try simp only [rdF, rd_none, rd_same, rd_ne, ne_eq, Nat.reduceEqDiff, not_false_eq_true, Nat.reduceLT, g0, g1, g4, g5]) <;> rfl)) ?_
        refine OpsG.cons (o_field (by (try simp only [rdF, rd_none, rd_same, rd_ne, ne_eq, Nat.reduceEqDiff, not_false_eq_true, Nat.reduceLT, g0, g1, g4, g5]) <;> rfl) (fa_50_0 _ _)) ?_
        refine OpsG.cons (o_load (by (try simp only [rdF, rd_none, rd_same, rd_ne, ne_eq, Nat.reduceEqDiff, not_false_eq_true, Nat.reduceLT, g0, g1, g4, g5]) <;> rfl) (by (try simp (disch := omega) only [St.get_room, St.get_at_eq, St.get_at_ne, St.get_put_eq, St.get_put_ne, St.get_add_eq, St.get_add_ne, St.get_del_ne, St.next_at, St.next_put', St.next_room, St.next_add', St.next_del', hr, hb]) <;> rfl) (by rw [p_25]; rfl)) ?_
        refine OpsG.cons (o_move (by (try simp only [rdF, rd_none, rd_same, rd_ne, ne_eq, Nat.reduceEqDiff, not_false_eq_true, Nat.reduceLT, g0, g1, g4, g5]) <;> rfl)) ?_
        refine OpsG.cons (o_slice (by (try simp only [rdF, rd_none, rd_same, rd_ne, ne_eq, Nat.reduceEqDiff, not_false_eq_true, Nat.reduceLT, g0, g1, g4, g5]) <;> rfl) (congrArg some (by (try simp only [rdF, rd_none, rd_same, rd_ne, ne_eq, Nat.reduceEqDiff, not_false_eq_true, Nat.reduceLT, g0, g1, g4, g5]) <;> rfl)) rfl rfl hsl) ?_
        refine OpsG.cons (o_nil (by (try simp only [rdF, rd_none, rd_same, rd_ne, ne_eq, Nat.reduceEqDiff, not_false_eq_true, Nat.reduceLT, g0, g1, g4, g5]) <;> rfl)) ?_
        refine OpsG.cons (o_field (by (try simp only [rdF, rd_none, rd_same, rd_ne, ne_eq, Nat.reduceEqDiff, not_false_eq_true, Nat.reduceLT, g0, g1, g4, g5]) <;> rfl) (fa_50_0 _ _)) ?_
        refine OpsG.cons (o_store (by (try simp only [rdF, rd_none, rd_same, rd_ne, ne_eq, Nat.reduceEqDiff, not_false_eq_true, Nat.reduceLT, g0, g1, g4, g5]) <;> rfl) (by (try simp only [rdF, rd_none, rd_same, rd_ne, ne_eq, Nat.reduceEqDiff, not_false_eq_true, Nat.reduceLT, g0, g1, g4, g5]) <;> rfl) (by (try simp (disch := omega) only [St.get_room, St.get_at_eq, St.get_at_ne, St.get_put_eq, St.get_put_ne, St.get_add_eq, St.get_add_ne, St.get_del_ne, St.next_at, St.next_put', St.next_room, St.next_add', St.next_del', hr, hb]) <;> rfl) hkd s_25 (cl1 hone) rfl (by simp [hone]) (by simp) (by simp only [splice, List.length_cons, List.length_nil, List.drop_succ_cons, List.drop_zero, List.take_zero, List.nil_append, List.cons_append, Nat.zero_add]; rfl)) ?_
        refine OpsG.nil ?_
        repeat (refine GoP.seq ?_)
        refine GoP.region ?_ ?_
        · rfl
        refine OpsG.cons (o_move (by (try simp only [rdF, rd_none, rd_same, rd_ne, ne_eq, Nat.reduceEqDiff, not_false_eq_true, Nat.reduceLT, g0, g1, g4, g5]) <;> rfl)) ?_
        refine OpsG.cons (o_assign (by (try simp only [rdF, rd_none, rd_same, rd_ne, ne_eq, Nat.reduceEqDiff, not_false_eq_true, Nat.reduceLT, g0, g1, g4, g5]) <;> rfl)) ?_
        refine OpsG.nil ?_
        repeat (refine GoP.seq ?_)
        refine GoP.ret ?_
        refine ⟨.inl rfl, [.int .u64 (le (bs.take n))], ?_, ?_⟩
        · exact (by (try simp only [resAllF, resOneF, rdF, rd_none, rd_same, rd_ne, ne_eq, Nat.reduceEqDiff, not_false_eq_true, Nat.reduceLT, g0, g1, g4, g5]) <;> rfl)
        · exact ⟨rfl, v2, by rw [St.get_put_eq rfl], hv2 _ (by rw [St.get_put_ne hbr]), (But.refl σ1 (fun x => x = rb)).putOf (b := rb) rfl⟩
    ·
      exact ⟨0, (by (try simp only [rdF, rd_none, rd_same, rd_ne, ne_eq, Nat.reduceEqDiff, not_false_eq_true, Nat.reduceLT, f0, f1]) <;> rfl), (by (try simp only [rdF, rd_none, rd_same, rd_ne, ne_eq, Nat.reduceEqDiff, not_false_eq_true, Nat.reduceLT, f0, f1]) <;> rfl), (by (try simp only [rdF, rd_none, rd_same, rd_ne, ne_eq, Nat.reduceEqDiff, not_false_eq_true, Nat.reduceLT, f0, f1]) <;> rfl), (by (try simp only [rdF, rd_none, rd_same, rd_ne, ne_eq, Nat.reduceEqDiff, not_false_eq_true, Nat.reduceLT, f0, f1]) <;> rfl), by omega, rfl, rfl⟩
/-- What a reader reads, whatever is left. -/
def rnV (n : Nat) (bs : List Int) : Int := if n ≤ bs.length then le (bs.take n) else 0
theorem num_con {S : Nat → Prop} {σ : St} {rb n : Nat} {v : Value} {sh : Bool} {e : TypeId} {kd : Kd} {bs : List Int} (hr : σ.get rb = some (.cells [v, .bool sh] e kd)) (hkd : kd ≠ .ro) (hrn : rb < σ.next) (hS : ¬ S rb) (hv : Bts S σ v bs) (hby : Byt bs) (hn1 : 1 ≤ n) (hn8 : n ≤ 8) :
    Con Tryz.prog 14 [.pointer (some ⟨rb, 0, none⟩), .int .i64 (n : Int)] σ (fun v' σ' => v' = .int .u64 (rnV n bs) ∧ ∃ v2, σ'.get rb = some (.cells [v2, .bool (sh || decide (bs.length < n))] e kd) ∧ Bts S σ' v2 (bs.drop n) ∧ But σ σ' (· = rb)) := by
  by_cases h : n ≤ bs.length
  · refine (num_long hr hkd hrn hS hv hby h hn1 hn8).mono ?_
    rintro v' σ' ⟨rfl, v2, h1, h2, h3⟩
    refine ⟨by rw [rnV, if_pos h], v2, ?_, h2, h3⟩
    rw [show decide (bs.length < n) = false by simp; omega, Bool.or_false]
    exact h1
  · refine (num_short hr hkd hrn hS hv hby (by omega) hn8).mono ?_
    rintro v' σ' ⟨rfl, h1, h2⟩
    refine ⟨by rw [rnV, if_neg h], .slice none 0 0, ?_, ?_, h2⟩
    · rw [show decide (bs.length < n) = true by simp; omega, Bool.or_true]
      exact h1
    · rw [List.drop_eq_nil_of_le (by omega)]
      exact Bts.nil
theorem rnV_bound {n : Nat} {bs : List Int} (h : Byt bs) : 0 ≤ rnV n bs ∧ rnV n bs < 256 ^ n := by
  unfold rnV
  by_cases hn : n ≤ bs.length
  · rw [if_pos hn]
    have := le_bound _ (h.take n)
    rw [List.length_take, Nat.min_eq_left hn] at this
    exact this
  · rw [if_neg hn]
    exact ⟨Int.le_refl 0, Int.pow_pos (by decide)⟩

end Go.Proofs.YtfffmmgmjlfkoaaGreat
