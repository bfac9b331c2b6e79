/- play: bytes of numbers -/
import Derived.Test.YtfffmmgmjlfkoaaGreatD10
import Derived.Test.YtfffmmgmjlfkoaaGreatA37
namespace Go.Proofs.YtfffmmgmjlfkoaaGreat
set_option linter.unusedSimpArgs false
set_option linter.unusedVariables false
open Go.As

/-- A row of bytes at block b, that may be appended to. -/
def BX (σ : St) (sv : Value) (bs : List Int) (b : Nat) : Prop :=
  (bs = [] ∧ sv = .slice none 0 0) ∨ (bs ≠ [] ∧ ∃ c kd, sv = .slice (some ⟨b, 0, none⟩) bs.length c ∧ σ.get b = some (.cells (bv bs) 5 kd) ∧ ((c = unk ∧ kd = .vec 1) ∨ (c = bs.length ∧ kd = .ex)))
theorem BX.keep {σ σ' : St} {sv : Value} {bs : List Int} {b : Nat} (h : BX σ sv bs b) (hk : bs ≠ [] → σ'.get b = σ.get b) : BX σ' sv bs b := by
  rcases h with h | ⟨h1, c, kd, h2, h3, h4⟩
  · exact .inl h
  · exact .inr ⟨h1, c, kd, h2, by rw [hk h1]; exact h3, h4⟩
theorem BX.bts {S : Nat → Prop} {σ : St} {sv : Value} {bs : List Int} {b : Nat} (h : BX σ sv bs b) (hS : bs ≠ [] → S b) : Bts S σ sv bs := by
  rcases h with ⟨rfl, rfl⟩ | ⟨h1, c, kd, rfl, h3, h4⟩
  · exact Bts.nil
  · refine ⟨_, c, rfl, fun h => absurd h h1, fun _ => ⟨b, 0, _, _, _, rfl, hS h1, h3, ?_, ?_⟩⟩
    · rw [List.drop_zero, List.take_of_length_le (by simp)]
    · rcases h4 with ⟨h4, _⟩ | ⟨h4, _⟩
      · exact .inl h4
      · exact .inr (by omega)
theorem i5b : ∃ it z, Tryz.prog.info? 5 = some it ∧ it.size = 1 ∧ it.bytes = 1 ∧ zeroV Tryz.prog 5 = some z ∧ z.cells.size = 1 := by
  have h0 : (Tryz.prog.info? 5).map (fun it => (it.size, it.bytes)) = some (1, 1) := by kernel_rfl
  have h1 : (zeroV Tryz.prog 5).map (fun z => z.cells.size) = some 1 := by kernel_rfl
  cases h : Tryz.prog.info? 5 with
  | none => rw [h] at h0; cases h0
  | some it =>
    cases hz : zeroV Tryz.prog 5 with
    | none => rw [hz] at h1; cases h1
    | some z =>
      rw [h] at h0
      rw [hz] at h1
      simp only [Option.map_some, Option.some.injEq, Prod.mk.injEq] at h0 h1
      exact ⟨it, z, rfl, h0.1, h0.2, rfl, h1⟩
theorem bv_one (l : List Int) : (bv l).all Value.oneCell' = true := by simp [Value.oneCell']
theorem not_neg {p : Prop} (h : p) : ¬ ¬ p := fun n => n h

theorem BX.append {σ : St} {sv nv : Value} {bs xs : List Int} {b : Nat} (h : BX σ sv bs b) (hn : newsA σ 1 nv = some (xs.length, bv xs)) (hx : xs ≠ []) (hl : bs.length + xs.length < 1000000) :
    ∃ σ2, appendA Tryz.prog #[25, 25] [sv, nv] σ = some (.slice (some ⟨σ.next, 0, none⟩) (bs.length + xs.length) unk, σ2) ∧ σ2.get σ.next = some (.cells (bv (bs ++ xs)) 5 (.vec 1)) ∧ σ2.next = σ.next + 1 ∧ ∀ c, c ≠ σ.next → (bs ≠ [] → c ≠ b) → σ2.get c = σ.get c := by
  obtain ⟨it, z, h1, h2, h3, h4, h5⟩ := i5b
  have hsz : ¬ (it.size = 0 ∨ z.cells.size ≠ it.size) := by omega
  have hx0 : xs.length ≠ 0 := fun e => hx (List.eq_nil_of_length_eq_zero e)
  have hm : ∀ m : Nat, m < 1000001 → m * it.bytes ≤ 2 ^ 40 ∧ m ≤ 2 ^ 40 := fun m hm => by rw [h3, Nat.mul_one]; exact ⟨Nat.le_trans (Nat.le_of_lt hm) (by decide), Nat.le_trans (Nat.le_of_lt hm) (by decide)⟩
  rw [← h2] at hn
  rcases h with ⟨rfl, rfl⟩ | ⟨hne, c, kd, rfl, hb, hc⟩
  · refine ⟨σ.add (.cells (bv xs) 5 (.vec 1)), ?_, by rw [St.get_add_eq rfl, List.nil_append], rfl, fun c hc _ => St.get_add_ne hc⟩
    simp only [appendA, Tryz.underlying25, h1, h4, if_true, if_neg hsz, hn, if_neg (not_neg (bv_one xs)), if_neg hx0]
    simp only [List.length_nil, Nat.zero_add]
    rw [if_pos (hm xs.length (by simp at hl; omega)), h2]
  · have hl0 : bs.length ≠ 0 := fun e => hne (List.eq_nil_of_length_eq_zero e)
    simp only [appendA, Tryz.underlying25, h1, h4, if_true, if_neg hsz, hn, if_neg (not_neg (bv_one xs)), if_neg hx0, hb, if_neg (not_neg (hm (bs.length + xs.length) (by omega)))]
    rcases hc with ⟨rfl, rfl⟩ | ⟨rfl, rfl⟩
    · refine ⟨(σ.del b).add (.cells (bv (bs ++ xs)) 5 (.vec 1)), ?_, by rw [St.get_add_eq (by rw [St.next_del'])], rfl, fun c hc hcb => by rw [St.get_add_ne (by rw [St.next_del']; exact hc), St.get_del_ne (hcb hne)]⟩
      rw [if_pos rfl, if_pos (by refine ⟨hl0, ?_⟩; simp [h2])]
      simp [h2]
    · refine ⟨σ.add (.cells (bv (bs ++ xs)) 5 (.vec 1)), ?_, by rw [St.get_add_eq rfl], rfl, fun c hc _ => St.get_add_ne hc⟩
      have hnu : bs.length ≠ unk := by unfold unk; omega
      rw [if_neg hnu, if_neg (by omega), if_pos (by simp [h2])]
      simp [h2]
      rw [List.take_of_length_le (by simp)]

/-- So many bytes of a number, the lowest first. -/
def low (v : Int) : Nat → List Int
  | 0 => []
  | n + 1 => low v n ++ [v / 256 ^ n % 256]
theorem low_length (v : Int) : ∀ n, (low v n).length = n
  | 0 => rfl
  | n + 1 => by simp [low, low_length v n]
theorem byt_low (v : Int) : ∀ n, Byt (low v n)
  | 0 => fun b hb => by cases hb
  | n + 1 => fun b hb => by
    rcases List.mem_append.1 hb with h | h
    · exact byt_low v n b h
    · rw [List.mem_singleton.1 h]; omega
theorem shr_u8 {v : Int} {i : Nat} (hv : 0 ≤ v) (hi : i < 8) : IntKind.u8.wrap (v / 2 ^ min ((8 * (i : Int))).toNat IntKind.u64.bits) = v / 256 ^ i % 256 := by
  have e1 : min ((8 * (i : Int))).toNat IntKind.u64.bits = 8 * i := by
    have : IntKind.u64.bits = 64 := rfl
    omega
  have e2 : (2 : Int) ^ (8 * i) = 256 ^ i := by rw [Int.pow_mul]; rfl
  rw [e1, e2]
  simp [IntKind.wrap, IntKind.bits, IntKind.signed]
theorem bs25 (a : Int) (dst : Option Tmp) (x : Operand) (ty : TypeId) (pos : String) (af : Array Edge) : allocA Tryz.prog (fun _ => .int .u8 a) ⟨dst, .buildSlice 25 1 #[(0, x)], ty, pos, af, none⟩ = some (.cells [.int .u8 a] 5 .ex, fun b => .slice (some ⟨b, 0, none⟩) 1 1) := by kernel_rfl

noncomputable def code20 : Code := match Tryz.f20.body with | some c => c | none => .skip
theorem code20_eq : Tryz.f20.body = some code20 := by kernel_rfl
theorem ok20 : fnOk Tryz.f20 = true := by kernel_rfl
set_option maxRecDepth 8000 in
theorem num20_con {σ : St} {cb b n : Nat} {v : Int} {sv : Value} {bs : List Int} {e : TypeId} (hc : σ.get cb = some (.cells [sv] e .ex)) (hcn : cb < σ.next) (hb : BX σ sv bs b) (hne : bs ≠ []) (hbn : b < σ.next ∧ b ≠ cb) (hv : 0 ≤ v) (hn : n ≤ 8) (hl : bs.length ≤ 1000) : Con Tryz.prog 20 [.int .u64 v, .int .i64 (n : Int), .pointer (some ⟨cb, 0, none⟩)] σ (fun r σ' => r = .tuple #[] ∧ ∃ sv' b', σ'.get cb = some (.cells [sv'] e .ex) ∧ BX σ' sv' (bs ++ low v n) b' ∧ (b' < σ'.next ∧ b' ≠ cb ∧ (b' = b ∨ σ.next ≤ b')) ∧ But σ σ' (fun x => x = cb ∨ x = b)) := by
  refine Con.of_goP (nt := 19) (rs := []) Tryz.func20 code20_eq ok20 rfl rfl (by simp) ?_
  have f0 : rdT 19 (fill .nil 0 [.int .u64 v, .int .i64 (n : Int), .pointer (some ⟨cb, 0, none⟩)]) 0 = .int .u64 v := rfl
  have f1 : rdT 19 (fill .nil 0 [.int .u64 v, .int .i64 (n : Int), .pointer (some ⟨cb, 0, none⟩)]) 1 = .int .i64 (n : Int) := rfl
  have f2 : rdT 19 (fill .nil 0 [.int .u64 v, .int .i64 (n : Int), .pointer (some ⟨cb, 0, none⟩)]) 2 = .pointer (some ⟨cb, 0, none⟩) := rfl
  generalize fill .nil 0 [.int .u64 v, .int .i64 (n : Int), .pointer (some ⟨cb, 0, none⟩)] = t at f0 f1 f2
  unfold code20 Tryz.f20
  repeat (refine GoP.seq ?_)
  refine GoP.name ?_
  rintro σ1 rfl
  refine GoP.region ?_ ?_
  · rfl
  refine OpsG.cons (o_move (by (try simp only [rdF, rd_none, rd_same, rd_ne, ne_eq, Nat.reduceEqDiff, not_false_eq_true, Nat.reduceLT, f0, f1, f2]) <;> rfl)) ?_
  refine OpsG.cons (o_move (by (try simp only [rdF, rd_none, rd_same, rd_ne, ne_eq, Nat.reduceEqDiff, not_false_eq_true, Nat.reduceLT, f0, f1, f2]) <;> rfl)) ?_
  refine OpsG.nil ?_
  repeat (refine GoP.seq ?_)
  refine GoP.block ?_
  repeat (refine GoP.seq ?_)
  refine GoP.loop (fun m t σ => ∃ (i b2 : Nat) (sv2 : Value), rdT 19 t 0 = .int .u64 v ∧ rdT 19 t 2 = .pointer (some ⟨cb, 0, none⟩) ∧ rdT 19 t 6 = .int .i64 (n : Int) ∧ rdT 19 t 7 = .int .i64 (i : Int) ∧ (i ≤ n) ∧ (σ.get cb = some (.cells [sv2] e .ex)) ∧ (BX σ sv2 (bs ++ low v i) b2) ∧ (b2 < σ.next ∧ b2 ≠ cb ∧ (b2 = b ∨ σ1.next ≤ b2)) ∧ (But σ1 σ (fun x => x = cb ∨ x = b)) ∧ m = n - i) ?_ (m := n) ?_
  ·
    rintro m t σ ⟨i, b2, sv2, g0, g2, g6, g7, hi, hc2, hb2, hbn2, hbut, rfl⟩
    repeat (refine GoP.seq ?_)
    refine GoP.region ?_ ?_
    · rfl
    refine OpsG.cons (o_bin (by (try simp only [rdF, rd_none, rd_same, rd_ne, ne_eq, Nat.reduceEqDiff, not_false_eq_true, Nat.reduceLT, g0, g2, g6, g7]) <;> rfl) (by (try simp only [rdF, rd_none, rd_same, rd_ne, ne_eq, Nat.reduceEqDiff, not_false_eq_true, Nat.reduceLT, g0, g2, g6, g7]) <;> rfl) binA_lss) ?_
    refine OpsG.nil ?_
    repeat (refine GoP.seq ?_)
    refine GoP.cond (by rfl) (by (try simp only [rdF, rd_none, rd_same, rd_ne, ne_eq, Nat.reduceEqDiff, not_false_eq_true, Nat.reduceLT, g0, g2, g6, g7]) <;> rfl) (fun hcc => ?_) (fun hcc => ?_)
    ·
      have hin : i < n := by have := of_decide_eq_true hcc; omega
      have hbyte := shr_u8 (i := i) hv (by omega)
      repeat (refine GoP.seq ?_)
      refine GoP.skip ?_
      repeat (refine GoP.seq ?_)
      refine GoP.block ?_
      repeat (refine GoP.seq ?_)
      refine GoP.region ?_ ?_
      · rfl
      refine OpsG.cons (o_move (by (try simp only [rdF, rd_none, rd_same, rd_ne, ne_eq, Nat.reduceEqDiff, not_false_eq_true, Nat.reduceLT, g0, g2, g6, g7]) <;> rfl)) ?_
      refine OpsG.cons (o_assign (by (try simp only [rdF, rd_none, rd_same, rd_ne, ne_eq, Nat.reduceEqDiff, not_false_eq_true, Nat.reduceLT, g0, g2, g6, g7]) <;> rfl)) ?_
      refine OpsG.nil ?_
      repeat (refine GoP.seq ?_)
      refine GoP.trim ?_
      rintro s hsk hsn hsw
      have hbx := hb2.keep (σ' := s) (fun _ => hsk b2 hbn2.1)
      have hcs : s.get cb = _ := (hsk cb (by have := hbut.next; omega)).trans hc2
      have hll : (bs ++ low v i).length ≤ 1008 := by rw [List.length_append, low_length]; omega
      have hb6 : BX ((s.room 9).at (s.next + 6) (.cells [.int .u8 (v / 256 ^ i % 256)] 5 .ex) (s.room 9).next) sv2 (bs ++ low v i) b2 := hbx.keep (fun _ => by have := hbn2.1; rw [St.get_at_ne (by omega), St.get_room])
      obtain ⟨σ2, hap, hg, hn2, hoth⟩ := hb6.append (nv := .slice (some ⟨s.next + 6, 0, none⟩) 1 1) (xs := [v / 256 ^ i % 256]) (newsA_one (St.get_at_eq rfl) rfl) (by simp) (by simp only [List.length_cons, List.length_nil]; omega)
      simp only [St.next_at, St.next_room, List.length_cons, List.length_nil, Nat.zero_add] at hap hg hn2 hoth
      have hcb2 : σ2.get cb = some (.cells [sv2] e .ex) := by rw [hoth cb (by have := hbut.next; omega) (fun _ => Ne.symm hbn2.2.1), St.get_at_ne (by have := hbut.next; omega), St.get_room]; exact hcs
      refine GoP.drawn (noK_ok _) mixed ?_ ?_ ?_
      · rfl
      · kernel_rfl
      refine TrP.cons (o_load (by (try simp only [rdF, rd_none, rd_same, rd_ne, ne_eq, Nat.reduceEqDiff, not_false_eq_true, Nat.reduceLT, g0, g2, g6, g7]) <;> rfl) (by (try simp (disch := omega) only [St.get_room, St.get_at_eq, St.get_at_ne, St.get_put_eq, St.get_put_ne, St.get_add_eq, St.get_add_ne, St.get_del_ne, St.next_at, St.next_put', St.next_room, St.next_add', St.next_del', hc2, hcs]) <;> rfl) (by rw [p_25]; rfl)) ?_
      refine TrP.cons (o_move (by (try simp only [rdF, rd_none, rd_same, rd_ne, ne_eq, Nat.reduceEqDiff, not_false_eq_true, Nat.reduceLT, g0, g2, g6, g7]) <;> rfl)) ?_
      refine TrP.cons (o_move (by (try simp only [rdF, rd_none, rd_same, rd_ne, ne_eq, Nat.reduceEqDiff, not_false_eq_true, Nat.reduceLT, g0, g2, g6, g7]) <;> rfl)) ?_
      refine TrP.cons (o_bin (by (try simp only [rdF, rd_none, rd_same, rd_ne, ne_eq, Nat.reduceEqDiff, not_false_eq_true, Nat.reduceLT, g0, g2, g6, g7]) <;> rfl) (by (try simp only [rdF, rd_none, rd_same, rd_ne, ne_eq, Nat.reduceEqDiff, not_false_eq_true, Nat.reduceLT, g0, g2, g6, g7]) <;> rfl) (by first | (refine b_mul64 ?_ ?_ <;> omega) | exact binA_mul)) ?_
      refine TrP.cons (o_bin (by (try simp only [rdF, rd_none, rd_same, rd_ne, ne_eq, Nat.reduceEqDiff, not_false_eq_true, Nat.reduceLT, g0, g2, g6, g7]) <;> rfl) (by (try simp only [rdF, rd_none, rd_same, rd_ne, ne_eq, Nat.reduceEqDiff, not_false_eq_true, Nat.reduceLT, g0, g2, g6, g7]) <;> rfl) (b_shr (by omega))) ?_
      refine TrP.cons (o_convert rfl (by (try simp only [rdF, rd_none, rd_same, rd_ne, ne_eq, Nat.reduceEqDiff, not_false_eq_true, Nat.reduceLT, g0, g2, g6, g7]) <;> rfl) ((cv_26_5 _).trans (congrArg (fun z => some (Value.int .u8 z)) hbyte))) ?_
      refine TrP.cons (o_makesOfD (fun _ => _) rfl (by intro x hx; have e : x = .tmp 15 := (by simpa [Op.operands] using hx); rw [e]; exact (by (try simp only [rdF, rd_none, rd_same, rd_ne, ne_eq, Nat.reduceEqDiff, not_false_eq_true, Nat.reduceLT, g0, g2, g6, g7]) <;> rfl)) (bs25 ..)) ?_
      refine TrP.cons (o_append (by (try simp only [List.map_cons, List.map_nil, rdF, rd_none, rd_same, rd_ne, ne_eq, Nat.reduceEqDiff, not_false_eq_true, Nat.reduceLT, g0, g2, g6, g7]) <;> rfl) hap) ?_
      refine TrP.cons (o_store (by (try simp only [rdF, rd_none, rd_same, rd_ne, ne_eq, Nat.reduceEqDiff, not_false_eq_true, Nat.reduceLT, g0, g2, g6, g7]) <;> rfl) (by (try simp only [rdF, rd_none, rd_same, rd_ne, ne_eq, Nat.reduceEqDiff, not_false_eq_true, Nat.reduceLT, g0, g2, g6, g7]) <;> rfl) hcb2 (by simp) s_25 (cl1 rfl) rfl rfl (by simp) (by simp only [splice, List.length_cons, List.length_nil, List.drop_succ_cons, List.drop_zero, List.take_zero, List.nil_append, List.cons_append, Nat.zero_add]; rfl)) ?_
      refine TrP.nil ⟨ChecksG.of (l1 := []) (l2 := [(6, 0)]) (by kernel_rfl) (by kernel_rfl) ?_ ?_, ?_⟩
      · all_goals (simp only [List.forall_mem_cons, List.not_mem_nil, false_implies, implies_true, and_true]; try trivial)
      · intro p hp; obtain rfl : p = (6, 0) := by simpa using hp
        exact hsw _ (by omega)
      repeat (refine GoP.seq ?_)
      refine GoP.name ?_
      rintro σ3 hσ3
      have e1 : bs ++ low v (i + 1) = (bs ++ low v i) ++ [v / 256 ^ i % 256] := by rw [low, List.append_assoc]
      have hbn0 := hbut.next
      have hg3 : σ3.get (s.next + 9) = some (.cells (bv (bs ++ low v (i + 1))) 5 (.vec 1)) := by rw [hσ3, St.get_put_ne (by omega), e1]; exact hg
      have hc3 : σ3.get cb = some (.cells [.slice (some ⟨s.next + 9, 0, none⟩) ((bs ++ low v i).length + 1) unk] e .ex) := by rw [hσ3, St.get_put_eq rfl]
      have hn3 : σ3.next = s.next + 10 := by rw [hσ3, St.next_put', hn2]
      have hb3 : But σ1 σ3 (fun x => x = cb ∨ x = b) := by
        refine ⟨fun c hc hs => ?_, by have := hbut.next; omega⟩
        have := hbut.next
        rw [hσ3, St.get_put_ne (fun h => hs (.inl h)), hoth c (by omega) (fun _ h2 => by have h1 := hbn2.2.2; exact hs (.inr (by omega))), St.get_at_ne (by omega), St.get_room, hsk c (by omega)]
        exact hbut.get c hc hs
      refine GoP.region ?_ ?_
      · rfl
      refine OpsG.cons (o_bin (by (try simp only [rdF, rd_none, rd_same, rd_ne, ne_eq, Nat.reduceEqDiff, not_false_eq_true, Nat.reduceLT, g0, g2, g6, g7]) <;> rfl) (by (try simp only [rdF, rd_none, rd_same, rd_ne, ne_eq, Nat.reduceEqDiff, not_false_eq_true, Nat.reduceLT, g0, g2, g6, g7]) <;> rfl) (by first | (refine b_add64 ?_ ?_ <;> omega) | exact binA_add)) ?_
      refine OpsG.cons (o_move (by (try simp only [rdF, rd_none, rd_same, rd_ne, ne_eq, Nat.reduceEqDiff, not_false_eq_true, Nat.reduceLT, g0, g2, g6, g7]) <;> rfl)) ?_
      refine OpsG.nil ?_
      refine ⟨_, ?_, i + 1, s.next + 9, .slice (some ⟨s.next + 9, 0, none⟩) ((bs ++ low v i).length + 1) unk, (by (try simp only [rdF, rd_none, rd_same, rd_ne, ne_eq, Nat.reduceEqDiff, not_false_eq_true, Nat.reduceLT, g0, g2, g6, g7]) <;> rfl), (by (try simp only [rdF, rd_none, rd_same, rd_ne, ne_eq, Nat.reduceEqDiff, not_false_eq_true, Nat.reduceLT, g0, g2, g6, g7]) <;> rfl), (by (try simp only [rdF, rd_none, rd_same, rd_ne, ne_eq, Nat.reduceEqDiff, not_false_eq_true, Nat.reduceLT, g0, g2, g6, g7]) <;> rfl), (by (try simp only [rdF, rd_none, rd_same, rd_ne, ne_eq, Nat.reduceEqDiff, not_false_eq_true, Nat.reduceLT, g0, g2, g6, g7]) <;> rfl), by omega, hc3, (.inr ⟨by simp [hne], unk, .vec 1, by rw [e1, show ((bs ++ low v i) ++ [v / 256 ^ i % 256]).length = (bs ++ low v i).length + 1 from List.length_append], hg3, .inl ⟨rfl, rfl⟩⟩), ⟨by omega, by have := hbut.next; omega, .inr (by have := hbut.next; omega)⟩, hb3, rfl⟩
      omega
    ·
      repeat (refine GoP.seq ?_)
      refine GoP.exit ?_
      refine Eq.mpr (if_pos rfl) ?_
      refine ⟨.inr rfl, [], ?_, ?_⟩
      · exact (by (try simp only [resAllF, resOneF, rdF, rd_none, rd_same, rd_ne, ne_eq, Nat.reduceEqDiff, not_false_eq_true, Nat.reduceLT, g0, g2, g6, g7]) <;> rfl)
      · have hin : i = n := by have := of_decide_eq_false hcc; omega
        subst hin
        exact ⟨rfl, sv2, b2, hc2, hb2, hbn2, hbut⟩
  ·
    exact ⟨0, b, sv, (by (try simp only [rdF, rd_none, rd_same, rd_ne, ne_eq, Nat.reduceEqDiff, not_false_eq_true, Nat.reduceLT, f0, f1, f2]) <;> rfl), (by (try simp only [rdF, rd_none, rd_same, rd_ne, ne_eq, Nat.reduceEqDiff, not_false_eq_true, Nat.reduceLT, f0, f1, f2]) <;> rfl), (by (try simp only [rdF, rd_none, rd_same, rd_ne, ne_eq, Nat.reduceEqDiff, not_false_eq_true, Nat.reduceLT, f0, f1, f2]) <;> rfl), (by (try simp only [rdF, rd_none, rd_same, rd_ne, ne_eq, Nat.reduceEqDiff, not_false_eq_true, Nat.reduceLT, f0, f1, f2]) <;> rfl), by omega, hc, (by simpa [low] using hb), ⟨hbn.1, hbn.2, .inl rfl⟩, But.refl _ _, rfl⟩
end Go.Proofs.YtfffmmgmjlfkoaaGreat
