/- PlayJoins -/
import Derived.Test.YtfffmmgmjlfkoaaGreatD16
import Derived.Test.YtfffmmgmjlfkoaaGreatD7
namespace Go.Proofs.YtfffmmgmjlfkoaaGreat
set_option linter.unusedSimpArgs false
set_option linter.unusedVariables false
open Go.As

theorem Bts.imp {S S' : Nat → Prop} {σ : St} {v : Value} {ys : List Int} (h : Bts S σ v ys) (hs : ∀ b, S b → S' b) : Bts S' σ v ys := by
  obtain ⟨a, c, h1, h2, h3⟩ := h
  refine ⟨a, c, h1, h2, fun hb => ?_⟩
  obtain ⟨b, off, cs, e, kd, h4, h5, h6⟩ := h3 hb
  exact ⟨b, off, cs, e, kd, h4, hs b h5, h6⟩
theorem blk_conv {P : Program} {base i : Nat} {ρ : Operand → Value} {dst : Option Tmp} {s d : TypeId} {x : Operand} {ty : TypeId} {pos : String} {af : Array Edge} {g : Option (Nat × Bool)} {v : Value} {q : Nat} (h : blkF P base i ρ ⟨dst, .convert s d x, ty, pos, af, g⟩ = some q) (hk : okind P ⟨dst, .convert s d x, ty, pos, af, g⟩ = .silent) (hv : ρ x = v) :
    readBlock (fun _ => v) ⟨none, .convert 25 9 (.tmp 0), 0, "", #[], none⟩ = some q := by
  unfold blkF at h
  rw [hk] at h
  simp only [readBlock, hv] at h ⊢
  exact h
theorem tAtF_s (x : TT × St) (l : TraceF) (t' : TT) (n : Nat) : tAtF (x :: l) t' (n + 1) = tAtF l t' n := rfl
theorem tAtF_z (x : TT × St) (l : TraceF) (t' : TT) : tAtF (x :: l) t' 0 = x.1 := rfl
theorem BX.block {σ : St} {v : Value} {ys : List Int} {b q : Nat} (h : BX σ v ys b) (hq : readBlock (fun _ => v) ⟨none, .convert 25 9 (.tmp 0), 0, "", #[], none⟩ = some q) : ys ≠ [] ∧ q = b := by
  rcases h with ⟨_, rfl⟩ | ⟨hne, c, kd, rfl, _⟩
  · cases hq
  · have hl0 : ys.length ≠ 0 := fun e => hne (List.eq_nil_of_length_eq_zero e)
    refine ⟨hne, ?_⟩
    simp only [readBlock, if_neg hl0] at hq
    exact (Option.some.inj hq).symm

noncomputable def code5 : Code := match Tryz.f5.body with | some c => c | none => .skip
theorem code5_eq : Tryz.f5.body = some code5 := by kernel_rfl
theorem ok5 : fnOk Tryz.f5 = true := by kernel_rfl
set_option maxRecDepth 20000 in
theorem playJoins_con {σ : St} {va vb : Value} {xs ys : List Int} (ha : Bts (· < σ.next) σ va xs) (hb : Bts (· < σ.next) σ vb ys) (hby : Byt xs) (hby2 : Byt ys) : Con Tryz.prog 5 [va, vb] σ (fun rv σ' => rv = .bool true) := by
  refine Con.of_goP (nt := 52) (rs := [.tmp 4]) Tryz.func5 code5_eq ok5 rfl rfl (by simp) ?_
  have f0 : rdT 52 (fill .nil 0 [va, vb]) 0 = va := rfl
  have f1 : rdT 52 (fill .nil 0 [va, vb]) 1 = vb := rfl
  generalize fill .nil 0 [va, vb] = t at f0 f1
  unfold code5 Tryz.f5
  repeat (refine GoP.seq ?_)
  have ha' := ha
  obtain ⟨aa, ac, rfl, -⟩ := ha'
  have hb' := hb
  obtain ⟨ba, bc, rfl, -⟩ := hb'
  refine GoP.name ?_
  rintro σ1 rfl
  refine GoP.region ?_ ?_
  · rfl
  refine OpsG.cons (o_assign (by (try simp only [rdF, rd_none, rd_same, rd_ne, ne_eq, Nat.reduceEqDiff, not_false_eq_true, Nat.reduceLT, f0, f1]) <;> rfl)) ?_
  refine OpsG.nil ?_
  repeat (refine GoP.seq ?_)
  refine GoP.region ?_ ?_
  · rfl
  refine OpsG.call (by (try simp only [List.map_cons, List.map_nil, rdF, rd_none, rd_same, rd_ne, ne_eq, Nat.reduceEqDiff, not_false_eq_true, Nat.reduceLT, f0, f1]) <;> rfl) (Con.of_calls (begun_ok _)) ?_
  rintro v' σ' ⟨rfl, rfl⟩
  refine OpsG.cons (o_un (by (try simp only [rdF, rd_none, rd_same, rd_ne, ne_eq, Nat.reduceEqDiff, not_false_eq_true, Nat.reduceLT, f0, f1]) <;> rfl) un_not) ?_
  refine OpsG.nil ?_
  repeat (refine GoP.seq ?_)
  refine GoP.cond_false (by rfl) (by (try simp only [rdF, rd_none, rd_same, rd_ne, ne_eq, Nat.reduceEqDiff, not_false_eq_true, Nat.reduceLT, f0, f1]) <;> rfl) ?_
  repeat (refine GoP.seq ?_)
  refine GoP.skip ?_
  repeat (refine GoP.seq ?_)
  refine GoP.region ?_ ?_
  · rfl
  refine OpsG.cons (o_move (by (try simp only [rdF, rd_none, rd_same, rd_ne, ne_eq, Nat.reduceEqDiff, not_false_eq_true, Nat.reduceLT, f0, f1]) <;> rfl)) ?_
  refine OpsG.cons (o_builtin rfl (by (try simp only [List.map_cons, List.map_nil, rdF, rd_none, rd_same, rd_ne, ne_eq, Nat.reduceEqDiff, not_false_eq_true, Nat.reduceLT, f0, f1]) <;> rfl) (len_25 ..)) ?_
  refine OpsG.cons (o_bin (by (try simp only [rdF, rd_none, rd_same, rd_ne, ne_eq, Nat.reduceEqDiff, not_false_eq_true, Nat.reduceLT, f0, f1]) <;> rfl) (by (try simp only [rdF, rd_none, rd_same, rd_ne, ne_eq, Nat.reduceEqDiff, not_false_eq_true, Nat.reduceLT, f0, f1]) <;> rfl) binA_gtr) ?_
  refine OpsG.cons (o_move (by (try simp only [rdF, rd_none, rd_same, rd_ne, ne_eq, Nat.reduceEqDiff, not_false_eq_true, Nat.reduceLT, f0, f1]) <;> rfl)) ?_
  refine OpsG.split (d := 15) (by (try simp only [rdF, rd_none, rd_same, rd_ne, ne_eq, Nat.reduceEqDiff, not_false_eq_true, Nat.reduceLT, f0, f1]) <;> rfl) (fun h1 h1v => ?_) (fun h1 h1v => ?_)
  ·
    refine OpsG.skip (by rfl) (by rfl) (by (try simp only [rdF, rd_none, rd_same, rd_ne, ne_eq, Nat.reduceEqDiff, not_false_eq_true, Nat.reduceLT, f0, f1, h1v]) <;> rfl) ?_
    refine OpsG.skip (by rfl) (by rfl) (by (try simp only [rdF, rd_none, rd_same, rd_ne, ne_eq, Nat.reduceEqDiff, not_false_eq_true, Nat.reduceLT, f0, f1, h1v]) <;> rfl) ?_
    refine OpsG.skip (by rfl) (by rfl) (by (try simp only [rdF, rd_none, rd_same, rd_ne, ne_eq, Nat.reduceEqDiff, not_false_eq_true, Nat.reduceLT, f0, f1, h1v]) <;> rfl) ?_
    refine OpsG.cons (o_pickT (by (try simp only [rdF, rd_none, rd_same, rd_ne, ne_eq, Nat.reduceEqDiff, not_false_eq_true, Nat.reduceLT, f0, f1, h1v]) <;> rfl) (by (try simp only [rdF, rd_none, rd_same, rd_ne, ne_eq, Nat.reduceEqDiff, not_false_eq_true, Nat.reduceLT, f0, f1, h1v]) <;> rfl)) ?_
    refine OpsG.nil ?_
    repeat (refine GoP.seq ?_)
    refine GoP.cond_true (by rfl) (by (try simp only [rdF, rd_none, rd_same, rd_ne, ne_eq, Nat.reduceEqDiff, not_false_eq_true, Nat.reduceLT, f0, f1, h1v]) <;> rfl) ?_
    repeat (refine GoP.seq ?_)
    refine GoP.region ?_ ?_
    · rfl
    refine OpsG.cons (o_assign (by (try simp only [rdF, rd_none, rd_same, rd_ne, ne_eq, Nat.reduceEqDiff, not_false_eq_true, Nat.reduceLT, f0, f1, h1v]) <;> rfl)) ?_
    refine OpsG.nil ?_
    repeat (refine GoP.seq ?_)
    refine GoP.ret ?_
    refine ⟨.inl rfl, [.bool true], ?_, ?_⟩
    · exact (by (try simp only [resAllF, resOneF, rdF, rd_none, rd_same, rd_ne, ne_eq, Nat.reduceEqDiff, not_false_eq_true, Nat.reduceLT, f0, f1, h1v]) <;> rfl)
    · rfl
  ·
    refine OpsG.want (by rfl) (by rfl) (by (try simp only [rdF, rd_none, rd_same, rd_ne, ne_eq, Nat.reduceEqDiff, not_false_eq_true, Nat.reduceLT, f0, f1, h1v]) <;> rfl) (o_move (by (try simp only [rdF, rd_none, rd_same, rd_ne, ne_eq, Nat.reduceEqDiff, not_false_eq_true, Nat.reduceLT, f0, f1, h1v]) <;> rfl)) ?_
    refine OpsG.want (by rfl) (by rfl) (by (try simp only [rdF, rd_none, rd_same, rd_ne, ne_eq, Nat.reduceEqDiff, not_false_eq_true, Nat.reduceLT, f0, f1, h1v]) <;> rfl) (o_builtin rfl (by (try simp only [List.map_cons, List.map_nil, rdF, rd_none, rd_same, rd_ne, ne_eq, Nat.reduceEqDiff, not_false_eq_true, Nat.reduceLT, f0, f1, h1v]) <;> rfl) (len_25 ..)) ?_
    refine OpsG.want (by rfl) (by rfl) (by (try simp only [rdF, rd_none, rd_same, rd_ne, ne_eq, Nat.reduceEqDiff, not_false_eq_true, Nat.reduceLT, f0, f1, h1v]) <;> rfl) (o_bin (by (try simp only [rdF, rd_none, rd_same, rd_ne, ne_eq, Nat.reduceEqDiff, not_false_eq_true, Nat.reduceLT, f0, f1, h1v]) <;> rfl) (by (try simp only [rdF, rd_none, rd_same, rd_ne, ne_eq, Nat.reduceEqDiff, not_false_eq_true, Nat.reduceLT, f0, f1, h1v]) <;> rfl) binA_gtr) ?_
    refine OpsG.cons (o_pickF (by (try simp only [rdF, rd_none, rd_same, rd_ne, ne_eq, Nat.reduceEqDiff, not_false_eq_true, Nat.reduceLT, f0, f1, h1v]) <;> rfl) (by (try simp only [rdF, rd_none, rd_same, rd_ne, ne_eq, Nat.reduceEqDiff, not_false_eq_true, Nat.reduceLT, f0, f1, h1v]) <;> rfl)) ?_
    refine OpsG.nil ?_
    repeat (refine GoP.seq ?_)
    refine GoP.cond (by rfl) (by (try simp only [rdF, rd_none, rd_same, rd_ne, ne_eq, Nat.reduceEqDiff, not_false_eq_true, Nat.reduceLT, f0, f1, h1v]) <;> rfl) (fun h2 => ?_) (fun h2 => ?_)
    ·
      repeat (refine GoP.seq ?_)
      refine GoP.region ?_ ?_
      · rfl
      refine OpsG.cons (o_assign (by (try simp only [rdF, rd_none, rd_same, rd_ne, ne_eq, Nat.reduceEqDiff, not_false_eq_true, Nat.reduceLT, f0, f1, h1v]) <;> rfl)) ?_
      refine OpsG.nil ?_
      repeat (refine GoP.seq ?_)
      refine GoP.ret ?_
      refine ⟨.inl rfl, [.bool true], ?_, ?_⟩
      · exact (by (try simp only [resAllF, resOneF, rdF, rd_none, rd_same, rd_ne, ne_eq, Nat.reduceEqDiff, not_false_eq_true, Nat.reduceLT, f0, f1, h1v]) <;> rfl)
      · rfl
    ·
      have ha1 : xs.length ≤ 100 := by have := of_decide_eq_false h1; omega
      have hb1 : ys.length ≤ 100 := by have := of_decide_eq_false h2; omega
      repeat (refine GoP.seq ?_)
      refine GoP.skip ?_
      repeat (refine GoP.seq ?_)
      refine GoP.region ?_ ?_
      · rfl
      refine OpsG.cons (o_move (by (try simp only [rdF, rd_none, rd_same, rd_ne, ne_eq, Nat.reduceEqDiff, not_false_eq_true, Nat.reduceLT, f0, f1, h1v]) <;> rfl)) ?_
      refine OpsG.call (by (try simp only [List.map_cons, List.map_nil, rdF, rd_none, rd_same, rd_ne, ne_eq, Nat.reduceEqDiff, not_false_eq_true, Nat.reduceLT, f0, f1, h1v]) <;> rfl) (decode_con ha hby (by omega)) ?_
      rintro rvl σ2 ⟨bl, hrl, hbl, hbln⟩
      have hn2 := hbl.next
      refine OpsG.cons (o_move (by (try simp only [rdF, rd_none, rd_same, rd_ne, ne_eq, Nat.reduceEqDiff, not_false_eq_true, Nat.reduceLT, f0, f1, h1v]) <;> rfl)) ?_
      refine OpsG.call (by (try simp only [List.map_cons, List.map_nil, rdF, rd_none, rd_same, rd_ne, ne_eq, Nat.reduceEqDiff, not_false_eq_true, Nat.reduceLT, f0, f1, h1v]) <;> rfl) (decode_con ((hb.keep (fun b hb => hbl.get b hb id)).imp (fun b hb => Nat.lt_of_lt_of_le hb hn2)) hby2 (by omega)) ?_
      rintro rvm σ3 ⟨bm, hrm, hbm, hbmn⟩
      have hn3 := hbm.next
      have hL0 := decS_ok xs.length xs (Nat.le_refl _) hby
      have hM0 := decS_ok ys.length ys (Nat.le_refl _) hby2
      have hLl := decS_length xs.length xs (Nat.le_refl _)
      have hMl := decS_length ys.length ys (Nat.le_refl _)
      generalize decS xs = L at hrl hbln hL0 hLl
      generalize decS ys = M at hrm hbmn hM0 hMl
      have hbl3 : L ≠ [] → bl < σ3.next := fun hne => by have := (hbln (by simpa using hne)).2; omega
      have hbm3 : M ≠ [] → bm < σ3.next := fun hne => (hbmn (by simpa using hne)).2
      have hrl3 : RowN σ3 30 14 rvl (L.map Stp.cells) bl := hrl.keep (fun hne => hbm.get bl (hbln hne).2 id)
      refine OpsG.cons (o_assign (by (try simp only [rdF, rd_none, rd_same, rd_ne, ne_eq, Nat.reduceEqDiff, not_false_eq_true, Nat.reduceLT, f0, f1, h1v]) <;> rfl)) ?_
      refine OpsG.cons (o_assign (by (try simp only [rdF, rd_none, rd_same, rd_ne, ne_eq, Nat.reduceEqDiff, not_false_eq_true, Nat.reduceLT, f0, f1, h1v]) <;> rfl)) ?_
      refine OpsG.nil ?_
      repeat (refine GoP.seq ?_)
      refine GoP.region ?_ ?_
      · rfl
      refine OpsG.cons (o_makesOf _ rfl (fun _ _ => rfl) (bs23_0 ..)) ?_
      refine OpsG.cons (o_move (by (try simp only [rdF, rd_none, rd_same, rd_ne, ne_eq, Nat.reduceEqDiff, not_false_eq_true, Nat.reduceLT, f0, f1, h1v]) <;> rfl)) ?_
      refine OpsG.name ?_
      rintro σ4 hσ4
      have hn4 : σ4.next = σ3.next + 1 := by rw [hσ4, St.next_at]
      have hg4 : σ4.get σ3.next = some (.cells [] 30 .ex) := by rw [hσ4, St.get_at_eq rfl]
      have hk4 : ∀ q, q < σ3.next → σ4.get q = σ3.get q := fun q hq => by rw [hσ4, St.get_at_ne (by omega)]
      have hrl4 := hrl3.keep (σ' := σ4) (fun hne => hk4 bl (hbl3 (by simpa using hne)))
      have hrm4 := hrm.keep (σ' := σ4) (fun hne => hk4 bm (hbm3 (by simpa using hne)))
      obtain ⟨v1, σ5, vall, σ6, b2, hap1, hap2, hj, hn6, hb6, hb26, hk6⟩ := join_steps hg4 (by omega) hrl4 hrm4 hbl3 hbm3 hL0 hM0 (by omega)
      have hrl6 := hrl4.keep (σ' := σ6) (fun hne => hk6 bl (hbl3 (by simpa using hne)))
      have hrm6 := hrm4.keep (σ' := σ6) (fun hne => hk6 bm (hbm3 (by simpa using hne)))
      refine OpsG.cons (o_append (by (try simp only [List.map_cons, List.map_nil, rdF, rd_none, rd_same, rd_ne, ne_eq, Nat.reduceEqDiff, not_false_eq_true, Nat.reduceLT, f0, f1, h1v]) <;> rfl) hap1) ?_
      refine OpsG.cons (o_move (by (try simp only [rdF, rd_none, rd_same, rd_ne, ne_eq, Nat.reduceEqDiff, not_false_eq_true, Nat.reduceLT, f0, f1, h1v]) <;> rfl)) ?_
      refine OpsG.cons (o_append (by (try simp only [List.map_cons, List.map_nil, rdF, rd_none, rd_same, rd_ne, ne_eq, Nat.reduceEqDiff, not_false_eq_true, Nat.reduceLT, f0, f1, h1v]) <;> rfl) hap2) ?_
      refine OpsG.cons (o_assign (by (try simp only [rdF, rd_none, rd_same, rd_ne, ne_eq, Nat.reduceEqDiff, not_false_eq_true, Nat.reduceLT, f0, f1, h1v]) <;> rfl)) ?_
      refine OpsG.nil ?_
      repeat (refine GoP.seq ?_)
      refine GoP.region ?_ ?_
      · rfl
      refine OpsG.cons (o_move (by (try simp only [rdF, rd_none, rd_same, rd_ne, ne_eq, Nat.reduceEqDiff, not_false_eq_true, Nat.reduceLT, f0, f1, h1v]) <;> rfl)) ?_
      refine OpsG.call (by (try simp only [List.map_cons, List.map_nil, rdF, rd_none, rd_same, rd_ne, ne_eq, Nat.reduceEqDiff, not_false_eq_true, Nat.reduceLT, f0, f1, h1v]) <;> rfl) (enc_con (StA.of_row hrl6 (fun hne => by have := hbl3 hne; omega)) hL0 (by omega)) ?_
      rintro rvx σ7 ⟨bx, hbx, hbutx, hbxn⟩
      have hn7 := hbutx.next
      have hrm7 := hrm6.keep (σ' := σ7) (fun hne => hbutx.get bm (by have := hbm3 (by simpa using hne); omega) id)
      refine OpsG.cons (o_move (by (try simp only [rdF, rd_none, rd_same, rd_ne, ne_eq, Nat.reduceEqDiff, not_false_eq_true, Nat.reduceLT, f0, f1, h1v]) <;> rfl)) ?_
      refine OpsG.call (by (try simp only [List.map_cons, List.map_nil, rdF, rd_none, rd_same, rd_ne, ne_eq, Nat.reduceEqDiff, not_false_eq_true, Nat.reduceLT, f0, f1, h1v]) <;> rfl) (enc_con (StA.of_row hrm7 (fun hne => by have := hbm3 hne; omega)) hM0 (by omega)) ?_
      rintro rvy σ8 ⟨b9, hb9, hbuty, hbyn⟩
      have hn8 := hbuty.next
      refine OpsG.cons (o_assign (by (try simp only [rdF, rd_none, rd_same, rd_ne, ne_eq, Nat.reduceEqDiff, not_false_eq_true, Nat.reduceLT, f0, f1, h1v]) <;> rfl)) ?_
      refine OpsG.cons (o_assign (by (try simp only [rdF, rd_none, rd_same, rd_ne, ne_eq, Nat.reduceEqDiff, not_false_eq_true, Nat.reduceLT, f0, f1, h1v]) <;> rfl)) ?_
      refine OpsG.nil ?_
      repeat (refine GoP.seq ?_)
      refine GoP.trim ?_
      rintro s hsk hsn hsw
      have hbx8 := hbx.keep (σ' := σ8) (fun hne => hbuty.get bx (hbxn hne).2 id)
      have hxlt : encS L ≠ [] → bx < s.next := fun hne => by have := (hbxn hne).2; omega
      have hylt : encS M ≠ [] → b9 < s.next := fun hne => by have := (hbyn hne).2; omega
      have hxs : BX ((s.room 20).at (s.next + 0) (.cells [] 5 .ex) (s.room 20).next) rvx (encS L) bx := hbx8.keep (fun hne => by have := hxlt hne; rw [St.get_at_ne (by omega), St.get_room]; exact hsk bx (by omega))
      have hys : BX ((s.room 20).at (s.next + 0) (.cells [] 5 .ex) (s.room 20).next) rvy (encS M) b9 := hb9.keep (fun hne => by have := hylt hne; rw [St.get_at_ne (by omega), St.get_room]; exact hsk b9 (by omega))
      have hlx := enc_length hL0
      have hly := enc_length hM0
      obtain ⟨v3, σa, v4, σb, b3, hap3, hap4, hj8, hnb, hb3b, hb3g, hk8⟩ := join_bytes (σ := ((s.room 20).at (s.next + 0) (.cells [] 5 .ex) (s.room 20).next)) (b := s.next + 0) (St.get_at_eq rfl) (by simp only [St.next_at, St.next_room]; omega) hxs hys (fun hne => by have := hylt hne; omega) (by omega)
      simp only [St.next_at, St.next_room] at hnb
      have hLM : ∀ q ∈ L ++ M, q.ok := fun q hq => (List.mem_append.1 hq).elim (hL0 q) (hM0 q)
      have hde : decS (encS L ++ encS M) = L ++ M := by have := dec_enc (L ++ M) hLM []; rw [decS_nil, List.append_nil, List.append_nil, encS_append] at this; exact this
      have hbyt : Byt (encS L ++ encS M) := by rw [← encS_append]; exact byt_enc hLM
      obtain ⟨rvd, σc, hcd, bd, hrd, hbutd, hbdn⟩ := decode_con (hj8.bts (S := (· < σb.next)) hb3b) hbyt (by rw [List.length_append]; omega)
      rw [hde] at hrd hbdn
      have hnc := hbutd.next
      have hb2c : σc.get b2 = σ6.get b2 := by
        rw [hbutd.get b2 (by omega) id, hk8 b2 (by omega), St.get_at_ne (by omega), St.get_room, hsk b2 (by omega), hbuty.get b2 (by omega) id, hbutx.get b2 hb6 id]
      have hjc := hj.keep (σ' := σc) hb2c
      obtain ⟨rvs, σd, hcs, rfl, hbuts⟩ := same_con (S := fun _ => True) (S2 := fun _ => True) (StA.of_row hrd (fun _ => trivial)) (hjc.sta trivial hLM) hLM (by rw [List.length_append]; omega)
      have hnd := hbuts.next
      have hjd := hjc.keep (σ' := σd) (hbuts.get b2 (by omega) id)
      obtain ⟨rve, σe, hce, be, hbe, hbute, hben⟩ := enc_con (hjd.sta (S := (· < σd.next)) (by show b2 < σd.next; omega) hLM) hLM (by rw [List.length_append]; omega)
      have hold : ∀ q, q < s.next → σe.get q = σ8.get q := by
        intro q hq
        rw [hbute.get q (by omega) id, hbuts.get q (by omega) id, hbutd.get q (by omega) id, hk8 q (by omega), St.get_at_ne (by omega), St.get_room, hsk q (by omega)]
      have hxe := hbx8.keep (σ' := σe) (fun hne => hold bx (hxlt hne))
      have hye := hb9.keep (σ' := σe) (fun hne => hold b9 (hylt hne))
      have hstrE : convA Tryz.prog σe.get 25 9 rve = some (.string (strOf (encS L) ++ strOf (encS M))) := by rw [← strOf_append, ← encS_append]; exact hbe.str
      have hqx : ∀ q, readBlock (fun _ => rvx) ⟨none, .convert 25 9 (.tmp 0), 0, "", #[], none⟩ = some q → σd.get q = σe.get q := fun q hq => by obtain ⟨hne, rfl⟩ := hbx8.block hq; exact (hbute.get _ (by have := hxlt hne; omega) id).symm
      have hqy : ∀ q, readBlock (fun _ => rvy) ⟨none, .convert 25 9 (.tmp 0), 0, "", #[], none⟩ = some q → σd.get q = σe.get q := fun q hq => by obtain ⟨hne, rfl⟩ := hb9.block hq; exact (hbute.get _ (by have := hylt hne; omega) id).symm
      refine GoP.drawn (kTwo_ok (kOne_ok hcd) (kTwo_ok (kOne_ok hcs) (kOne_ok hce))) mixed ?_ ?_ ?_
      · rfl
      · kernel_rfl
      refine TrP.cons (o_makesOfD _ rfl (fun _ _ => rfl) (bs25_0 ..)) ?_
      refine TrP.cons (o_move (by (try simp only [rdF, rd_none, rd_same, rd_ne, ne_eq, Nat.reduceEqDiff, not_false_eq_true, Nat.reduceLT, f0, f1, h1v]) <;> rfl)) ?_
      refine TrP.cons (o_append (by (try simp only [List.map_cons, List.map_nil, rdF, rd_none, rd_same, rd_ne, ne_eq, Nat.reduceEqDiff, not_false_eq_true, Nat.reduceLT, f0, f1, h1v]) <;> rfl) hap3) ?_
      refine TrP.cons (o_move (by (try simp only [rdF, rd_none, rd_same, rd_ne, ne_eq, Nat.reduceEqDiff, not_false_eq_true, Nat.reduceLT, f0, f1, h1v]) <;> rfl)) ?_
      refine TrP.cons (o_append (by (try simp only [List.map_cons, List.map_nil, rdF, rd_none, rd_same, rd_ne, ne_eq, Nat.reduceEqDiff, not_false_eq_true, Nat.reduceLT, f0, f1, h1v]) <;> rfl) hap4) ?_
      refine TrP.cons (o_call0 rfl (by (try simp only [List.map_cons, List.map_nil, rdF, rd_none, rd_same, rd_ne, ne_eq, Nat.reduceEqDiff, not_false_eq_true, Nat.reduceLT, f0, f1, h1v]) <;> rfl) (kTwo_fst kOne_at)) ?_
      refine TrP.cons (o_move (by (try simp only [rdF, rd_none, rd_same, rd_ne, ne_eq, Nat.reduceEqDiff, not_false_eq_true, Nat.reduceLT, f0, f1, h1v]) <;> rfl)) ?_
      refine TrP.cons (o_call0 rfl (by (try simp only [List.map_cons, List.map_nil, rdF, rd_none, rd_same, rd_ne, ne_eq, Nat.reduceEqDiff, not_false_eq_true, Nat.reduceLT, f0, f1, h1v]) <;> rfl) (kTwo_snd (by decide) (kTwo_fst kOne_at))) ?_
      refine TrP.cons (o_move (by (try simp only [rdF, rd_none, rd_same, rd_ne, ne_eq, Nat.reduceEqDiff, not_false_eq_true, Nat.reduceLT, f0, f1, h1v]) <;> rfl)) ?_
      refine TrP.want (by rfl) (by rfl) (by (try simp only [rdF, rd_none, rd_same, rd_ne, ne_eq, Nat.reduceEqDiff, not_false_eq_true, Nat.reduceLT, f0, f1, h1v]) <;> rfl) (o_move (by (try simp only [rdF, rd_none, rd_same, rd_ne, ne_eq, Nat.reduceEqDiff, not_false_eq_true, Nat.reduceLT, f0, f1, h1v]) <;> rfl)) ?_
      refine TrP.want (by rfl) (by rfl) (by (try simp only [rdF, rd_none, rd_same, rd_ne, ne_eq, Nat.reduceEqDiff, not_false_eq_true, Nat.reduceLT, f0, f1, h1v]) <;> rfl) (o_call0 rfl (by (try simp only [List.map_cons, List.map_nil, rdF, rd_none, rd_same, rd_ne, ne_eq, Nat.reduceEqDiff, not_false_eq_true, Nat.reduceLT, f0, f1, h1v]) <;> rfl) (kTwo_snd (by decide) (kTwo_snd (by decide) kOne_at))) ?_
      refine TrP.want (by rfl) (by rfl) (by (try simp only [rdF, rd_none, rd_same, rd_ne, ne_eq, Nat.reduceEqDiff, not_false_eq_true, Nat.reduceLT, f0, f1, h1v]) <;> rfl) (o_convert rfl (by (try simp only [rdF, rd_none, rd_same, rd_ne, ne_eq, Nat.reduceEqDiff, not_false_eq_true, Nat.reduceLT, f0, f1, h1v]) <;> rfl) hstrE) ?_
      refine TrP.want (by rfl) (by rfl) (by (try simp only [rdF, rd_none, rd_same, rd_ne, ne_eq, Nat.reduceEqDiff, not_false_eq_true, Nat.reduceLT, f0, f1, h1v]) <;> rfl) (o_move (by (try simp only [rdF, rd_none, rd_same, rd_ne, ne_eq, Nat.reduceEqDiff, not_false_eq_true, Nat.reduceLT, f0, f1, h1v]) <;> rfl)) ?_
      refine TrP.want (by rfl) (by rfl) (by (try simp only [rdF, rd_none, rd_same, rd_ne, ne_eq, Nat.reduceEqDiff, not_false_eq_true, Nat.reduceLT, f0, f1, h1v]) <;> rfl) (o_convert rfl (by (try simp only [rdF, rd_none, rd_same, rd_ne, ne_eq, Nat.reduceEqDiff, not_false_eq_true, Nat.reduceLT, f0, f1, h1v]) <;> rfl) hxe.str) ?_
      refine TrP.want (by rfl) (by rfl) (by (try simp only [rdF, rd_none, rd_same, rd_ne, ne_eq, Nat.reduceEqDiff, not_false_eq_true, Nat.reduceLT, f0, f1, h1v]) <;> rfl) (o_move (by (try simp only [rdF, rd_none, rd_same, rd_ne, ne_eq, Nat.reduceEqDiff, not_false_eq_true, Nat.reduceLT, f0, f1, h1v]) <;> rfl)) ?_
      refine TrP.want (by rfl) (by rfl) (by (try simp only [rdF, rd_none, rd_same, rd_ne, ne_eq, Nat.reduceEqDiff, not_false_eq_true, Nat.reduceLT, f0, f1, h1v]) <;> rfl) (o_convert rfl (by (try simp only [rdF, rd_none, rd_same, rd_ne, ne_eq, Nat.reduceEqDiff, not_false_eq_true, Nat.reduceLT, f0, f1, h1v]) <;> rfl) hye.str) ?_
      refine TrP.want (by rfl) (by rfl) (by (try simp only [rdF, rd_none, rd_same, rd_ne, ne_eq, Nat.reduceEqDiff, not_false_eq_true, Nat.reduceLT, f0, f1, h1v]) <;> rfl) (o_bin (by (try simp only [rdF, rd_none, rd_same, rd_ne, ne_eq, Nat.reduceEqDiff, not_false_eq_true, Nat.reduceLT, f0, f1, h1v]) <;> rfl) (by (try simp only [rdF, rd_none, rd_same, rd_ne, ne_eq, Nat.reduceEqDiff, not_false_eq_true, Nat.reduceLT, f0, f1, h1v]) <;> rfl) (sadd (by rw [strOf_size, strOf_size]; omega))) ?_
      refine TrP.want (by rfl) (by rfl) (by (try simp only [rdF, rd_none, rd_same, rd_ne, ne_eq, Nat.reduceEqDiff, not_false_eq_true, Nat.reduceLT, f0, f1, h1v]) <;> rfl) (o_bin (by (try simp only [rdF, rd_none, rd_same, rd_ne, ne_eq, Nat.reduceEqDiff, not_false_eq_true, Nat.reduceLT, f0, f1, h1v]) <;> rfl) (by (try simp only [rdF, rd_none, rd_same, rd_ne, ne_eq, Nat.reduceEqDiff, not_false_eq_true, Nat.reduceLT, f0, f1, h1v]) <;> rfl) seql) ?_
      refine TrP.cons (o_pickT (by (try simp only [rdF, rd_none, rd_same, rd_ne, ne_eq, Nat.reduceEqDiff, not_false_eq_true, Nat.reduceLT, f0, f1, h1v]) <;> rfl) (by (try simp only [rdF, rd_none, rd_same, rd_ne, ne_eq, Nat.reduceEqDiff, not_false_eq_true, Nat.reduceLT, f0, f1, h1v]) <;> rfl)) ?_
      refine TrP.cons (o_assign (by (try simp only [rdF, rd_none, rd_same, rd_ne, ne_eq, Nat.reduceEqDiff, not_false_eq_true, Nat.reduceLT, f0, f1, h1v]) <;> rfl)) ?_
      refine TrP.nil ⟨ChecksG.of (l1 := [(13, 10), (15, 10)]) (l2 := [(0, 0)]) (by kernel_rfl) (by kernel_rfl) ?_ ?_, ?_⟩
      · intro p hp
        rcases (by simpa using hp : p = (13, 10) ∨ p = (15, 10)) with rfl | rfl
        · refine fun _ q hq => hqx q (blk_conv hq rfl ?_)
          change rdF 52 (tAtF _ _ 13) _ = _
          simp only [tAtF_s, tAtF_z, rdF, rd_none, rd_same, rd_ne, ne_eq, Nat.reduceEqDiff, not_false_eq_true, Nat.reduceLT]
        · refine fun _ q hq => hqy q (blk_conv hq rfl ?_)
          change rdF 52 (tAtF _ _ 15) _ = _
          simp only [tAtF_s, tAtF_z, rdF, rd_none, rd_same, rd_ne, ne_eq, Nat.reduceEqDiff, not_false_eq_true, Nat.reduceLT]
      · intro p hp; obtain rfl : p = (0, 0) := by simpa using hp
        exact hsw _ (by omega)
      repeat (refine GoP.seq ?_)
      refine GoP.ret ?_
      refine ⟨.inl rfl, [.bool true], ?_, ?_⟩
      · exact (by (try simp only [resAllF, resOneF, rdF, rd_none, rd_same, rd_ne, ne_eq, Nat.reduceEqDiff, not_false_eq_true, Nat.reduceLT, f0, f1, h1v]) <;> rfl)
      · rfl
end Go.Proofs.YtfffmmgmjlfkoaaGreat
