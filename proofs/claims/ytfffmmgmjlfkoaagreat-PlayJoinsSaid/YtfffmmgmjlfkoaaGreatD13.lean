/- What bytes say of steps that were said by bytes. -/
import Derived.Test.YtfffmmgmjlfkoaaGreatD12
import Derived.Test.YtfffmmgmjlfkoaaGreatA38
namespace Go.Proofs.YtfffmmgmjlfkoaaGreat
set_option linter.unusedSimpArgs false
set_option linter.unusedVariables false
open Go.As

theorem le_low1 {v : Int} (h : 0 ≤ v ∧ v < 256) : le (low v 1) = v := by
  simp only [low, le, List.nil_append, Int.pow_zero, Int.ediv_one]
  omega
theorem le_low2 {v : Int} (h : 0 ≤ v ∧ v < 65536) : le (low v 2) = v := by
  simp only [low, le, List.nil_append, List.cons_append, Int.pow_zero, Int.ediv_one, Int.reducePow, Int.pow_succ, Int.one_mul]
  omega
theorem le_low8 {v : Int} (h : u64r v) : le (low v 8) = v := by
  obtain ⟨h0, h1⟩ := h
  simp only [low, le, List.nil_append, List.cons_append, Int.pow_zero, Int.ediv_one, Int.reducePow, Int.pow_succ, Int.one_mul, Int.reduceMul]
  omega

theorem rnV_app {n : Nat} {l r : List Int} (h : l.length = n) : rnV n (l ++ r) = le l := by
  unfold rnV
  rw [if_pos (by rw [List.length_append]; omega), List.take_append_of_le_length (by omega), List.take_of_length_le (by omega)]
theorem rnV_one (b : Int) (t : List Int) : rnV 1 (b :: t) = b := by
  simp [rnV, le]

theorem drop_lows : ∀ (i : Nat) (r rest : List Int), i ≤ r.length → ((r.map (low · 8)).flatten ++ rest).drop (8 * i) = ((r.drop i).map (low · 8)).flatten ++ rest
  | 0, r, rest, _ => by simp
  | i + 1, [], rest, h => by simp at h
  | i + 1, v :: r, rest, h => by
    rw [List.map_cons, List.flatten_cons, List.append_assoc, show 8 * (i + 1) = 8 + 8 * i by omega, ← List.drop_drop, List.drop_left' (low_length v 8), drop_lows i r rest (by simpa using h)]
    simp

theorem rg_lows {r rest : List Int} (hr : r.length = 8) (hv : ∀ v ∈ r, u64r v) : rg ((r.map (low · 8)).flatten ++ rest) 8 = r := by
  unfold rg
  rw [Nat.sub_self, List.replicate_zero, List.append_nil]
  apply List.ext_getElem
  · simp [hr]
  · intro i h1 h2
    rw [List.getElem_map, List.getElem_range, drop_lows i r rest (by omega), List.drop_eq_getElem_cons h2, List.map_cons, List.flatten_cons, List.append_assoc, rnV_app (low_length _ 8), le_low8 (hv _ (List.getElem_mem h2))]

theorem lows_length : ∀ (r : List Int), ((r.map (low · 8)).flatten).length = 8 * r.length
  | [] => rfl
  | v :: r => by rw [List.map_cons, List.flatten_cons, List.length_append, low_length, lows_length r, List.length_cons]; omega

theorem bytes_ne (s : Stp) : s.bytes ≠ [] := by cases s <;> simp [Stp.bytes]

theorem dec_bytes {s : Stp} (h : s.ok) (rest : List Int) : decS (s.bytes ++ rest) = s :: decS rest := by
  have key : ∀ (k : Int) (t : List Int), s.bytes ++ rest = k :: t → 1 ≤ k → k ≤ 5 → bodyS k t = some (s, rest) → decS (s.bytes ++ rest) = s :: decS rest := by
    intro k t e h1 h2 hb
    rw [e]
    have e1 : rnV 1 (k :: t) % 8 = k := by rw [rnV_one]; omega
    exact decS_some (by simp) (by rw [e1]; omega) (by rw [e1]; simpa using hb)
  cases s with
  | call c r =>
    obtain ⟨hc, hr, hv⟩ := h
    refine key 1 (c :: 8 :: ((r.map (low · 8)).flatten ++ rest)) (by simp [Stp.bytes]) (by omega) (by omega) ?_
    unfold bodyS
    have e2 : rnV 1 ((c :: 8 :: ((r.map (low · 8)).flatten ++ rest)).drop 1) % 9 = 8 := by rw [List.drop_succ_cons, List.drop_zero, rnV_one]; decide
    rw [if_pos rfl, e2]
    have e3 : (c :: 8 :: ((r.map (low · 8)).flatten ++ rest)).drop 2 = (r.map (low · 8)).flatten ++ rest := rfl
    rw [e3, show (8 : Int).toNat = 8 from rfl, rg_lows hr hv, rnV_one]
    have hl := lows_length r
    rw [if_neg (by simp only [List.length_cons, List.length_append]; omega)]
    have e4 : ((r.map (low · 8)).flatten ++ rest).drop (8 * 8) = rest := List.drop_left' (by rw [hl, hr])
    rw [e4]
  | load c p w =>
    refine key 2 (c :: (low p 2 ++ (low w 1 ++ rest))) (by simp [Stp.bytes]) (by omega) (by omega) ?_
    unfold bodyS
    rw [if_neg (by decide), if_pos rfl, if_neg (by simp [low_length]; omega), rnV_one]
    have e1 : (c :: (low p 2 ++ (low w 1 ++ rest))).drop 1 = low p 2 ++ (low w 1 ++ rest) := rfl
    have e2 : (c :: (low p 2 ++ (low w 1 ++ rest))).drop 3 = low w 1 ++ rest := by
      rw [show (3 : Nat) = 2 + 1 from rfl, List.drop_succ_cons]; exact List.drop_left' (low_length p 2)
    have e3 : (c :: (low p 2 ++ (low w 1 ++ rest))).drop 4 = rest := by
      rw [show (4 : Nat) = 3 + 1 from rfl, ← List.drop_drop, e2]; exact List.drop_left' (low_length w 1)
    rw [e1, e2, e3, rnV_app (low_length p 2), rnV_app (low_length w 1), le_low2 h.2.1, le_low1 h.2.2]
  | store c p w v =>
    refine key 3 (c :: (low p 2 ++ (low w 1 ++ (low v 8 ++ rest)))) (by simp [Stp.bytes]) (by omega) (by omega) ?_
    unfold bodyS
    rw [if_neg (by decide), if_neg (by decide), if_pos rfl, if_neg (by simp [low_length]; omega), rnV_one]
    have e1 : (c :: (low p 2 ++ (low w 1 ++ (low v 8 ++ rest)))).drop 1 = low p 2 ++ (low w 1 ++ (low v 8 ++ rest)) := rfl
    have e2 : (c :: (low p 2 ++ (low w 1 ++ (low v 8 ++ rest)))).drop 3 = low w 1 ++ (low v 8 ++ rest) := by
      rw [show (3 : Nat) = 2 + 1 from rfl, List.drop_succ_cons]; exact List.drop_left' (low_length p 2)
    have e3 : (c :: (low p 2 ++ (low w 1 ++ (low v 8 ++ rest)))).drop 4 = low v 8 ++ rest := by
      rw [show (4 : Nat) = 3 + 1 from rfl, ← List.drop_drop, e2]; exact List.drop_left' (low_length w 1)
    have e4 : (c :: (low p 2 ++ (low w 1 ++ (low v 8 ++ rest)))).drop 12 = rest := by
      rw [show (12 : Nat) = 4 + 8 from rfl, ← List.drop_drop, e3]; exact List.drop_left' (low_length v 8)
    rw [e1, e2, e3, e4, rnV_app (low_length p 2), rnV_app (low_length w 1), rnV_app (low_length v 8), le_low2 h.2.1, le_low1 h.2.2.1, le_low8 h.2.2.2]
  | tick c =>
    refine key 4 (c :: rest) (by simp [Stp.bytes]) (by omega) (by omega) ?_
    unfold bodyS
    rw [if_neg (by decide), if_neg (by decide), if_neg (by decide), if_pos rfl, if_neg (by simp), rnV_one]
    rfl
  | line c n =>
    refine key 5 (c :: (low n 1 ++ rest)) (by simp [Stp.bytes]) (by omega) (by omega) ?_
    unfold bodyS
    rw [if_neg (by decide), if_neg (by decide), if_neg (by decide), if_neg (by decide), if_neg (by simp [low_length]), rnV_one]
    have e1 : (c :: (low n 1 ++ rest)).drop 1 = low n 1 ++ rest := rfl
    have e2 : (c :: (low n 1 ++ rest)).drop 2 = rest := by
      rw [show (2 : Nat) = 1 + 1 from rfl, List.drop_succ_cons]; exact List.drop_left' (low_length n 1)
    rw [e1, e2, rnV_app (low_length n 1), le_low1 h.2]

/-- The bytes of steps. -/
def encS (l : List Stp) : List Int := (l.map Stp.bytes).flatten
theorem dec_enc : ∀ (l : List Stp), (∀ s ∈ l, s.ok) → ∀ rest, decS (encS l ++ rest) = l ++ decS rest
  | [], _, rest => rfl
  | s :: l, h, rest => by
    show decS ((s.bytes ++ encS l) ++ rest) = _
    rw [List.append_assoc, dec_bytes (h s List.mem_cons_self), dec_enc l (fun x hx => h x (List.mem_cons_of_mem _ hx))]
    rfl
theorem encS_append (l m : List Stp) : encS (l ++ m) = encS l ++ encS m := by simp [encS]

theorem byt_bytes {s : Stp} (h : s.ok) : Byt s.bytes := by
  have app : ∀ {a b : List Int}, Byt a → Byt b → Byt (a ++ b) := fun ha hb x hx => (List.mem_append.1 hx).elim (ha x) (hb x)
  have two : ∀ {k c : Int}, (0 ≤ k ∧ k < 256) → (0 ≤ c ∧ c < 256) → Byt [k, c] := fun hk hc x hx => by
    simp at hx
    rcases hx with rfl | rfl <;> assumption
  cases s with
  | call c r =>
    refine app (fun x hx => ?_) (fun x hx => ?_)
    · simp at hx
      have := h.1
      rcases hx with rfl | rfl | rfl <;> omega
    · simp only [List.mem_flatten, List.mem_map] at hx
      obtain ⟨l, ⟨v, _, rfl⟩, hx⟩ := hx
      exact byt_low v 8 x hx
  | load c p w => exact app (app (two (by omega) h.1) (byt_low _ _)) (byt_low _ _)
  | store c p w v => exact app (app (app (two (by omega) h.1) (byt_low _ _)) (byt_low _ _)) (byt_low _ _)
  | tick c => exact two (by omega) h
  | line c n => exact app (two (by omega) h.1) (byt_low _ _)
theorem byt_enc {l : List Stp} (h : ∀ s ∈ l, s.ok) : Byt (encS l) := by
  intro x hx
  simp only [encS, List.mem_flatten, List.mem_map] at hx
  obtain ⟨b, ⟨s, hs, rfl⟩, hx⟩ := hx
  exact byt_bytes (h s hs) x hx
theorem bytes_length {s : Stp} (h : s.ok) : s.bytes.length ≤ 67 := by
  cases s with
  | call c r => simp only [Stp.bytes, List.length_append, lows_length, h.2.1, List.length_cons, List.length_nil]; omega
  | _ => simp [Stp.bytes, low_length]
theorem enc_length : ∀ {l : List Stp}, (∀ s ∈ l, s.ok) → (encS l).length ≤ 67 * l.length
  | [], _ => by simp [encS]
  | s :: l, h => by
    have h1 := bytes_length (h s List.mem_cons_self)
    have h2 := enc_length (fun x hx => h x (List.mem_cons_of_mem _ hx))
    show (s.bytes ++ encS l).length ≤ _
    rw [List.length_append, List.length_cons]
    omega

theorem rnV_8 {bs : List Int} (h : Byt bs) : u64r (rnV 8 bs) := by
  have := rnV_bound (n := 8) h
  exact ⟨this.1, by simpa using this.2⟩
theorem bodyS_ok {k : Int} {l r : List Int} {s : Stp} (hb : bodyS k l = some (s, r)) (h : Byt l) : s.ok ∧ Byt r := by
  unfold bodyS at hb
  split at hb
  · split at hb
    · cases hb
    · rename_i hh
      cases hb
      have hn := rnV_1 (h.drop 1)
      refine ⟨⟨rnV_1 h, rg_length (by omega), fun v hv => ?_⟩, (h.drop 2).drop _⟩
      unfold rg at hv
      rcases List.mem_append.1 hv with hv | hv
      · obtain ⟨i, _, rfl⟩ := List.mem_map.1 hv
        exact rnV_8 ((h.drop 2).drop _)
      · rw [List.eq_of_mem_replicate hv]; exact ⟨by omega, by omega⟩
  · split at hb
    · split at hb
      · cases hb
      · cases hb; exact ⟨⟨rnV_1 h, rnV_2 (h.drop _), rnV_1 (h.drop _)⟩, h.drop _⟩
    · split at hb
      · split at hb
        · cases hb
        · cases hb; exact ⟨⟨rnV_1 h, rnV_2 (h.drop _), rnV_1 (h.drop _), rnV_8 (h.drop _)⟩, h.drop _⟩
      · split at hb
        · split at hb
          · cases hb
          · cases hb; exact ⟨rnV_1 h, h.drop _⟩
        · split at hb
          · cases hb
          · cases hb; exact ⟨⟨rnV_1 h, rnV_1 (h.drop _)⟩, h.drop _⟩
theorem decS_ok : ∀ (n : Nat) (bs : List Int), bs.length ≤ n → Byt bs → ∀ s ∈ decS bs, s.ok
  | 0, bs, h, _ => by rw [List.eq_nil_of_length_eq_zero (by omega : bs.length = 0), decS_nil]; intro s hs; cases hs
  | n + 1, bs, h, hB => by
    by_cases h0 : bs = []
    · rw [h0, decS_nil]; intro s hs; cases hs
    · have hp := List.length_pos_iff.2 h0
      by_cases hk : rnV 1 bs % 8 < 1 ∨ 5 < rnV 1 bs % 8
      · rw [decS_skip h0 hk]
        exact decS_ok n (bs.drop 1) (by rw [List.length_drop]; omega) (hB.drop 1)
      · cases hb : bodyS (rnV 1 bs % 8) (bs.drop 1) with
        | none => rw [decS_none h0 hk hb]; intro s hs; cases hs
        | some p =>
          obtain ⟨s, r⟩ := p
          rw [decS_some h0 hk hb]
          have h1 := bodyS_len hb
          have h2 := bodyS_ok hb (hB.drop 1)
          rw [List.length_drop] at h1
          intro x hx
          rcases List.mem_cons.1 hx with rfl | hx
          · exact h2.1
          · exact decS_ok n r (by omega) h2.2 x hx
end Go.Proofs.YtfffmmgmjlfkoaaGreat
