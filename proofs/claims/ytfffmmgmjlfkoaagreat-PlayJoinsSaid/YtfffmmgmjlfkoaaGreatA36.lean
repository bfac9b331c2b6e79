/- Rows of things of several cells, as append leaves them. -/
import Derived.Test.YtfffmmgmjlfkoaaGreatA35
namespace Go.As
set_option linter.unusedSimpArgs false
set_option linter.unusedVariables false

/-- A row of things of size sz, each told by its cells, at block b (if there is any). -/
def RowN (σ : St) (t : TypeId) (sz : Nat) (v : Value) (l : List (List Value)) (b : Nat) : Prop :=
  (∀ x ∈ l, x.length = sz) ∧ ((l = [] ∧ v = .slice none 0 0) ∨ (l ≠ [] ∧ v = .slice (some ⟨b, 0, none⟩) l.length unk ∧ σ.get b = some (.cells l.flatten t (.vec sz))))

theorem flatten_length {sz : Nat} : ∀ {l : List (List Value)}, (∀ x ∈ l, x.length = sz) → l.flatten.length = l.length * sz
  | [], _ => by simp
  | x :: l, h => by
    rw [List.flatten_cons, List.length_append, h x List.mem_cons_self, flatten_length (fun y hy => h y (List.mem_cons_of_mem _ hy)), List.length_cons, Nat.succ_mul]
    omega

theorem flatten_at {sz : Nat} : ∀ {l : List (List Value)}, (∀ x ∈ l, x.length = sz) → ∀ {i : Nat} (hi : i < l.length), (l.flatten.drop (i * sz)).take sz = l[i]
  | [], _, i, hi => by simp at hi
  | x :: l, h, 0, hi => by
    have hx := h x List.mem_cons_self
    simp [← hx]
  | x :: l, h, i + 1, hi => by
    have hx := h x List.mem_cons_self
    have ih := flatten_at (fun y hy => h y (List.mem_cons_of_mem _ hy)) (i := i) (by simpa using hi)
    rw [List.flatten_cons, List.drop_append, hx, show (i + 1) * sz - sz = i * sz by rw [Nat.succ_mul]; omega, List.drop_eq_nil_of_le (by rw [hx, Nat.succ_mul]; omega), List.nil_append, ih]
    simp

theorem newsA_one {σ : St} {xb sz : Nat} {xs : List Value} {e : TypeId} {kd : Kd} (hx : σ.get xb = some (.cells xs e kd)) (hl : xs.length = sz) : newsA σ sz (.slice (some ⟨xb, 0, none⟩) 1 1) = some (1, xs) := by
  simp [newsA, hx, hl]
  rw [← hl, List.take_length]

theorem RowN.append {P : Program} {σ : St} {t et : TypeId} {sz : Nat} {v : Value} {l : List (List Value)} {b xb : Nat} {x : List Value} {e2 : TypeId} {kd2 : Kd} (h : RowN σ et sz v l b) (ht : P.underlying t = some (.slice et)) {it : TypeInfo} {z : Value} (hi : P.info? et = some it) (hz : zeroV P et = some z) (h1 : it.size = sz) (h0 : sz ≠ 0) (hz1 : z.cells.size = sz) (hby : it.bytes ≤ 1000)
    (hx : σ.get xb = some (.cells x e2 kd2)) (hxl : x.length = sz) (h1x : x.all Value.oneCell' = true) (hlen : l.length < 1000000) :
    appendA P #[t, t] [v, .slice (some ⟨xb, 0, none⟩) 1 1] σ = some (.slice (some ⟨σ.next, 0, none⟩) (l.length + 1) unk, σ.app v (.cells (l ++ [x]).flatten et (.vec sz))) := by
  obtain ⟨hall, h⟩ := h
  subst h1
  have hn : newsA σ it.size (.slice (some ⟨xb, 0, none⟩) 1 1) = some (1, x) := newsA_one hx hxl
  have hm : ∀ m : Nat, m < 1000001 → m * it.bytes ≤ 2 ^ 40 ∧ m ≤ 2 ^ 40 := fun m hm => ⟨Nat.le_trans (Nat.mul_le_mul (Nat.le_of_lt hm) hby) (by decide), Nat.le_trans (Nat.le_of_lt hm) (by decide)⟩
  have hsz : ¬ (it.size = 0 ∨ z.cells.size ≠ it.size) := by omega
  have hone : ¬ ¬ (x.all Value.oneCell' = true) := fun hn => hn h1x
  rcases h with ⟨rfl, rfl⟩ | ⟨hne, rfl, hb⟩
  · simp only [appendA, ht, hi, hz, if_true, if_neg hsz, hn, if_neg hone]
    rw [if_neg (by decide), if_pos (hm 1 (by decide))]
    simp [St.app]
  · simp only [appendA, ht, hi, hz, if_true, if_neg hsz, hn, if_neg hone, hb]
    rw [if_neg (by decide), if_neg (fun hn => hn (hm (l.length + 1) (by omega)))]
    have hl0 : l.length ≠ 0 := fun e => hne (List.eq_nil_of_length_eq_zero e)
    have hc : l.length ≠ 0 ∧ True ∧ True ∧ l.flatten.length = l.length * it.size ∧ Kd.vec it.size = .vec it.size := ⟨hl0, trivial, trivial, flatten_length hall, rfl⟩
    rw [if_pos (by simpa using hc)]
    simp [St.app]

/-- What is made for an append, and what the append leaves: the row at its new block, all else that is told of. -/
theorem RowN.grown {σ : St} {t : TypeId} {sz : Nat} {v : Value} {l : List (List Value)} {b : Nat} {x : List Value} (h : RowN σ t sz v l b) (hx : x.length = sz) : RowN (σ.app v (.cells (l ++ [x]).flatten t (.vec sz))) t sz (.slice (some ⟨σ.next, 0, none⟩) (l.length + 1) unk) (l ++ [x]) σ.next := by
  refine ⟨fun y hy => ?_, .inr ⟨by simp, by simp, ?_⟩⟩
  · rcases List.mem_append.1 hy with hy | hy
    · exact h.1 y hy
    · rw [List.mem_singleton.1 hy]; exact hx
  · unfold St.app
    split
    · rw [St.get_add_eq (by rw [St.next_del'])]
    · rw [St.get_add_eq rfl]

theorem St.next_app {σ : St} {v : Value} {o : AObj} : (σ.app v o).next = σ.next + 1 := by
  unfold St.app
  split <;> rfl
theorem RowN.appGet {σ : St} {t : TypeId} {sz : Nat} {v : Value} {l : List (List Value)} {b : Nat} {o : AObj} (h : RowN σ t sz v l b) {c : Nat} (hc : c ≠ σ.next) (hb : l ≠ [] → c ≠ b) : (σ.app v o).get c = σ.get c := by
  rcases h.2 with ⟨_, rfl⟩ | ⟨hl, rfl, _⟩
  · simp only [St.app]
    rw [St.get_add_ne hc]
  · simp only [St.app]
    rw [St.get_add_ne (by rw [St.next_del']; exact hc), St.get_del_ne (hb hl)]
theorem RowN.keep {σ σ' : St} {t : TypeId} {sz : Nat} {v : Value} {l : List (List Value)} {b : Nat} (h : RowN σ t sz v l b) (hk : l ≠ [] → σ'.get b = σ.get b) : RowN σ' t sz v l b :=
  ⟨h.1, h.2.imp id fun ⟨h1, h2, h3⟩ => ⟨h1, h2, by rw [hk h1]; exact h3⟩⟩
end Go.As
