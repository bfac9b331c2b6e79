/- The abstract machine, first part: states, relations, operations. -/
import Derived.Calls
import Derived.Orders
import Derived.Laws.AppendOwn
import Derived.RowKit3
import Derived.Laws.StructEq
import Derived.Laws.Tables
import Derived.Laws.BytesString
import Derived.Laws.Append
namespace Go.As
set_option linter.unusedSimpArgs false
set_option linter.unusedVariables false

/-! ### A heap as a binary tree over numbers -/
inductive Tr (α : Type) where
  | nil
  | node (l : Tr α) (v : Option α) (r : Tr α)

def Tr.get {α : Type} : Tr α → Nat → Option α
  | .nil, _ => none
  | .node l v r, n =>
    match Nat.beq n (nat_lit 0) with
    | true => v
    | false =>
      match Nat.beq (Nat.mod n (nat_lit 2)) (nat_lit 1) with
      | true => l.get (Nat.div n (nat_lit 2))
      | false => r.get (Nat.sub (Nat.div n (nat_lit 2)) (nat_lit 1))

def Tr.parts {α : Type} : Tr α → Tr α × Option α × Tr α
  | .nil => (.nil, none, .nil)
  | .node l v r => (l, v, r)

theorem Tr.get_nil {α : Type} (n : Nat) : (Tr.nil : Tr α).get n = none := by simp [Tr.get]
theorem Tr.get_node {α : Type} (l : Tr α) (v : Option α) (r : Tr α) (n : Nat) : (Tr.node l v r).get n = if n = 0 then v else if n % 2 = 1 then l.get (n / 2) else r.get (n / 2 - 1) := by
  rw [Tr.get]
  show (match Nat.beq n 0 with | true => v | false => match Nat.beq (n % 2) 1 with | true => l.get (n / 2) | false => r.get (n / 2 - 1)) = _
  by_cases h0 : n = 0
  · subst h0; rfl
  · have e0 : Nat.beq n 0 = false := by
      cases h : Nat.beq n 0 with
      | false => rfl
      | true => exact absurd (Nat.eq_of_beq_eq_true h) h0
    rw [e0, if_neg h0]
    by_cases h1 : n % 2 = 1
    · rw [h1]; rfl
    · have e1 : Nat.beq (n % 2) 1 = false := by
        cases h : Nat.beq (n % 2) 1 with
        | false => rfl
        | true => exact absurd (Nat.eq_of_beq_eq_true h) h1
      rw [e1, if_neg h1]

theorem Tr.get_parts {α : Type} (t : Tr α) (m : Nat) : t.get m = if m = 0 then t.parts.2.1 else if m % 2 = 1 then t.parts.1.get (m / 2) else t.parts.2.2.get (m / 2 - 1) := by
  cases t with
  | nil => simp [Tr.get_nil, Tr.parts]
  | node l v r => simp [Tr.get_node, Tr.parts]

def Tr.setF {α : Type} : Nat → Tr α → Nat → Option α → Tr α
  | 0, t, _, _ => t
  | k + 1, t, n, x =>
    match t with
    | .nil =>
      match Nat.beq n (nat_lit 0) with
      | true => .node .nil x .nil
      | false =>
        match Nat.beq (Nat.mod n (nat_lit 2)) (nat_lit 1) with
        | true => .node (Tr.setF k .nil (Nat.div n (nat_lit 2)) x) none .nil
        | false => .node .nil none (Tr.setF k .nil (Nat.sub (Nat.div n (nat_lit 2)) (nat_lit 1)) x)
    | .node l v r =>
      match Nat.beq n (nat_lit 0) with
      | true => .node l x r
      | false =>
        match Nat.beq (Nat.mod n (nat_lit 2)) (nat_lit 1) with
        | true => .node (Tr.setF k l (Nat.div n (nat_lit 2)) x) v r
        | false => .node l v (Tr.setF k r (Nat.sub (Nat.div n (nat_lit 2)) (nat_lit 1)) x)

theorem Tr.setF_succ {α : Type} (k : Nat) (t : Tr α) (n : Nat) (x : Option α) : Tr.setF (k + 1) t n x =
    if n = 0 then .node t.parts.1 x t.parts.2.2 else if n % 2 = 1 then .node (Tr.setF k t.parts.1 (n / 2) x) t.parts.2.1 t.parts.2.2 else .node t.parts.1 t.parts.2.1 (Tr.setF k t.parts.2.2 (n / 2 - 1) x) := by
  have key : ∀ a b c : Tr α, (match Nat.beq n 0 with | true => a | false => match Nat.beq (n % 2) 1 with | true => b | false => c) = if n = 0 then a else if n % 2 = 1 then b else c := by
    intro a b c
    by_cases h0 : n = 0
    · subst h0; rfl
    · have e0 : Nat.beq n 0 = false := by
        cases h : Nat.beq n 0 with
        | false => rfl
        | true => exact absurd (Nat.eq_of_beq_eq_true h) h0
      rw [e0, if_neg h0]
      by_cases h1 : n % 2 = 1
      · rw [h1]; rfl
      · have e1 : Nat.beq (n % 2) 1 = false := by
          cases h : Nat.beq (n % 2) 1 with
          | false => rfl
          | true => exact absurd (Nat.eq_of_beq_eq_true h) h1
        rw [e1, if_neg h1]
  cases t with
  | nil => exact key _ _ _
  | node l v r => exact key _ _ _

def Tr.set {α : Type} (t : Tr α) (n : Nat) (x : Option α) : Tr α := Tr.setF (Nat.log2 n + 2) t n x

theorem Tr.get_setF {α : Type} (x : Option α) : ∀ (k : Nat) (t : Tr α) (n m : Nat), n < 2 ^ k → (Tr.setF (k + 1) t n x).get m = if m = n then x else t.get m := by
  intro k
  induction k with
  | zero =>
    intro t n m h
    have hn : n = 0 := by omega
    subst hn
    rw [Tr.get_parts t m]
    by_cases hm : m = 0 <;> simp [Tr.setF_succ, Tr.get_node, hm]
  | succ k ih =>
    intro t n m h
    rw [Tr.get_parts t m, Tr.setF_succ]
    by_cases h0 : n = 0
    · subst h0
      by_cases hm : m = 0 <;> simp [Tr.get_node, hm]
    · by_cases h1 : n % 2 = 1
      · have hb : n / 2 < 2 ^ k := by rw [Nat.pow_succ] at h; omega
        simp only [h0, if_false, h1, if_true, Tr.get_node]
        rw [ih _ _ _ hb]
        by_cases hm0 : m = 0
        · simp [hm0, Ne.symm h0]
        · by_cases hm1 : m % 2 = 1
          · simp only [hm0, if_false, hm1, if_true]
            have e : (m / 2 = n / 2) ↔ m = n := by omega
            simp [e]
          · have : m ≠ n := fun e => hm1 (e ▸ h1)
            simp [hm0, hm1, this]
      · have hb : n / 2 - 1 < 2 ^ k := by rw [Nat.pow_succ] at h; omega
        simp only [h0, if_false, h1, Tr.get_node]
        rw [ih _ _ _ hb]
        by_cases hm0 : m = 0
        · simp [hm0, Ne.symm h0]
        · by_cases hm1 : m % 2 = 1
          · have : m ≠ n := fun e => h1 (e ▸ hm1)
            simp [hm0, hm1, this]
          · simp only [hm0, if_false, hm1]
            have e : (m / 2 - 1 = n / 2 - 1) ↔ m = n := by omega
            simp [e]

theorem Tr.get_set {α : Type} (t : Tr α) (n : Nat) (x : Option α) (m : Nat) : (t.set n x).get m = if m = n then x else t.get m :=
  Tr.get_setF x _ t n m Nat.lt_log2_self

/-! ### Objects, states -/
/-- What a block of cells is good for: only read; its capacity known (its cells all there are); grown by append: 'sz' cells an element, capacity unknown. -/
inductive Kd where
  | ro
  | ex
  | vec (sz : Nat)
  deriving DecidableEq

/-- 'blob n': so many cells at least, of which no more is known. -/
inductive AObj where
  | cells (cs : List Value) (elem : TypeId) (kd : Kd)
  | map (k : IntKind) (es : List (Int × Value))
  | blob (n : Nat)

def AObj.writable : AObj → Bool
  | .cells _ _ .ro => false
  | _ => true

structure St where
  heap : Tr AObj
  next : Nat

def St.get (σ : St) (b : Nat) : Option AObj := σ.heap.get b
def St.put (σ : St) (b : Nat) (o : AObj) : St := { σ with heap := σ.heap.set b (some o) }
def St.del (σ : St) (b : Nat) : St := { σ with heap := σ.heap.set b none }
def St.add (σ : St) (o : AObj) : St := { heap := σ.heap.set σ.next (some o), next := σ.next + 1 }

theorem St.get_put (σ : St) (b : Nat) (o : AObj) (m : Nat) : (σ.put b o).get m = if m = b then some o else σ.get m := Tr.get_set _ _ _ _
theorem St.get_del (σ : St) (b : Nat) (m : Nat) : (σ.del b).get m = if m = b then none else σ.get m := Tr.get_set _ _ _ _
theorem St.get_add (σ : St) (o : AObj) (m : Nat) : (σ.add o).get m = if m = σ.next then some o else σ.get m := Tr.get_set _ _ _ _
@[simp] theorem St.next_put (σ : St) (b : Nat) (o : AObj) : (σ.put b o).next = σ.next := rfl
@[simp] theorem St.next_del (σ : St) (b : Nat) : (σ.del b).next = σ.next := rfl
@[simp] theorem St.next_add (σ : St) (o : AObj) : (σ.add o).next = σ.next + 1 := rfl

/-! ### Values -/
/-- Abstract block to the model's block, and (of what append grew) its capacity. -/
abbrev Inj := Nat → Option (Nat × Nat)

/-- A capacity that is not known. -/
def unk : Nat := 9223372036854775808

structure PtrOk (f : Inj) (a a' : Addr) : Prop where
  s : a.spot = none
  s' : a'.spot = none
  off : a'.off = a.off
  blk : ∃ k, f a.block = some (a'.block, k)

structure SlOk (f : Inj) (a a' : Addr) (n c c' : Nat) : Prop where
  s : a.spot = none
  s' : a'.spot = none
  live : (0 < n ∨ (c ≠ unk ∧ 0 < c)) → a'.off = a.off ∧ ∃ k, f a.block = some (a'.block, k)
  unk : c = unk → n ≤ c' ∧ c' ≤ maxLen ∧ (0 < n → a.off = 0 → ∃ b, f a.block = some (b, c'))
  ex : c ≠ As.unk → c' = c ∧ n ≤ c ∧ c < As.unk

def anyC : Value → Bool
  | .bool _ | .agg _ | .tuple _ => false
  | _ => true
theorem anyC_one {v : Value} (h : anyC v = true) : v.oneCell' = true := by cases v <;> first | rfl | cases h

inductive VRel (f : Inj) : Value → Value → Prop where
  | bool (b : Bool) : VRel f (.bool b) (.bool b)
  | int (k : IntKind) (n : Int) : VRel f (.int k n) (.int k n)
  | float (k : FloatKind) (b : Nat) : VRel f (.float k b) (.float k b)
  | complex (k : FloatKind) (a b : Nat) : VRel f (.complex k a b) (.complex k a b)
  | string (s : ByteArray) : VRel f (.string s) (.string s)
  | ptrNil : VRel f (.pointer none) (.pointer none)
  | ptr (a a' : Addr) : PtrOk f a a' → VRel f (.pointer (some a)) (.pointer (some a'))
  | sliceNil : VRel f (.slice none 0 0) (.slice none 0 0)
  | slice (a a' : Addr) (n c c' : Nat) : SlOk f a a' n c c' → VRel f (.slice (some a) n c) (.slice (some a') n c')
  | mapNil : VRel f (.map none) (.map none)
  | map (r r' k : Nat) : f r = some (r', k) → VRel f (.map (some r)) (.map (some r'))
  | func (fn : Fn) (cs cs' : Array Value) : cs.size = cs'.size → (∀ (i : Nat) (x x' : Value), cs.toList[i]? = some x → cs'.toList[i]? = some x' → VRel f x x') → VRel f (.func fn #[] cs) (.func fn #[] cs')
  | nilFunc : VRel f .nilFunc .nilFunc
  | agg (cs cs' : Array Value) : cs.size = cs'.size → (∀ (i : Nat) (x x' : Value), cs.toList[i]? = some x → cs'.toList[i]? = some x' → VRel f x x') → VRel f (.agg cs) (.agg cs')
  | tuple (cs cs' : Array Value) : cs.size = cs'.size → (∀ (i : Nat) (x x' : Value), cs.toList[i]? = some x → cs'.toList[i]? = some x' → VRel f x x') → VRel f (.tuple cs) (.tuple cs')
  /-- Something in one cell that is not looked at. -/
  | any (v' : Value) : anyC v' = true → VRel f (.chan none) v'

/-- Lists, value by value. -/
def LRel (f : Inj) (l l' : List Value) : Prop := l.length = l'.length ∧ ∀ (i : Nat) (x x' : Value), l[i]? = some x → l'[i]? = some x' → VRel f x x'

def Inj.le (f g : Inj) : Prop := ∀ b x, f b = some x → g b = some x

theorem PtrOk.mono {f g : Inj} (h : Inj.le f g) {a a' : Addr} (p : PtrOk f a a') : PtrOk g a a' :=
  ⟨p.s, p.s', p.off, let ⟨k, e⟩ := p.blk; ⟨k, h _ _ e⟩⟩

theorem SlOk.mono {f g : Inj} (h : Inj.le f g) {a a' : Addr} {n c c' : Nat} (p : SlOk f a a' n c c') : SlOk g a a' n c c' :=
  ⟨p.s, p.s', fun hn => let ⟨e, k, ek⟩ := p.live hn; ⟨e, k, h _ _ ek⟩, fun hc => let ⟨e1, e2, e3⟩ := p.unk hc; ⟨e1, e2, fun h0 h1 => let ⟨b, e⟩ := e3 h0 h1; ⟨b, h _ _ e⟩⟩, p.ex⟩

theorem VRel.mono {f g : Inj} (h : Inj.le f g) {v v' : Value} (r : VRel f v v') : VRel g v v' := by
  induction r with
  | any v' h' => exact .any v' h'
  | ptr a a' p => exact .ptr a a' (p.mono h)
  | slice a a' n c c' p => exact .slice a a' n c c' (p.mono h)
  | map r r' k e => exact .map r r' k (h _ _ e)
  | func fn cs cs' hs _ ih => exact .func fn cs cs' hs ih
  | agg cs cs' hs _ ih => exact .agg cs cs' hs ih
  | tuple cs cs' hs _ ih => exact .tuple cs cs' hs ih
  | _ => constructor

theorem LRel.mono {f g : Inj} (h : Inj.le f g) {l l' : List Value} (r : LRel f l l') : LRel g l l' := ⟨r.1, fun i x x' a b => (r.2 i x x' a b).mono h⟩

theorem LRel.nil {f : Inj} : LRel f [] [] := ⟨rfl, fun i x x' h => by simp at h⟩
theorem LRel.cons {f : Inj} {v v' : Value} {l l' : List Value} (h : VRel f v v') (r : LRel f l l') : LRel f (v :: l) (v' :: l') := by
  refine ⟨by simp [r.1], fun i x x' hx hx' => ?_⟩
  cases i with
  | zero => simp at hx hx'; subst hx; subst hx'; exact h
  | succ i => simp at hx hx'; exact r.2 i x x' hx hx'
theorem LRel.of_cons {f : Inj} {v : Value} {l k : List Value} (r : LRel f (v :: l) k) : ∃ v' l', k = v' :: l' ∧ VRel f v v' ∧ LRel f l l' := by
  cases k with
  | nil => have := r.1; simp at this
  | cons v' l' =>
    refine ⟨v', l', rfl, r.2 0 v v' (by simp) (by simp), ⟨by have := r.1; simpa using this, fun i x x' hx hx' => r.2 (i + 1) x x' (by simpa using hx) (by simpa using hx')⟩⟩
theorem LRel.of_nil {f : Inj} {k : List Value} (r : LRel f [] k) : k = [] := List.eq_nil_of_length_eq_zero r.1.symm
theorem LRel.append {f : Inj} {l l' k k' : List Value} (h : LRel f l l') (r : LRel f k k') : LRel f (l ++ k) (l' ++ k') := by
  refine ⟨by simp [h.1, r.1], fun i x x' hx hx' => ?_⟩
  rw [List.getElem?_append] at hx hx'
  rw [← h.1] at hx'
  split at hx
  · rename_i hi; rw [if_pos hi] at hx'; exact h.2 i x x' hx hx'
  · rename_i hi; rw [if_neg hi] at hx'; exact r.2 _ x x' hx hx'
theorem LRel.take {f : Inj} {l l' : List Value} (h : LRel f l l') (n : Nat) : LRel f (l.take n) (l'.take n) := by
  refine ⟨by simp [h.1], fun i x x' hx hx' => ?_⟩
  rw [List.getElem?_take] at hx hx'
  split at hx
  · rename_i hi; rw [if_pos hi] at hx'; exact h.2 i x x' hx hx'
  · cases hx
theorem LRel.drop {f : Inj} {l l' : List Value} (h : LRel f l l') (n : Nat) : LRel f (l.drop n) (l'.drop n) := by
  refine ⟨by simp [h.1], fun i x x' hx hx' => ?_⟩
  rw [List.getElem?_drop] at hx hx'
  exact h.2 _ x x' hx hx'
theorem LRel.set {f : Inj} {l l' : List Value} (h : LRel f l l') (n : Nat) {v v' : Value} (hv : VRel f v v') : LRel f (l.set n v) (l'.set n v') := by
  refine ⟨by simp [h.1], fun i x x' hx hx' => ?_⟩
  rw [List.getElem?_set] at hx hx'
  rw [← h.1] at hx'
  split at hx
  · rename_i hi
    rw [if_pos hi] at hx'
    split at hx
    · rename_i hn; rw [if_pos hn] at hx'; cases hx; cases hx'; exact hv
    · cases hx
  · rename_i hi; rw [if_neg hi] at hx'; exact h.2 i x x' hx hx'
theorem LRel.get {f : Inj} {l l' : List Value} (h : LRel f l l') {i : Nat} {x : Value} (hx : l[i]? = some x) : ∃ x', l'[i]? = some x' ∧ VRel f x x' := by
  have hi : i < l.length := (List.getElem?_eq_some_iff.1 hx).1
  have hi' : i < l'.length := h.1 ▸ hi
  exact ⟨l'[i], by simp [hi'], h.2 i x _ hx (by simp [hi'])⟩

theorem VRel.agg_of {f : Inj} {cs cs' : Array Value} (h : LRel f cs.toList cs'.toList) : VRel f (.agg cs) (.agg cs') := .agg cs cs' (by simpa using h.1) h.2
theorem VRel.tuple_of {f : Inj} {cs cs' : Array Value} (h : LRel f cs.toList cs'.toList) : VRel f (.tuple cs) (.tuple cs') := .tuple cs cs' (by simpa using h.1) h.2

/-- One cell's value. -/
theorem VRel.oneCell {f : Inj} {v v' : Value} (h : VRel f v v') : v'.oneCell' = v.oneCell' := by cases h <;> first | rfl | exact anyC_one (by assumption)
theorem VRel.cells {f : Inj} {v v' : Value} (h : VRel f v v') : LRel f v.cells.toList v'.cells.toList := by
  cases h with
  | agg cs cs' hs hr => exact ⟨by simpa [Value.cells] using hs, hr⟩
  | tuple cs cs' hs hr => exact LRel.cons (.tuple cs cs' hs hr) LRel.nil
  | func fn cs cs' hs hr => exact LRel.cons (.func fn cs cs' hs hr) LRel.nil
  | any _ h =>
    have : v'.cells = #[v'] := by cases v' <;> first | rfl | cases h
    rw [this]
    exact LRel.cons (.any v' h) LRel.nil
  | _ => exact LRel.cons (by constructor <;> assumption) LRel.nil

/-- Values without an address: related to themselves. -/
def plainV : Value → Bool
  | .bool _ | .int .. | .float .. | .complex .. | .string _ | .pointer none | .slice none 0 0 | .map none | .nilFunc => true
  | .func _ ⟨[]⟩ ⟨[]⟩ => true
  | _ => false
def closedV : Value → Bool
  | .agg ⟨cs⟩ => cs.all plainV
  | .tuple ⟨cs⟩ => cs.all plainV
  | v => plainV v

theorem VRel.plain (f : Inj) {v : Value} (h : plainV v = true) : VRel f v v := by
  unfold plainV at h
  split at h <;> first | (cases h; done) | (exact .func _ _ _ rfl (fun i x x' hx => by simp at hx)) | constructor

theorem VRel.closed (f : Inj) {v : Value} (h : closedV v = true) : VRel f v v := by
  have key : ∀ cs : List Value, cs.all plainV = true → LRel f cs cs := by
    intro cs hc
    refine ⟨rfl, fun i x x' hx hx' => ?_⟩
    have e : x = x' := Option.some.inj (hx.symm.trans hx')
    subst e
    exact VRel.plain f (List.all_eq_true.1 hc x (List.mem_of_getElem? hx))
  unfold closedV at h
  split at h
  · exact VRel.agg_of (key _ h)
  · exact VRel.tuple_of (key _ h)
  · exact VRel.plain f h

/-! ### Worlds -/
/-- Entries of a map, in whatever order. -/
structure MapOk (f : Inj) (k : IntKind) (es : List (Int × Value)) (es' : List MapEntry) (clock : Nat) : Prop where
  nodup : (es.map (·.1)).Nodup
  to : ∀ n v, (n, v) ∈ es → ∃ e, e ∈ es' ∧ e.key = .int k n ∧ VRel f v e.val
  of : ∀ e, e ∈ es' → ∃ n v, e.key = .int k n ∧ (n, v) ∈ es
  keys : (es'.map (·.key)).Nodup
  born : (es'.map (·.born)).Nodup
  lt : ∀ e, e ∈ es' → e.born < clock

/-- What of a row may not be written (if any) lies behind its cells. -/
def FrOk (n : Nat) (fr : Nat × Nat) : Prop := fr.1 = fr.2 ∨ n ≤ fr.1

theorem FrOk.not {n : Nat} {fr : Nat × Nat} (h : FrOk n fr) : ∀ i, i < n → ¬ (fr.1 ≤ i ∧ i < fr.2) := by
  intro i hi ⟨h1, h2⟩
  rcases h with h | h <;> omega

inductive ObjRel (f : Inj) (k : Nat) : AObj → Obj → Prop where
  | cells (cs : List Value) (elem : TypeId) (kd : Kd) (cs' : Array Value) (fr : Nat × Nat) (more : List Value) :
      LRel f cs (cs'.toList.take cs.length) → cs'.toList = cs'.toList.take cs.length ++ more → (kd ≠ .ro → FrOk cs'.size fr) → (∀ sz, kd = .vec sz → cs'.size = k * sz) →
      ObjRel f k (.cells cs elem kd) (.cells cs' elem fr)
  | map (ik : IntKind) (es : List (Int × Value)) (es' : Array MapEntry) (clock : Nat) : MapOk f ik es es'.toList clock → ObjRel f k (.map ik es) (.map es' clock)
  | blob (n : Nat) (elem : TypeId) (cs' : Array Value) (fr : Nat × Nat) : n ≤ cs'.size → FrOk cs'.size fr → ObjRel f k (.blob n) (.cells cs' elem fr)

structure Rel (f : Inj) (σ : St) (w : World) : Prop where
  obj : ∀ b o c k, σ.get b = some o → f b = some (c, k) → ∃ o', w.heap[c]? = some o' ∧ ObjRel f k o o'
  inj : ∀ b b' o o' c k k', σ.get b = some o → σ.get b' = some o' → f b = some (c, k) → f b' = some (c, k') → b = b'
  dom : ∀ b x, f b = some x → b < σ.next
  img : ∀ b c k, f b = some (c, k) → c < w.heap.size

/-- The model's blocks that a state may write; that it holds at all. -/
def Img (f : Inj) (g : Nat → Option AObj) (c : Nat) : Prop := ∃ b o k, g b = some o ∧ o.writable = true ∧ f b = some (c, k)
def ImgL (f : Inj) (g : Nat → Option AObj) (c : Nat) : Prop := ∃ b o k, g b = some o ∧ f b = some (c, k)

structure Ext (f : Inj) (σ : St) (w : World) (f' : Inj) (σ' : St) (w' : World) : Prop where
  le : Inj.le f f'
  os : w'.os = w.os
  tape : w'.tape = w.tape
  output : w'.output = w.output
  size : w.heap.size ≤ w'.heap.size
  keep : ∀ c, c < w.heap.size → ¬ Img f σ.get c → w'.heap[c]? = w.heap[c]?
  img : ∀ c, c < w.heap.size → Img f' σ'.get c → Img f σ.get c
  imgl : ∀ c, c < w.heap.size → ImgL f' σ'.get c → ImgL f σ.get c
  new : ∀ b x, f' b = some x → f b = some x ∨ σ.next ≤ b
  next : σ.next ≤ σ'.next

theorem Ext.refl (f : Inj) (σ : St) (w : World) : Ext f σ w f σ w := ⟨fun _ _ h => h, rfl, rfl, rfl, Nat.le_refl _, fun _ _ _ => rfl, fun _ _ h => h, fun _ _ h => h, fun _ _ h => .inl h, Nat.le_refl _⟩

theorem Ext.trans {f f1 f2 : Inj} {σ σ1 σ2 : St} {w w1 w2 : World} (h : Ext f σ w f1 σ1 w1) (g : Ext f1 σ1 w1 f2 σ2 w2) : Ext f σ w f2 σ2 w2 where
  le := fun b x e => g.le b x (h.le b x e)
  os := g.os.trans h.os
  tape := g.tape.trans h.tape
  output := g.output.trans h.output
  size := Nat.le_trans h.size g.size
  keep := fun c hc hn => (g.keep c (Nat.lt_of_lt_of_le hc h.size) (fun hi => hn (h.img c hc hi))).trans (h.keep c hc hn)
  img := fun c hc hi => h.img c hc (g.img c (Nat.lt_of_lt_of_le hc h.size) hi)
  imgl := fun c hc hi => h.imgl c hc (g.imgl c (Nat.lt_of_lt_of_le hc h.size) hi)
  new := fun b x e => (g.new b x e).elim (h.new b x) (fun e => .inr (Nat.le_trans h.next e))
  next := Nat.le_trans h.next g.next

theorem ObjRel.mono {f g : Inj} (h : Inj.le f g) {k : Nat} {o : AObj} {o' : Obj} (r : ObjRel f k o o') : ObjRel g k o o' := by
  cases r with
  | cells cs elem kd cs' fr more h1 h2 h3 h4 => exact .cells cs elem kd cs' fr more (h1.mono h) h2 h3 h4
  | blob n elem cs' fr h1 h2 => exact .blob n elem cs' fr h1 h2
  | map ik es es' clock m => exact .map ik es es' clock ⟨m.nodup, fun k v hk => let ⟨e, a, b, c⟩ := m.to k v hk; ⟨e, a, b, c.mono h⟩, m.of, m.keys, m.born, m.lt⟩
end Go.As
namespace Go.As

/-- A result carried over to another world. -/
def Result.at {α : Type} (r : Result α) (w : World) : Result α :=
  match r with
  | .ok a _ => .ok a w
  | .halt h _ => .halt h w

/-- No memory: the same in every world, and the world is left alone. -/
def NM {α : Type} (P : Program) (s : Sem α) : Prop := ∀ w w0, s.run P w = Result.at (s.run P w0) w

section
variable {P : Program} {α β : Type}

theorem NM.pure (a : α) : NM P (Pure.pure a : Sem α) := fun w w0 => by simp [Result.at]
theorem NM.halt (h : Halt) : NM P (.halt h : Sem α) := fun w w0 => by simp [Sem.run, Result.at]
theorem NM.bind {s : Sem α} {k : α → Sem β} (hs : NM P s) (hk : ∀ a, NM P (k a)) : NM P (s >>= k) := by
  intro w w0
  rw [Sem.run_bind, Sem.run_bind, hs w w0]
  cases hr : s.run P w0 with
  | ok a w1 =>
    have : w1 = w0 := by have := hs w0 w0; rw [hr] at this; simpa [Result.at] using this
    subst this
    simp only [Result.at, Result.andThen_ok]
    exact hk a w w1
  | halt h w1 => simp [Result.at, Result.andThen]
theorem NM.program : NM P program := fun w w0 => by simp [run_program, Result.at]
theorem NM.underlying (t : TypeId) : NM P (underlying t) := by
  unfold Go.underlying
  refine NM.bind NM.program fun p => ?_
  split
  · exact NM.pure _
  · exact NM.halt _
theorem NM.typeInfo (t : TypeId) : NM P (typeInfo t) := by
  unfold Go.typeInfo
  refine NM.bind NM.program fun p => ?_
  split
  · exact NM.pure _
  · exact NM.halt _
theorem NM.sizeOf (t : TypeId) : NM P (Go.sizeOf t) := NM.bind (NM.typeInfo t) fun _ => NM.pure _
theorem NM.isAgg (t : TypeId) : NM P (Go.isAgg t) := by
  unfold Go.isAgg
  refine NM.bind (NM.underlying t) fun d => ?_
  split <;> exact NM.pure _
theorem NM.zeroValue (t : TypeId) : NM P (Go.zeroValue t) := by
  unfold Go.zeroValue
  refine NM.bind (NM.typeInfo t) fun i => ?_
  split
  · exact NM.pure _
  · exact NM.halt _
theorem NM.part (t : TypeId) (cs : Array Value) (off : Nat) : NM P (Go.part t cs off) := by
  unfold Go.part
  refine NM.bind (NM.isAgg t) fun b => ?_
  split
  · exact NM.bind (NM.sizeOf t) fun _ => NM.pure _
  · split
    · exact NM.pure _
    · exact NM.halt _
theorem NM.runtimePanic_error (m : String) : NM P (runtimePanic (.error m) : Sem α) := by
  unfold runtimePanic
  exact NM.bind NM.program fun p => NM.halt _

theorem NM.forIn_list {γ δ : Type} (f : δ → γ → Sem (ForInStep γ)) (hf : ∀ x c, NM P (f x c)) : ∀ (l : List δ) (c : γ), NM P (ForIn.forIn l c f)
  | [], c => NM.pure c
  | x :: l, c => by
    simp only [List.forIn_cons]
    refine NM.bind (hf x c) fun r => ?_
    cases r with
    | done b => exact NM.pure b
    | yield b => exact NM.forIn_list f hf l b

/-- Values whose comparison is by their bits: no float, no address. -/
def disc1 : Value → Bool
  | .bool _ | .int .. | .string _ => true
  | _ => false
def discV : Value → Bool
  | .agg ⟨cs⟩ => cs.all disc1
  | v => disc1 v

theorem disc1_ne {v : Value} (h : disc1 v = true) : (∃ b, v = .bool b) ∨ (∃ k n, v = .int k n) ∨ (∃ s, v = .string s) := by
  unfold disc1 at h
  split at h <;> first | (cases h; done) | simp

/-- Neither a float nor an address inside. -/
def Fine (v : Value) : Prop := (∃ b, v = .bool b) ∨ (∃ k n, v = .int k n) ∨ (∃ s, v = .string s) ∨ (∃ cs : Array Value, v = .agg cs ∧ ∀ x ∈ cs.toList, disc1 x = true)

theorem Fine.of_disc {v : Value} (h : discV v = true) : Fine v := by
  unfold discV at h
  split at h
  · rename_i cs
    exact .inr (.inr (.inr ⟨⟨cs⟩, rfl, fun x hx => List.all_eq_true.1 h x hx⟩))
  · rcases disc1_ne h with h | h | h
    · exact .inl h
    · exact .inr (.inl h)
    · exact .inr (.inr (.inl h))

theorem Fine.of_disc1 {v : Value} (h : disc1 v = true) : Fine v := by
  rcases disc1_ne h with h | h | h
  · exact .inl h
  · exact .inr (.inl h)
  · exact .inr (.inr (.inl h))

/-- A part of a fine aggregate: read off without memory, and fine. -/
theorem part_fine (t : TypeId) {cs : Array Value} (h : ∀ x ∈ cs.toList, disc1 x = true) (off : Nat) : ∀ w a w', (Go.part t cs off).run P w = .ok a w' → Fine a := by
  intro w a w' hr
  unfold Go.part at hr
  rw [Sem.run_bind] at hr
  cases hi : (Go.isAgg t).run P w with
  | halt x w1 => rw [hi] at hr; simp [Result.andThen] at hr
  | ok b w1 =>
    rw [hi] at hr
    simp only [Result.andThen_ok] at hr
    cases b with
    | true =>
      simp only [if_true] at hr
      rw [Sem.run_bind] at hr
      cases hs : (Go.sizeOf t).run P w1 with
      | halt x w2 => rw [hs] at hr; simp [Result.andThen] at hr
      | ok n w2 =>
        rw [hs] at hr
        simp only [Result.andThen_ok, Sem.run_pure, Result.ok.injEq] at hr
        rw [← hr.1]
        refine .inr (.inr (.inr ⟨_, rfl, fun x hx => h x ?_⟩))
        rw [Array.toList_extract] at hx
        exact List.mem_of_mem_drop (List.mem_of_mem_take hx)
    | false =>
      simp only [Bool.false_eq_true, if_false] at hr
      split at hr
      · rename_i v hv
        simp only [Sem.run_pure, Result.ok.injEq] at hr
        rw [← hr.1]
        exact Fine.of_disc1 (h v (by simpa using Array.mem_of_getElem? hv))
      · simp [stuck] at hr

theorem NM.bind' {s : Sem α} {k : α → Sem β} (hs : NM P s) (hk : ∀ a, (∃ w w', s.run P w = .ok a w') → NM P (k a)) : NM P (s >>= k) := by
  intro w w0
  rw [Sem.run_bind, Sem.run_bind, hs w w0]
  cases hr : s.run P w0 with
  | ok a w1 =>
    have : w1 = w0 := by have := hs w0 w0; rw [hr] at this; simpa [Result.at] using this
    subst this
    simp only [Result.at, Result.andThen_ok]
    exact hk a ⟨_, _, hr⟩ w w1
  | halt h w1 => simp [Result.at, Result.andThen]

theorem NM.equalIn : ∀ (d : Nat) (t : TypeId) {x y : Value}, Fine x → Fine y → NM P (Op.equalIn d t x y) := by
  intro d
  induction d with
  | zero => intro t x y _ _; unfold Op.equalIn; exact NM.halt _
  | succ d ih =>
    intro t x y hx hy
    unfold Op.equalIn
    refine NM.bind (NM.underlying t) fun td => ?_
    rcases hx with ⟨b, rfl⟩ | ⟨k, n, rfl⟩ | ⟨s, rfl⟩ | ⟨xs, rfl, hxs⟩ <;> rcases hy with ⟨b', rfl⟩ | ⟨k', n', rfl⟩ | ⟨s', rfl⟩ | ⟨ys, rfl, hys⟩ <;> cases td <;> simp only [] <;>
      first
        | exact NM.pure _
        | exact NM.halt _
        | (split <;> first | exact NM.pure _ | exact NM.halt _)
        | skip
    · -- arrays
      rename_i len elem
      refine NM.bind (NM.sizeOf _) fun n => ?_
      simp only [Std.Legacy.Range.forIn_eq_forIn_range']
      refine NM.bind (NM.forIn_list _ (fun i c => ?_) _ _) fun r => ?_
      · refine NM.bind' (NM.part _ _ _) fun a ha => ?_
        obtain ⟨w1, w2, ha⟩ := ha
        refine NM.bind' (NM.part _ _ _) fun b hb => ?_
        obtain ⟨w3, w4, hb⟩ := hb
        refine NM.bind (ih _ (part_fine _ hxs _ _ _ _ ha) (part_fine _ hys _ _ _ _ hb)) fun r => ?_
        split <;> exact NM.pure _
      · split <;> exact NM.pure _
    · -- structs
      rename_i fields
      refine NM.bind NM.program fun p => ?_
      split
      · exact NM.bind (NM.halt _) fun _ => by
          rw [← Array.forIn_toList]
          refine NM.bind (NM.forIn_list _ (fun i c => ?_) _ _) fun r => ?_
          · split
            · refine NM.bind' (NM.part _ _ _) fun a ha => ?_
              obtain ⟨w1, w2, ha⟩ := ha
              refine NM.bind' (NM.part _ _ _) fun b hb => ?_
              obtain ⟨w3, w4, hb⟩ := hb
              refine NM.bind (ih _ (part_fine _ hxs _ _ _ _ ha) (part_fine _ hys _ _ _ _ hb)) fun r => ?_
              split <;> exact NM.pure _
            · exact NM.pure _
          · split <;> exact NM.pure _
      · rw [← Array.forIn_toList]
        refine NM.bind (NM.forIn_list _ (fun i c => ?_) _ _) fun r => ?_
        · split
          · refine NM.bind' (NM.part _ _ _) fun a ha => ?_
            obtain ⟨w1, w2, ha⟩ := ha
            refine NM.bind' (NM.part _ _ _) fun b hb => ?_
            obtain ⟨w3, w4, hb⟩ := hb
            refine NM.bind (ih _ (part_fine _ hxs _ _ _ _ ha) (part_fine _ hys _ _ _ _ hb)) fun r => ?_
            split <;> exact NM.pure _
          · exact NM.pure _
        · split <;> exact NM.pure _

theorem NM.eqGuardIn : ∀ (d : Nat) (t : TypeId) {x y : Value}, Fine x → Fine y → NM P (Op.eqGuardIn d t x y) := by
  intro d
  induction d with
  | zero => intro t x y _ _; unfold Op.eqGuardIn; exact NM.halt _
  | succ d ih =>
    intro t x y hx hy
    unfold Op.eqGuardIn
    refine NM.bind (NM.underlying t) fun td => ?_
    rcases hx with ⟨b, rfl⟩ | ⟨k, n, rfl⟩ | ⟨s, rfl⟩ | ⟨xs, rfl, hxs⟩ <;> rcases hy with ⟨b', rfl⟩ | ⟨k', n', rfl⟩ | ⟨s', rfl⟩ | ⟨ys, rfl, hys⟩ <;> cases td <;> simp only [] <;>
      first
        | exact NM.pure _
        | skip
    · rename_i len elem
      refine NM.bind (NM.sizeOf _) fun n => ?_
      simp only [Std.Legacy.Range.forIn_eq_forIn_range']
      refine NM.bind (NM.forIn_list _ (fun i c => ?_) _ _) fun r => ?_
      · refine NM.bind' (NM.part _ _ _) fun a ha => ?_
        obtain ⟨w1, w2, ha⟩ := ha
        refine NM.bind' (NM.part _ _ _) fun b hb => ?_
        obtain ⟨w3, w4, hb⟩ := hb
        refine NM.bind (ih _ (part_fine _ hxs _ _ _ _ ha) (part_fine _ hys _ _ _ _ hb)) fun r => ?_
        split <;> exact NM.pure _
      · split <;> exact NM.pure _
    · rename_i fields
      rw [← Array.forIn_toList]
      refine NM.bind (NM.forIn_list _ (fun i c => ?_) _ _) fun r => ?_
      · split
        · refine NM.bind' (NM.part _ _ _) fun a ha => ?_
          obtain ⟨w1, w2, ha⟩ := ha
          refine NM.bind' (NM.part _ _ _) fun b hb => ?_
          obtain ⟨w3, w4, hb⟩ := hb
          refine NM.bind (ih _ (part_fine _ hxs _ _ _ _ ha) (part_fine _ hys _ _ _ _ hb)) fun r => ?_
          split <;> exact NM.pure _
        · exact NM.pure _
      · split <;> exact NM.pure _

theorem NM.eqGuard (op : BinOp) (t : TypeId) (xo yo : Operand) {x y : Value} (hx : Fine x) (hy : Fine y) : NM P (eqGuard op t xo yo x y) := by
  unfold Go.eqGuard
  have key : NM P (do
      if !(← Go.program).eqGuardType (← Go.program).depth t then return
      if ← Op.eqGuardIn Op.maxDepth t x y then unsupported (.noEntry "binop/eql: two nil values of an interface type with methods, in a part of a struct or an array") : Sem Unit) := by
    refine NM.bind NM.program fun p => NM.bind NM.program fun q => ?_
    split
    · exact NM.pure _
    · refine NM.bind (NM.eqGuardIn _ _ hx hy) fun r => ?_
      split
      · exact NM.halt _
      · exact NM.pure _
  generalize (!match op with | BinOp.eql => true | BinOp.neq => true | _ => false) = g
  cases g
  · rcases hx with ⟨b, rfl⟩ | ⟨k, n, rfl⟩ | ⟨s, rfl⟩ | ⟨xs, rfl, hxs⟩ <;> rcases hy with ⟨b', rfl⟩ | ⟨k', n', rfl⟩ | ⟨s', rfl⟩ | ⟨ys, rfl, hys⟩ <;> first | exact NM.pure _ | exact key
  · exact NM.pure _

theorem NM.binOp (op : BinOp) (t : TypeId) {x y : Value} (hx : Fine x) (hy : Fine y) : NM P (binOp op t x y) := by
  have he : NM P (Op.equal t x y) := NM.equalIn _ _ hx hy
  have h1 : NM P (do Pure.pure (Value.bool (← Op.equal t x y)) : Sem Value) := NM.bind he fun _ => NM.pure _
  have h2 : NM P (do Pure.pure (Value.bool (!(← Op.equal t x y))) : Sem Value) := NM.bind he fun _ => NM.pure _
  rcases hx with ⟨b, rfl⟩ | ⟨k, n, rfl⟩ | ⟨s, rfl⟩ | ⟨xs, rfl, hxs⟩ <;> rcases hy with ⟨b', rfl⟩ | ⟨k', n', rfl⟩ | ⟨s', rfl⟩ | ⟨ys, rfl, hys⟩ <;> cases op <;> unfold Go.binOp <;>
    first
      | exact h1
      | exact h2
      | exact NM.halt _
      | (simp only [Op.shift]; split <;> first | exact NM.runtimePanic_error _ | exact NM.pure _)
      | (simp only [Op.intArith, Op.intBits, Op.intCmp]; split <;> first | exact NM.pure _ | exact NM.halt _)
      | (simp only [Op.intDiv]; split <;> first | exact NM.halt _ | (split <;> first | exact NM.runtimePanic_error _ | exact NM.pure _))
      | (simp only [Op.stringOp]; first | exact NM.pure _ | exact NM.halt _ | (split <;> first | exact NM.pure _ | exact NM.halt _))

theorem NM.unary (op : UnOp) (x : Value) : NM P (Op.unary op x) := by
  unfold Op.unary
  split <;> first | exact NM.pure _ | exact NM.halt _

/-- What an operation without memory comes to. -/
def pureRun (P : Program) (s : Sem α) : Option α :=
  match s.run P default with
  | .ok v _ => some v
  | .halt _ _ => none

theorem pureRun_ok {s : Sem α} (hs : NM P s) {v : α} (h : pureRun P s = some v) (w : World) : s.run P w = .ok v w := by
  unfold pureRun at h
  rw [hs w default]
  split at h
  · rename_i hr
    cases h
    rw [hr]
    rfl
  · cases h
end
end Go.As
namespace Go.As

/-! ### Worlds: one block turned -/
def upd (w : World) (g : Nat) (o : Obj) : World := { w with heap := w.heap.setIfInBounds g o }

theorem upd_same {w : World} {g : Nat} {o : Obj} (h : g < w.heap.size) : (upd w g o).heap[g]? = some o := by simp [upd, h]
theorem upd_ne {w : World} {g c : Nat} {o : Obj} (h : c ≠ g) : (upd w g o).heap[c]? = w.heap[c]? := by
  simp only [upd]
  rw [Array.getElem?_setIfInBounds_ne (Ne.symm h)]
@[simp] theorem upd_size (w : World) (g : Nat) (o : Obj) : (upd w g o).heap.size = w.heap.size := by simp [upd]
theorem upd_upd (w : World) (g : Nat) (o o' : Obj) : upd (upd w g o) g o' = upd w g o' := by simp [upd]
theorem upd_self {w : World} {g : Nat} {o : Obj} (h : w.heap[g]? = some o) : upd w g o = w := by
  obtain ⟨hg, e⟩ := Array.getElem?_eq_some_iff.1 h
  subst e
  unfold upd
  congr 1
  apply Array.ext_getElem?
  intro i
  by_cases hi : g = i
  · subst hi; simp [hg]
  · rw [Array.getElem?_setIfInBounds_ne hi]

theorem cell_of {w : World} {b : Nat} {o : Nat} {cs : Array Value} {t : TypeId} {fr : Nat × Nat} (h : w.heap[b]? = some (.cells cs t fr)) : w.cell? ⟨b, o, none⟩ = cs[o]? := by
  simp [World.cell?, h]
theorem frozen_of {w : World} {b : Nat} {o : Nat} {cs : Array Value} {t : TypeId} {fr : Nat × Nat} (h : w.heap[b]? = some (.cells cs t fr)) (hf : ∀ i, i < cs.size → ¬ (fr.1 ≤ i ∧ i < fr.2)) (ho : o < cs.size) :
    w.frozen? ⟨b, o, none⟩ = false := by
  have := hf o ho
  simp only [World.frozen?, h]
  simpa using this
theorem setCell_of {w : World} {b : Nat} {o : Nat} {cs : Array Value} {t : TypeId} {fr : Nat × Nat} (h : w.heap[b]? = some (.cells cs t fr)) (v : Value) :
    w.setCell ⟨b, o, none⟩ v = upd w b (.cells (cs.setIfInBounds o v) t fr) := by
  obtain ⟨hb, e⟩ := Array.getElem?_eq_some_iff.1 h
  unfold World.setCell upd
  congr 1
  apply Array.ext_getElem?
  intro i
  by_cases hi : b = i
  · subst hi
    rw [Array.getElem?_modify, if_pos rfl, h]
    simp [hb]
  · rw [Array.getElem?_setIfInBounds_ne hi, Array.getElem?_modify]
    simp [hi]

/-- A list with a part put over it. -/
def splice {α : Type} (l : List α) (k : Nat) (vs : List α) : List α := l.take k ++ vs ++ l.drop (k + vs.length)

theorem splice_cons {α : Type} (l : List α) (k : Nat) (v : α) (vs : List α) (h : k < l.length) : splice (l.set k v) (k + 1) vs = splice l k (v :: vs) := by
  unfold splice
  rw [List.take_set, List.drop_set_of_lt (by omega)]
  rw [List.take_succ_eq_append_getElem h, List.set_append]
  have e : (List.take k l).length = k := by simp; omega
  simp only [e, Nat.lt_irrefl, if_false, Nat.sub_self, List.set_cons_zero, List.length_cons]
  simp [Nat.add_assoc, Nat.add_comm 1]

theorem splice_nil {α : Type} (l : List α) (k : Nat) : splice l k [] = l := by simp [splice]
theorem splice_length {α : Type} (l vs : List α) (k : Nat) (h : k + vs.length ≤ l.length) : (splice l k vs).length = l.length := by
  simp [splice]; omega

theorem LRel.splice {f : Inj} {l l' vs vs' : List Value} (h : LRel f l l') (k : Nat) (hv : LRel f vs vs') : LRel f (splice l k vs) (splice l' k vs') := by
  unfold As.splice
  rw [hv.1]
  exact ((h.take k).append hv).append (h.drop _)

theorem run_storeCells {P : Program} (g o : Nat) (t : TypeId) (fr : Nat × Nat) : ∀ (vs : List Value) (i : Nat) (cur : Array Value) (w : World), w.heap[g]? = some (.cells cur t fr) →
    (∀ i, i < cur.size → ¬ (fr.1 ≤ i ∧ i < fr.2)) → o + i + vs.length ≤ cur.size → (∀ v ∈ vs, v.oneCell' = true) →
    (storeCells ⟨g, o, none⟩ vs i).run P w = .ok () (upd w g (.cells (splice cur.toList (o + i) vs).toArray t fr))
  | [], i, cur, w, hg, _, _, _ => by simp only [storeCells, splice_nil, Array.toArray_toList]; rw [upd_self hg]; rfl
  | v :: vs, i, cur, w, hg, hf, hl, h1 => by
    have ho : o + i < cur.size := by simp at hl; omega
    simp only [storeCells, Sem.run_bind]
    rw [run_store P w _ v _ (h1 v (by simp)), Addr.add_lit, cell_of hg, frozen_of hg hf ho, setCell_of hg]
    simp only [ho, getElem?_pos, Bool.false_eq_true, if_false, Result.andThen_ok]
    rw [run_storeCells g o t fr vs (i + 1) (cur.setIfInBounds (o + i) v) _ (upd_same (Array.getElem?_eq_some_iff.1 hg).1) (by simpa using hf) (by simp at hl ⊢; omega) (fun u hu => h1 u (by simp [hu]))]
    rw [upd_upd, Array.toList_setIfInBounds, show o + (i + 1) = (o + i) + 1 from rfl, splice_cons _ _ _ _ (by simpa using ho)]

/-! ### Operands -/
def evA (T : List Value) : Operand → Value
  | .tmp t => T.getD t undef
  | .const v => v
  | .global g => .pointer (some ⟨g, 0, none⟩)
  | .func f => .func (.func f) #[] #[]

def opdOk : Operand → Bool
  | .const v => closedV v
  | .global _ => false
  | _ => true

theorem VRel.undef (f : Inj) : VRel f undef undef := VRel.closed f rfl

theorem evA_rel {f : Inj} {T : List Value} {a : Act} (hT : LRel f T a.tmps.toList) {x : Operand} (hx : opdOk x = true) : VRel f (evA T x) (a.eval x) := by
  cases x with
  | tmp t =>
    simp only [evA, Act.eval]
    cases h : T[t]? with
    | some v =>
      obtain ⟨v', h', r⟩ := hT.get h
      have : a.tmps.getD t Go.undef = v' := by simp [Array.getElem?_toList] at h'; simp [h']
      rw [this]
      simp only [List.getD, h, Option.getD_some]
      exact r
    | none =>
      have h' : a.tmps.toList[t]? = none := by
        rw [List.getElem?_eq_none_iff] at h ⊢
        rw [← hT.1]; exact h
      have : a.tmps.getD t Go.undef = Go.undef := by simp [Array.getElem?_toList] at h'; simp [h']
      rw [this]
      simp only [List.getD, h, Option.getD_none]
      exact VRel.undef f
  | const v => exact VRel.closed f hx
  | global g => simp [opdOk] at hx
  | func fn => exact VRel.closed f rfl

theorem VRel.bool_of {f : Inj} {b : Bool} {v : Value} (h : VRel f (.bool b) v) : v = .bool b := by cases h; rfl
theorem VRel.int_of {f : Inj} {k : IntKind} {n : Int} {v : Value} (h : VRel f (.int k n) v) : v = .int k n := by cases h; rfl
theorem VRel.string_of {f : Inj} {s : ByteArray} {v : Value} (h : VRel f (.string s) v) : v = .string s := by cases h; rfl
theorem VRel.ptr_of {f : Inj} {a : Addr} {v : Value} (h : VRel f (.pointer (some a)) v) : ∃ a', v = .pointer (some a') ∧ PtrOk f a a' := by cases h; exact ⟨_, rfl, by assumption⟩
theorem VRel.agg_inv {f : Inj} {cs : Array Value} {v : Value} (h : VRel f (.agg cs) v) : ∃ cs' : Array Value, v = .agg cs' ∧ LRel f cs.toList cs'.toList := by
  cases h with
  | agg _ cs' hs hr => exact ⟨cs', rfl, by simpa using hs, hr⟩
theorem VRel.tuple_inv {f : Inj} {cs : Array Value} {v : Value} (h : VRel f (.tuple cs) v) : ∃ cs' : Array Value, v = .tuple cs' ∧ LRel f cs.toList cs'.toList := by
  cases h with
  | tuple _ cs' hs hr => exact ⟨cs', rfl, by simpa using hs, hr⟩
theorem VRel.slice_of {f : Inj} {a : Addr} {n c : Nat} {v : Value} (h : VRel f (.slice (some a) n c) v) : ∃ a' c', v = .slice (some a') n c' ∧ SlOk f a a' n c c' := by
  cases h; exact ⟨_, _, rfl, by assumption⟩
theorem VRel.map_of {f : Inj} {r : Nat} {v : Value} (h : VRel f (.map (some r)) v) : ∃ r' k, v = .map (some r') ∧ f r = some (r', k) := by
  cases h; exact ⟨_, _, rfl, by assumption⟩

theorem LRel.disc {f : Inj} : ∀ {l l' : List Value}, LRel f l l' → l.all disc1 = true → l' = l
  | [], l', h, _ => h.of_nil
  | v :: l, k, h, ha => by
    obtain ⟨v', l', rfl, hv, hl⟩ := h.of_cons
    simp at ha
    rw [LRel.disc hl (by simpa using ha.2)]
    rcases disc1_ne ha.1 with ⟨b, rfl⟩ | ⟨k, n, rfl⟩ | ⟨s, rfl⟩
    · rw [hv.bool_of]
    · rw [hv.int_of]
    · rw [hv.string_of]

theorem VRel.disc {f : Inj} {v v' : Value} (h : VRel f v v') (hd : discV v = true) : v' = v := by
  unfold discV at hd
  split at hd
  · rename_i cs
    obtain ⟨cs', rfl, hl⟩ := h.agg_inv
    have := LRel.disc hl hd
    obtain ⟨l'⟩ := cs'
    simp at this
    rw [this]
  · rcases disc1_ne hd with ⟨b, rfl⟩ | ⟨k, n, rfl⟩ | ⟨s, rfl⟩
    · exact h.bool_of
    · exact h.int_of
    · exact h.string_of

/-! ### Cells of a related block -/
theorem PtrOk.eq {f : Inj} {a a' : Addr} (h : PtrOk f a a') : a = ⟨a.block, a.off, none⟩ ∧ a' = ⟨a'.block, a.off, none⟩ := by
  obtain ⟨s, s', o, _⟩ := h
  cases a; cases a'
  simp_all

theorem Rel.cells {f : Inj} {σ : St} {w : World} (hR : Rel f σ w) {b : Nat} {cs : List Value} {e : TypeId} {kd : Kd} (hb : σ.get b = some (.cells cs e kd)) {c k : Nat} (hf : f b = some (c, k)) :
    ∃ (cs' : Array Value) (fr : Nat × Nat), w.heap[c]? = some (.cells cs' e fr) ∧ LRel f cs (cs'.toList.take cs.length) ∧ cs.length ≤ cs'.size ∧ (kd ≠ .ro → FrOk cs'.size fr) ∧ (∀ sz, kd = .vec sz → cs'.size = k * sz) := by
  obtain ⟨o', ho', hr⟩ := hR.obj b _ c k hb hf
  cases hr with
  | cells _ _ _ cs' fr more h1 h2 h3 h4 =>
    refine ⟨cs', fr, ho', h1, ?_, h3, h4⟩
    have := h1.1
    simp at this
    omega

theorem Rel.blob {f : Inj} {σ : St} {w : World} (hR : Rel f σ w) {b n : Nat} (hb : σ.get b = some (.blob n)) {c k : Nat} (hf : f b = some (c, k)) :
    ∃ (cs' : Array Value) (e : TypeId) (fr : Nat × Nat), w.heap[c]? = some (.cells cs' e fr) ∧ n ≤ cs'.size ∧ FrOk cs'.size fr := by
  obtain ⟨o', ho', hr⟩ := hR.obj b _ c k hb hf
  cases hr with
  | blob _ e cs' fr h1 h2 => exact ⟨cs', e, fr, ho', h1, h2⟩

theorem Rel.cell {f : Inj} {σ : St} {w : World} (hR : Rel f σ w) {b : Nat} {cs : List Value} {e : TypeId} {kd : Kd} (hb : σ.get b = some (.cells cs e kd)) {c k : Nat} (hf : f b = some (c, k)) {i : Nat} {v : Value} (hi : cs[i]? = some v) :
    ∃ v', w.cell? ⟨c, i, none⟩ = some v' ∧ VRel f v v' := by
  obtain ⟨cs', fr, hc, hl, _⟩ := hR.cells hb hf
  obtain ⟨v', h', r⟩ := hl.get hi
  refine ⟨v', ?_, r⟩
  rw [cell_of hc]
  rw [List.getElem?_take] at h'
  split at h'
  · simpa [Array.getElem?_toList] using h'
  · cases h'

/-- A row of cells, read. -/
theorem Rel.row {P : Program} {f : Inj} {σ : St} {w : World} (hR : Rel f σ w) {b : Nat} {cs : List Value} {e : TypeId} {kd : Kd} (hb : σ.get b = some (.cells cs e kd)) {c k : Nat} (hf : f b = some (c, k)) {o n : Nat} (hn : o + n ≤ cs.length) :
    ∃ vs : List Value, (loadCells ⟨c, o, none⟩ n).run P w = .ok vs.toArray w ∧ LRel f ((cs.drop o).take n) vs ∧ vs.length = n := by
  obtain ⟨cs', fr, hc, hl, hle, _⟩ := hR.cells hb hf
  have hlen : ((cs'.toList.drop o).take n).length = n := by simp; omega
  refine ⟨(cs'.toList.drop o).take n, ?_, ?_, hlen⟩
  · have h1 := run_loadCells_list (P := P) w ⟨c, o, none⟩ ((cs'.toList.drop o).take n) (fun j v hj => by
      rw [Addr.add_lit, cell_of hc]
      rw [List.getElem?_take] at hj
      split at hj
      · simpa [List.getElem?_drop, Array.getElem?_toList] using hj
      · cases hj)
    rwa [hlen] at h1
  · have h2 := (hl.drop o).take n
    have e : List.take n (List.drop o (List.take cs.length cs'.toList)) = List.take n (List.drop o cs'.toList) := by
      rw [List.drop_take, List.take_take]
      congr 1
      omega
    rwa [e] at h2

/-! ### Silent operations -/
def aggD : TypeDesc → Bool
  | .struct _ | .array _ _ => true
  | _ => false

theorem run_isAgg {P : Program} {t : TypeId} {d : TypeDesc} (h : P.underlying t = some d) (w : World) : (isAgg t).run P w = .ok (aggD d) w := by
  unfold isAgg
  rw [Sem.run_bind, run_underlying h]
  simp only [Result.andThen_ok]
  cases d <;> rfl
theorem run_sizeOf {P : Program} {t : TypeId} {i : TypeInfo} (h : P.info? t = some i) (w : World) : (Go.sizeOf t).run P w = .ok i.size w := by
  unfold Go.sizeOf typeInfo
  simp [h]
theorem run_zeroValue {P : Program} {t : TypeId} {i : TypeInfo} {z : Value} (h : P.info? t = some i) (hz : i.zero = some z) (w : World) : (Go.zeroValue t).run P w = .ok z w := by
  unfold Go.zeroValue typeInfo
  simp [h, hz]

/-- The cells of a variable. -/
def partL (P : Program) (t : TypeId) (cs : List Value) (off : Nat) : Option Value :=
  match P.underlying t, P.info? t with
  | some d, some i => if aggD d then (if off + i.size ≤ cs.length then some (.agg ((cs.drop off).take i.size).toArray) else none) else cs[off]?
  | _, _ => none

def loadA (P : Program) (rd : Nat → Option AObj) (t : TypeId) : Value → Option Value
  | .pointer (some a) =>
    match rd a.block with
    | some (.cells cs _ _) => partL P t cs a.off
    | _ => none
  | _ => none

theorem loadA_ok {P : Program} {f : Inj} {σ : St} {w : World} (hR : Rel f σ w) {t : TypeId} {x x' v : Value} (hx : VRel f x x') (h : loadA P σ.get t x = some v) :
    ∃ v', (Instr.loadAt t x').run P w = .ok v' w ∧ VRel f v v' := by
  unfold loadA at h
  split at h
  · rename_i a
    obtain ⟨a', rfl, hp⟩ := hx.ptr_of
    split at h
    · rename_i cs e kd hb
      obtain ⟨k, hf⟩ := hp.blk
      obtain ⟨ea, ea'⟩ := hp.eq
      unfold partL at h
      split at h
      · rename_i d i hd hi
        simp only [Instr.loadAt, Instr.sureAddr, Sem.run_bind, Sem.run_pure, Result.andThen_ok, loadVar, run_isAgg hd]
        split at h
        · rename_i hg
          split at h
          · rename_i hn
            cases h
            rw [hg]
            simp only [if_true, Sem.run_bind, run_sizeOf hi, Result.andThen_ok]
            obtain ⟨vs, hv, hl, _⟩ := hR.row (P := P) hb hf hn
            rw [ea', hv]
            simp only [Result.andThen_ok, Sem.run_pure]
            exact ⟨_, rfl, VRel.agg_of (by simpa using hl)⟩
          · cases h
        · rename_i hg
          have hg' : aggD d = false := by simpa using hg
          rw [hg']
          simp only [Bool.false_eq_true, if_false]
          obtain ⟨v', hc, r⟩ := hR.cell hb hf h
          refine ⟨v', ?_, r⟩
          rw [ea']
          simp [run_load, hc]
      · cases h
    · cases h
  · cases h
end Go.As
namespace Go.As

/-! ### Building an aggregate -/
theorem foldl_set (off : Nat) : ∀ (vs : List Value) (j : Nat) (cells : Array Value), off + j + vs.length ≤ cells.size →
    ((vs.zipIdx j).foldl (fun cs (c, j) => cs.setIfInBounds (off + j) c) cells).toList = splice cells.toList (off + j) vs
  | [], j, cells, _ => by simp [splice_nil]
  | v :: vs, j, cells, h => by
    simp only [List.zipIdx_cons, List.foldl_cons]
    rw [foldl_set off vs (j + 1) _ (by simp at h ⊢; omega), Array.toList_setIfInBounds, show off + (j + 1) = off + j + 1 from rfl,
      splice_cons _ _ _ _ (by simp at h ⊢; omega)]

theorem fill_rel {f : Inj} (place : Nat → Option (Nat × Nat)) : ∀ (parts parts' : List (Nat × Value)) (z z' : Array Value) (cells : Array Value),
    parts.length = parts'.length → (∀ (i : Nat) (p p' : Nat × Value), parts[i]? = some p → parts'[i]? = some p' → p.1 = p'.1 ∧ VRel f p.2 p'.2) → LRel f z.toList z'.toList →
    Instr.fill place z parts = some cells → ∃ cells', Instr.fill place z' parts' = some cells' ∧ LRel f cells.toList cells'.toList
  | [], parts', z, z', cells, hl, _, hz, h => by
    have : parts' = [] := List.eq_nil_of_length_eq_zero (by simpa using hl.symm)
    subst this
    simp only [Instr.fill] at h ⊢
    cases h
    exact ⟨_, rfl, hz⟩
  | (i, v) :: parts, parts', z, z', cells, hl, hp, hz, h => by
    cases parts' with
    | nil => simp at hl
    | cons p' parts' =>
      obtain ⟨i', v'⟩ := p'
      obtain ⟨hi, hv⟩ := hp 0 (i, v) (i', v') (by simp) (by simp)
      simp only at hi hv
      subst hi
      simp only [Instr.fill] at h ⊢
      cases hpl : place i with
      | none => rw [hpl] at h; cases h
      | some os =>
        obtain ⟨off, size⟩ := os
        rw [hpl] at h
        simp only at h ⊢
        have hvc := hv.cells
        have hs : v.cells.size = v'.cells.size := by have := hvc.1; simpa using this
        have hzs : z.size = z'.size := by have := hz.1; simpa using this
        rw [hs, hzs] at h
        split at h
        · cases h
        · rename_i hn
          rw [if_neg hn]
          refine fill_rel place parts parts' _ _ cells (by simpa using hl) (fun j p p' h1 h2 => hp (j + 1) p p' (by simpa using h1) (by simpa using h2)) ?_ h
          have hb : off + v'.cells.size ≤ z'.size := by simp at hn; exact hn.2
          rw [← Array.foldl_toList, ← Array.foldl_toList, Array.toList_zipIdx, Array.toList_zipIdx]
          rw [foldl_set off v.cells.toList 0 z (by simp; omega), foldl_set off v'.cells.toList 0 z' (by simp; omega)]
          exact LRel.splice hz _ hvc

def zeroOk (P : Program) (t : TypeId) : Bool :=
  match P.info? t with
  | some { zero := some z, .. } => closedV z
  | _ => false

theorem zeroOk_spec {P : Program} {t : TypeId} (h : zeroOk P t = true) : ∃ i z, P.info? t = some i ∧ i.zero = some z ∧ closedV z = true := by
  unfold zeroOk at h
  split at h
  · rename_i hi; exact ⟨_, _, hi, rfl, h⟩
  · cases h

def buildA (P : Program) (t : TypeId) (parts : List (Nat × Value)) : Option Value :=
  if zeroOk P t then (P.built t parts).map .agg else none

theorem buildA_ok {P : Program} {f : Inj} {t : TypeId} {parts : List (Nat × Value)} {parts' : Array (Nat × Value)} {v : Value} (hl : parts.length = parts'.toList.length)
    (hp : ∀ (i : Nat) (p p' : Nat × Value), parts[i]? = some p → parts'.toList[i]? = some p' → p.1 = p'.1 ∧ VRel f p.2 p'.2) (h : buildA P t parts = some v) (w : World) :
    ∃ v', (Instr.build t parts').run P w = .ok v' w ∧ VRel f v v' := by
  unfold buildA at h
  split at h
  · rename_i hz
    obtain ⟨i, z, hi, hiz, hc⟩ := zeroOk_spec hz
    cases hb : P.built t parts with
    | none => rw [hb] at h; cases h
    | some cells =>
      rw [hb] at h
      cases h
      have key : ∃ cells', P.built t parts'.toList = some cells' ∧ LRel f cells.toList cells'.toList := by
        have hzr : LRel f z.cells.toList z.cells.toList := (VRel.closed f hc).cells
        unfold Program.built at hb ⊢
        rw [hi] at hb ⊢
        cases hu : P.underlying t with
        | none => rw [hu] at hb; cases hb
        | some d =>
          rw [hu] at hb
          cases d <;> simp only [hiz] at hb ⊢ <;> try (cases hb; done)
          case array n e =>
            cases he : P.info? e with
            | none => rw [he] at hb; cases hb
            | some ie => rw [he] at hb; exact fill_rel _ _ _ _ _ _ hl hp hzr hb
          case struct fields =>
            cases hm : fields.toList.mapM (fun f => (P.info? f.type).map fun i => (f.offset, i.size)) with
            | none => rw [hm] at hb; cases hb
            | some places => rw [hm] at hb; exact fill_rel _ _ _ _ _ _ hl hp hzr hb
      obtain ⟨cells', hb', hr⟩ := key
      exact ⟨_, run_build w t parts' cells' hb', VRel.agg_of hr⟩
  · cases h

/-! ### Addresses -/
theorem PtrOk.add {f : Inj} {a a' : Addr} (h : PtrOk f a a') (n : Nat) : PtrOk f (a.add n) (a'.add n) := by
  obtain ⟨s, s', o, b⟩ := h
  unfold Addr.add
  split
  · exact ⟨s, s', o, b⟩
  · exact ⟨rfl, rfl, by simp [o], b⟩

def fieldAddrA (P : Program) (s : TypeId) (i : Nat) : Value → Option Value
  | .pointer (some a) =>
    match P.underlying s with
    | some (.struct fields) =>
      match fields[i]? with
      | some fd => match P.info? fd.type with
        | some it => if it.size = 0 then none else some (.pointer (some (a.add fd.offset)))
        | none => none
      | none => none
    | _ => none
  | _ => none

theorem fieldAddrA_ok {P : Program} {f : Inj} {s : TypeId} {i : Nat} {x x' v : Value} (hx : VRel f x x') (h : fieldAddrA P s i x = some v) (w : World) :
    ∃ v', (Instr.fieldAt s x' i).run P w = .ok v' w ∧ VRel f v v' := by
  unfold fieldAddrA at h
  split at h
  · rename_i a
    obtain ⟨a', rfl, hp⟩ := hx.ptr_of
    split at h
    · rename_i fields hu
      split at h
      · rename_i fd hfd
        split at h
        · rename_i it hi
          split at h
          · cases h
          · rename_i hs
            cases h
            refine ⟨.pointer (some (a'.add fd.offset)), ?_, .ptr _ _ (hp.add _)⟩
            simp [Instr.fieldAt, run_underlying hu, hfd, Instr.sureAddr, fieldPlace, run_sizeOf hi, hs]
        · cases h
      · cases h
    · cases h
  · cases h

def fieldA (P : Program) (t : TypeId) (i : Nat) : Value → Option Value
  | .agg cs =>
    match P.underlying t with
    | some (.struct fields) =>
      match fields[i]? with
      | some fd => partL P fd.type cs.toList fd.offset
      | none => none
    | _ => none
  | _ => none

theorem partL_ok {P : Program} {f : Inj} {t : TypeId} {cs cs' : Array Value} (hc : LRel f cs.toList cs'.toList) {off : Nat} {v : Value} (h : partL P t cs.toList off = some v) (w : World) :
    ∃ v', (Go.part t cs' off).run P w = .ok v' w ∧ VRel f v v' := by
  unfold partL at h
  split at h
  · rename_i d i hd hi
    unfold Go.part
    rw [Sem.run_bind, run_isAgg hd]
    simp only [Result.andThen_ok]
    split at h
    · rename_i hg
      split at h
      · rename_i hn
        cases h
        rw [hg]
        simp only [if_true, Sem.run_bind, run_sizeOf hi, Result.andThen_ok, Sem.run_pure]
        refine ⟨_, rfl, VRel.agg_of ?_⟩
        have := (hc.drop off).take i.size
        rw [Array.toList_extract]
        simpa [Nat.add_sub_cancel_left] using this
      · cases h
    · rename_i hg
      have hg' : aggD d = false := by simpa using hg
      rw [hg']
      simp only [Bool.false_eq_true, if_false]
      obtain ⟨v', hv, r⟩ := hc.get h
      rw [Array.getElem?_toList] at hv
      rw [hv]
      exact ⟨v', rfl, r⟩
  · cases h

theorem fieldA_ok {P : Program} {f : Inj} {t : TypeId} {i : Nat} {x x' v : Value} (hx : VRel f x x') (h : fieldA P t i x = some v) (w : World) :
    ∃ v', (Instr.field t x' i).run P w = .ok v' w ∧ VRel f v v' := by
  unfold fieldA at h
  split at h
  · rename_i cs
    obtain ⟨cs', rfl, hl⟩ := hx.agg_inv
    split at h
    · rename_i fields hu
      split at h
      · rename_i fd hfd
        obtain ⟨v', hv, r⟩ := partL_ok hl h w
        refine ⟨v', ?_, r⟩
        simp only [Instr.field, Sem.run_bind, run_underlying hu, Result.andThen_ok, hfd, asAgg, Sem.run_pure]
        exact hv
      · cases h
    · cases h
  · cases h

def intOfV : Value → Option Int
  | .int _ n => some n
  | _ => none

theorem intOfV_spec {f : Inj} {x x' : Value} (hx : VRel f x x') {n : Int} (h : intOfV x = some n) : ∃ k, x' = .int k n := by
  unfold intOfV at h
  split at h
  · cases h; exact ⟨_, hx.int_of⟩
  · cases h

def indexAddrA (P : Program) (t : TypeId) (x ix : Value) : Option Value :=
  match intOfV ix with
  | none => none
  | some i =>
    match P.underlying t, x with
    | some (.array len elem), .pointer (some a) =>
      match P.info? elem with
      | some it => if 0 ≤ i ∧ i < len then some (.pointer (some (a.add (i.toNat * it.size)))) else none
      | none => none
    | some (.slice elem), .slice (some a) n _ =>
      match P.info? elem with
      | some it => if 0 ≤ i ∧ i < n then some (.pointer (some (a.add (i.toNat * it.size)))) else none
      | none => none
    | _, _ => none

theorem SlOk.ptr {f : Inj} {a a' : Addr} {n c c' : Nat} (h : SlOk f a a' n c c') (hn : 0 < n) : PtrOk f a a' :=
  ⟨h.s, h.s', (h.live (.inl hn)).1, (h.live (.inl hn)).2⟩

theorem indexAddrA_ok {P : Program} {f : Inj} {t : TypeId} {x x' ix ix' v : Value} (hx : VRel f x x') (hi : VRel f ix ix') (h : indexAddrA P t x ix = some v) (w : World) :
    ∃ v', (Instr.indexAt t x' ix').run P w = .ok v' w ∧ VRel f v v' := by
  unfold indexAddrA at h
  split at h
  · cases h
  · rename_i i hii
    obtain ⟨k, rfl⟩ := intOfV_spec hi hii
    split at h
    · rename_i len elem a hu
      obtain ⟨a', rfl, hp⟩ := hx.ptr_of
      split at h
      · rename_i it hit
        split at h
        · rename_i hb
          cases h
          refine ⟨_, ?_, .ptr _ _ (hp.add (i.toNat * it.size))⟩
          simp only [Instr.indexAt, asIntOf, Sem.run_bind, Sem.run_pure, Result.andThen_ok, run_underlying hu, Instr.sureAddr]
          simp [hb, run_sizeOf hit]
        · cases h
      · cases h
    · rename_i elem a n c hu
      obtain ⟨a', c', rfl, hp⟩ := hx.slice_of
      split at h
      · rename_i it hit
        split at h
        · rename_i hb
          cases h
          refine ⟨_, ?_, .ptr _ _ ((hp.ptr (by omega)).add (i.toNat * it.size))⟩
          simp only [Instr.indexAt, asIntOf, Sem.run_bind, Sem.run_pure, Result.andThen_ok, run_underlying hu]
          simp [hb, run_sizeOf hit]
        · cases h
      · cases h
    · cases h

def indexA (P : Program) (t : TypeId) (x ix : Value) : Option Value :=
  match intOfV ix with
  | none => none
  | some i =>
    match P.underlying t, x with
    | some (.array len elem), .agg cs =>
      match P.info? elem with
      | some it => if 0 ≤ i ∧ i < len then partL P elem cs.toList (i.toNat * it.size) else none
      | none => none
    | some .string, .string s => if 0 ≤ i then (s[i.toNat]?).map fun b => .int .u8 b.toNat else none
    | _, _ => none

theorem indexA_ok {P : Program} {f : Inj} {t : TypeId} {x x' ix ix' v : Value} (hx : VRel f x x') (hi : VRel f ix ix') (h : indexA P t x ix = some v) (w : World) :
    ∃ v', (Instr.index t x' ix').run P w = .ok v' w ∧ VRel f v v' := by
  unfold indexA at h
  split at h
  · cases h
  · rename_i i hii
    obtain ⟨k, rfl⟩ := intOfV_spec hi hii
    split at h
    · rename_i len elem cs hu
      obtain ⟨cs', rfl, hl⟩ := hx.agg_inv
      split at h
      · rename_i it hit
        split at h
        · rename_i hb
          obtain ⟨v', hv, r⟩ := partL_ok hl h w
          refine ⟨v', ?_, r⟩
          simp only [Instr.index, asIntOf, Sem.run_bind, Sem.run_pure, Result.andThen_ok, run_underlying hu]
          simp [hb, run_sizeOf hit, hv]
        · cases h
      · cases h
    · rename_i s hu
      have e := hx.string_of
      subst e
      split at h
      · rename_i h0
        cases hs : s[i.toNat]? with
        | none => rw [hs] at h; cases h
        | some b =>
          rw [hs] at h
          cases h
          refine ⟨_, ?_, .int _ _⟩
          simp only [Instr.index, asIntOf, Sem.run_bind, Sem.run_pure, Result.andThen_ok, run_underlying hu]
          simp [h0, hs]
      · cases h
    · cases h
end Go.As
namespace Go.As

/-! ### Slicing -/
/-- Which bounds: from, to, capacity's end (none: no third index). -/
def bnds (n : Nat) (lim : Nat) (lo hi mx : Option Value) : Option (Nat × Nat × Option Nat) :=
  match mx with
  | none =>
    match (match hi with | none => some (n : Int) | some v => intOfV v), (match lo with | none => some 0 | some v => intOfV v) with
    | some h, some l => if 0 ≤ l ∧ l ≤ h ∧ h ≤ lim then some (l.toNat, h.toNat, none) else none
    | _, _ => none
  | some m =>
    match intOfV m, (match hi with | none => none | some v => intOfV v), (match lo with | none => some 0 | some v => intOfV v) with
    | some m, some h, some l => if 0 ≤ l ∧ l ≤ h ∧ h ≤ m ∧ m ≤ lim then some (l.toNat, h.toNat, some m.toNat) else none
    | _, _, _ => none

def ORel (f : Inj) : Option Value → Option Value → Prop
  | none, none => True
  | some v, some v' => VRel f v v'
  | _, _ => False

theorem run_sliceBound {P : Program} (k : IntKind) (i : Int) (y : Nat) (code : BoundsCode) (h0 : 0 ≤ i) (h1 : i ≤ y) (w : World) : (Instr.sliceBound (.int k i) y code).run P w = .ok i.toNat w := by
  simp [Instr.sliceBound, asIntOf, h0, h1]

theorem bnds_ok {P : Program} {f : Inj} {isSl : Bool} {n lim cap : Nat} {lo hi mx lo' hi' mx' : Option Value} (hlim : lim ≤ cap) (hl : ORel f lo lo') (hh : ORel f hi hi') (hm : ORel f mx mx') {l h : Nat} {m : Option Nat}
    (hb : bnds n lim lo hi mx = some (l, h, m)) (w : World) : (Instr.sliceBounds isSl n cap lo' hi' mx').run P w = .ok (l, h, m.getD cap) w ∧ l ≤ h ∧ h ≤ lim ∧ (∀ k, m = some k → h ≤ k ∧ k ≤ lim) := by
  unfold bnds at hb
  have flip : ∀ {o o' : Option Value}, ORel f o o' → (o = none ∧ o' = none) ∨ ∃ v v', o = some v ∧ o' = some v' ∧ VRel f v v' := by
    intro o o' h
    cases o <;> cases o' <;> first | exact .inl ⟨rfl, rfl⟩ | exact h.elim | exact .inr ⟨_, _, rfl, rfl, h⟩
  have hlo : ∀ l0, (match lo with | none => some 0 | some v => intOfV v) = some l0 → ((lo' = none ∧ l0 = 0) ∨ ∃ k, lo' = some (.int k l0)) := by
    intro l0 h
    rcases flip hl with ⟨rfl, rfl⟩ | ⟨v, v', rfl, rfl, hv⟩
    · exact .inl ⟨rfl, by simpa using h.symm⟩
    · obtain ⟨k, rfl⟩ := intOfV_spec hv h; exact .inr ⟨k, rfl⟩
  rcases flip hm with ⟨rfl, rfl⟩ | ⟨mv, mv', rfl, rfl, hmv⟩
  · simp only at hb
    split at hb
    · rename_i h0 l0 hh0 hl0
      split at hb
      · rename_i hc
        simp only [Option.some.injEq, Prod.mk.injEq] at hb
        obtain ⟨rfl, rfl, rfl⟩ := hb
        refine ⟨?_, by omega, by omega, by simp⟩
        have e2 : ∀ k code w, (Instr.sliceBound (.int k l0) h0.toNat code).run P w = .ok l0.toNat w := fun k code w => run_sliceBound k l0 _ code (by omega) (by omega) w
        have e1 : ∀ k code w, (Instr.sliceBound (.int k h0) cap code).run P w = .ok h0.toNat w := fun k code w => run_sliceBound k h0 _ code (by omega) (by omega) w
        have hhi : (hi' = none ∧ h0 = n) ∨ ∃ k, hi' = some (.int k h0) := by
          rcases flip hh with ⟨rfl, rfl⟩ | ⟨v, v', rfl, rfl, hv⟩
          · exact .inl ⟨rfl, by simpa using hh0.symm⟩
          · obtain ⟨k, rfl⟩ := intOfV_spec hv hh0; exact .inr ⟨k, rfl⟩
        rcases hhi with ⟨rfl, rfl⟩ | ⟨k, rfl⟩ <;> rcases hlo _ hl0 with ⟨rfl, rfl⟩ | ⟨k', rfl⟩ <;> unfold Instr.sliceBounds <;>
          simp only [Sem.run_bind, Sem.run_pure, Result.andThen_ok, e1, e2, Option.getD_none, Int.toNat_natCast, Int.toNat_zero]
        simp only [Int.toNat_natCast] at e2
        simp only [e2, Result.andThen_ok]
      · cases hb
    · cases hb
  · simp only at hb
    split at hb
    · rename_i m0 h0 l0 hm0 hh0 hl0
      split at hb
      · rename_i hc
        simp only [Option.some.injEq, Prod.mk.injEq] at hb
        obtain ⟨rfl, rfl, rfl⟩ := hb
        refine ⟨?_, by omega, by omega, by simp; omega⟩
        obtain ⟨km, rfl⟩ := intOfV_spec hmv hm0
        have e0 : ∀ k code w, (Instr.sliceBound (.int k m0) cap code).run P w = .ok m0.toNat w := fun k code w => run_sliceBound k m0 _ code (by omega) (by omega) w
        have e1 : ∀ k code w, (Instr.sliceBound (.int k h0) m0.toNat code).run P w = .ok h0.toNat w := fun k code w => run_sliceBound k h0 _ code (by omega) (by omega) w
        have e2 : ∀ k code w, (Instr.sliceBound (.int k l0) h0.toNat code).run P w = .ok l0.toNat w := fun k code w => run_sliceBound k l0 _ code (by omega) (by omega) w
        rcases flip hh with ⟨rfl, rfl⟩ | ⟨v, v', rfl, rfl, hv⟩
        · cases hh0
        · obtain ⟨k, rfl⟩ := intOfV_spec hv hh0
          rcases hlo _ hl0 with ⟨rfl, rfl⟩ | ⟨k', rfl⟩ <;> unfold Instr.sliceBounds <;>
            simp only [Sem.run_bind, Sem.run_pure, Result.andThen_ok, e0, e1, e2, Option.getD_some, Int.toNat_zero]
      · cases hb
    · cases hb

def sliceA (P : Program) (t : TypeId) (x : Value) (lo hi mx : Option Value) : Option Value :=
  match P.underlying t, x with
  | some (.slice elem), .slice ao n c =>
    match P.info? elem with
    | some it =>
      if it.size = 0 then none else
      match bnds n (if c = unk then n else c) lo hi mx with
      | some (l, h, m) =>
        match ao with
        | none => if n = 0 ∧ c = 0 then some (.slice none 0 0) else none
        | some a =>
          match m with
          | some m => some (.slice (some (if m = l then a else a.add (l * it.size))) (h - l) (m - l))
          | none => if c = unk then some (.slice (some (a.add (l * it.size))) (h - l) unk) else some (.slice (some (if c = l then a else a.add (l * it.size))) (h - l) (c - l))
      | none => none
    | none => none
  | some (.array k elem), .pointer (some a) =>
    match P.info? elem with
    | some it =>
      if k < unk then
        match bnds k k lo hi mx with
        | some (l, h, m) => some (.slice (some (if m.getD k = l then a else a.add (l * it.size))) (h - l) (m.getD k - l))
        | none => none
      else none
    | none => none
  | _, _ => none

theorem SlOk.exact {f : Inj} {a a' : Addr} {n c : Nat} (hp : (0 < c) → PtrOk f a a') (hs : a.spot = none) (hs' : a'.spot = none) (hc : c < As.unk) (hn : n ≤ c) : SlOk f a a' n c c :=
  ⟨hs, hs', fun h => have hp := hp (by omega); ⟨hp.off, hp.blk⟩, fun h => absurd h (Nat.ne_of_lt hc), fun _ => ⟨rfl, hn, hc⟩⟩

theorem Addr.add_spot {a : Addr} (h : a.spot = none) (n : Nat) : (a.add n).spot = none := by
  unfold Addr.add
  split
  · exact h
  · rfl

theorem Addr.add_block (a : Addr) (n : Nat) : (a.add n).block = a.block := by unfold Addr.add; split <;> rfl

theorem sliceA_ok {P : Program} {f : Inj} {t : TypeId} {x x' : Value} {lo hi mx lo' hi' mx' : Option Value} {v : Value} (hx : VRel f x x') (hl : ORel f lo lo') (hh : ORel f hi hi') (hm : ORel f mx mx')
    (h : sliceA P t x lo hi mx = some v) (w : World) : ∃ v', (Instr.sliceAt t x' lo' hi' mx').run P w = .ok v' w ∧ VRel f v v' := by
  unfold sliceA at h
  split at h
  · rename_i elem ao n c hu
    split at h
    · rename_i it hit
      split at h
      · cases h
      · rename_i hsz
        split at h
        · rename_i l hh' m hb
          split at h
          · split at h
            · rename_i hn
              obtain ⟨rfl, rfl⟩ := hn
              cases h
              have e : x' = .slice none 0 0 := by cases hx; rfl
              subst e
              have hz : (0 : Nat) ≠ unk := by decide
              simp only [hz, if_false] at hb
              obtain ⟨hr, h1, h2, h3⟩ := bnds_ok (P := P) (isSl := true) (cap := 0) (Nat.le_refl 0) hl hh hm hb w
              refine ⟨.slice none 0 0, ?_, .sliceNil⟩
              have e1 : hh' = 0 := by omega
              have e2 : l = 0 := by omega
              have e3 : m.getD 0 = 0 := by cases m with | none => rfl | some k => have := (h3 k rfl).2; simp; omega
              subst e1; subst e2
              simp only [Instr.sliceAt, Instr.slice, Sem.run_bind, run_underlying hu, Result.andThen_ok, hr, run_sizeOf hit, Sem.run_pure, e3]
              simp
            · cases h
          · rename_i a
            obtain ⟨a', c', rfl, hp⟩ := hx.slice_of
            have hnlim : n ≤ (if c = unk then n else c) := by split; exact Nat.le_refl _; rename_i hc; exact (hp.ex hc).2.1
            have hlimc : (if c = unk then n else c) ≤ c' := by split; rename_i hc; exact (hp.unk hc).1; rename_i hc; rw [(hp.ex hc).1]; exact Nat.le_refl _
            obtain ⟨hr, h1, h2, h3⟩ := bnds_ok (P := P) (isSl := true) hlimc hl hh hm hb w
            have hrun : (Instr.sliceAt t (.slice (some a') n c') lo' hi' mx').run P w = .ok (.slice (if m.getD c' = l then some a' else (some a').map (·.add (l * it.size))) (hh' - l) (m.getD c' - l)) w := by
              simp only [Instr.sliceAt, Instr.slice, Sem.run_bind, run_underlying hu, Result.andThen_ok, hr, run_sizeOf hit, Sem.run_pure]
            split at h
            · rename_i m'
              obtain ⟨h4, h5⟩ := h3 m' rfl
              cases h
              simp only [Option.getD_some] at hrun
              refine ⟨_, hrun, ?_⟩
              have hmu : m' - l < unk := by
                by_cases hc : c = unk
                · have := (hp.unk hc).2.1; simp only [maxLen] at this; simp only [hc, if_true] at h5; simp only [unk] at *; have := (hp.unk hc).1; omega
                · have := (hp.ex hc).2.2; simp only [hc, if_false] at h5; omega
              split
              · rename_i hml
                subst hml
                exact .slice a a' _ _ _ (SlOk.exact (by omega) hp.s hp.s' hmu (by omega))
              · rename_i hml
                refine .slice _ _ _ _ _ (SlOk.exact (fun h0 => ?_) (Addr.add_spot hp.s _) (Addr.add_spot hp.s' _) hmu (by omega))
                refine PtrOk.add ?_ _
                have := hp.live (by by_cases hc : c = unk; (left; simp only [hc, if_true] at h5; omega); (right; simp only [hc, if_false] at h5; exact ⟨hc, by omega⟩))
                exact ⟨hp.s, hp.s', this.1, this.2⟩
            · split at h
              · rename_i hc
                cases h
                simp only [Option.getD_none] at hrun
                refine ⟨_, hrun, ?_⟩
                obtain ⟨hu1, hu2, hu3⟩ := hp.unk hc
                simp only [hc, if_true] at h2
                split
                · rename_i hcl
                  refine .slice _ _ _ _ _ ⟨Addr.add_spot hp.s _, hp.s', fun h0 => ?_, fun _ => ⟨by omega, by omega, fun h0 => by omega⟩, fun h0 => absurd rfl h0⟩
                  rcases h0 with h0 | h0
                  · omega
                  · exact absurd rfl h0.1
                · rename_i hcl
                  refine .slice _ _ _ _ _ ⟨Addr.add_spot hp.s _, Addr.add_spot hp.s' _, fun h0 => ?_, fun _ => ⟨by omega, by omega, fun h0 hoff => ?_⟩, fun h0 => absurd rfl h0⟩
                  · rcases h0 with h0 | h0
                    · have := hp.ptr (by omega)
                      exact ⟨(this.add _).off, (this.add _).blk⟩
                    · exact absurd rfl h0.1
                  · have hl0 : l = 0 := by
                      by_cases e : l = 0
                      · exact e
                      · have hpos : 0 < l * it.size := Nat.mul_pos (by omega) (by omega)
                        unfold Addr.add at hoff
                        rw [if_neg (by omega)] at hoff
                        simp at hoff
                        omega
                    subst hl0
                    simp only [Nat.zero_mul, Addr.add_zero'] at hoff ⊢
                    simpa using hu3 (by omega) hoff
              · rename_i hc
                cases h
                simp only [Option.getD_none] at hrun
                obtain ⟨rfl, hnc, hcu⟩ := hp.ex hc
                refine ⟨_, hrun, ?_⟩
                have hmu : c' - l < unk := by omega
                simp only [hc, if_false] at h2
                split
                · rename_i hcl
                  subst hcl
                  exact .slice a a' _ _ _ (SlOk.exact (by omega) hp.s hp.s' hmu (by omega))
                · rename_i hcl
                  refine .slice _ _ _ _ _ (SlOk.exact (fun h0 => ?_) (Addr.add_spot hp.s _) (Addr.add_spot hp.s' _) hmu (by omega))
                  have := hp.live (.inr ⟨hc, by omega⟩)
                  exact PtrOk.add ⟨hp.s, hp.s', this.1, this.2⟩ _
        · cases h
    · cases h
  · rename_i k elem a hu
    obtain ⟨a', rfl, hp⟩ := hx.ptr_of
    split at h
    · rename_i it hit
      split at h
      · rename_i hk
        split at h
        · rename_i l hh' m hb
          cases h
          obtain ⟨hr, h1, h2, h3⟩ := bnds_ok (P := P) (isSl := false) (Nat.le_refl k) hl hh hm hb w
          have hmk : hh' ≤ m.getD k ∧ m.getD k ≤ k := by cases m with | none => exact ⟨h2, Nat.le_refl _⟩ | some q => exact h3 q rfl
          refine ⟨.slice (some (if m.getD k = l then a' else a'.add (l * it.size))) (hh' - l) (m.getD k - l), ?_, ?_⟩
          · simp only [Instr.sliceAt, Sem.run_bind, run_underlying hu, Result.andThen_ok, Instr.sureAddr, Sem.run_pure, hr, run_sizeOf hit]
          · have hmu : m.getD k - l < unk := by omega
            split
            · exact .slice _ _ _ _ _ (SlOk.exact (fun _ => hp) hp.s hp.s' hmu (by omega))
            · exact .slice _ _ _ _ _ (SlOk.exact (fun _ => hp.add _) (Addr.add_spot hp.s _) (Addr.add_spot hp.s' _) hmu (by omega))
        · cases h
      · cases h
    · cases h
  · cases h
end Go.As
namespace Go.As

/-! ### Maps with integer keys -/
def lk (es : List (Int × Value)) (n : Int) : Option Value :=
  match es with
  | [] => none
  | (m, v) :: es => if m = n then some v else lk es n

theorem lk_mem {es : List (Int × Value)} {n : Int} {v : Value} (h : lk es n = some v) : (n, v) ∈ es := by
  induction es with
  | nil => cases h
  | cons p es ih =>
    obtain ⟨m, u⟩ := p
    simp only [lk] at h
    split at h
    · rename_i e; cases h; subst e; exact List.mem_cons_self
    · exact List.mem_cons_of_mem _ (ih h)

theorem lk_none {es : List (Int × Value)} {n : Int} (h : lk es n = none) : ∀ v, (n, v) ∉ es := by
  induction es with
  | nil => simp
  | cons p es ih =>
    obtain ⟨m, u⟩ := p
    simp only [lk] at h
    split at h
    · cases h
    · rename_i e
      intro v hv
      rcases List.mem_cons.1 hv with hv | hv
      · cases hv; exact e rfl
      · exact ih h v hv

/-- What the model's search in entries with integer keys comes to. -/
theorem findNow_int (kd k : IntKind) (n : Int) : ∀ (es : List MapEntry) (i : Nat), (∀ e, e ∈ es → ∃ m, e.key = .int k m) →
    ∃ r, Instr.findNow (.int kd) (.int k n) es i = some r ∧ (match r with
      | none => ∀ e, e ∈ es → e.key ≠ .int k n
      | some (j, v) => ∃ e, i ≤ j ∧ es[j - i]? = some e ∧ e.key = .int k n ∧ e.val = v)
  | [], i, _ => ⟨none, rfl, by simp⟩
  | e :: es, i, h => by
    obtain ⟨m, hm⟩ := h e (by simp)
    by_cases hn : n = m
    · subst hn
      refine ⟨some (i, e.val), ?_, e, Nat.le_refl _, by simp, hm, rfl⟩
      simp [Instr.findNow, hm, Instr.sameNow]
    · obtain ⟨r, hr, hp⟩ := findNow_int kd k n es (i + 1) (fun e he => h e (by simp [he]))
      refine ⟨r, ?_, ?_⟩
      · have hb : (n == m) = false := by simpa using hn
        simp only [Instr.findNow, hm, Instr.sameNow, if_true, hb]
        exact hr
      · cases r with
        | none =>
          intro e' he'
          rcases List.mem_cons.1 he' with rfl | he'
          · rw [hm]; intro hc; injection hc with _ hc; exact hn hc.symm
          · exact hp e' he'
        | some jv =>
          obtain ⟨j, v⟩ := jv
          obtain ⟨e', h1, h2, h3, h4⟩ := hp
          refine ⟨e', by omega, ?_, h3, h4⟩
          have : j - i = (j - (i + 1)) + 1 := by omega
          rw [this]
          simpa using h2

theorem inj_of_nodup_map {α β : Type} {g : α → β} {l : List α} (h : (l.map g).Nodup) {x y : α} (hx : x ∈ l) (hy : y ∈ l) (e : g x = g y) : x = y := by
  induction l with
  | nil => cases hx
  | cons a l ih =>
    simp only [List.map_cons, List.nodup_cons] at h
    rcases List.mem_cons.1 hx with hx | hx <;> rcases List.mem_cons.1 hy with hy | hy
    · exact hx.trans hy.symm
    · exact absurd (by rw [← hx, e]; exact List.mem_map_of_mem hy) h.1
    · exact absurd (by rw [← hy, ← e]; exact List.mem_map_of_mem hx) h.1
    · exact ih h.2 hx hy

/-- The search, told in the abstract map's words. -/
theorem MapOk.find {P : Program} {f : Inj} {k : IntKind} {es : List (Int × Value)} {es' : List MapEntry} {clock : Nat} (hm : MapOk f k es es' clock) {kt : TypeId} {kd : IntKind} (hu : P.underlying kt = some (.int kd)) (n : Int) (w : World) :
    ∃ r, (Instr.findKey kt (.int k n) es').run P w = .ok r w ∧ (match r with
      | none => lk es n = none
      | some (j, v') => ∃ e v, es'[j]? = some e ∧ e.key = .int k n ∧ e.val = v' ∧ lk es n = some v ∧ VRel f v v') := by
  obtain ⟨r, hr, hp⟩ := findNow_int kd k n es' 0 (fun e he => let ⟨m, _, h, _⟩ := hm.of e he; ⟨m, h⟩)
  refine ⟨r, ?_, ?_⟩
  · unfold Instr.findKey
    rw [Sem.run_bind, run_underlying hu]
    simp only [Result.andThen_ok, hr, Sem.run_pure]
  · cases r with
    | none =>
      cases hl : lk es n with
      | none => simp
      | some v =>
        obtain ⟨e, he, hk, _⟩ := hm.to n v (lk_mem hl)
        exact absurd hk (hp e he)
    | some jv =>
      obtain ⟨j, v'⟩ := jv
      obtain ⟨e, _, h2, h3, h4⟩ := hp
      simp only [Nat.sub_zero] at h2
      have hmem : e ∈ es' := List.mem_of_getElem? h2
      obtain ⟨m, v0, hk, hin⟩ := hm.of e hmem
      have hmn : m = n := by rw [h3] at hk; injection hk with _ hk; exact hk.symm
      subst hmn
      cases hl : lk es m with
      | none => exact absurd hin (lk_none hl v0)
      | some v =>
        obtain ⟨e2, he2, hk2, hv2⟩ := hm.to m v (lk_mem hl)
        have : e2 = e := inj_of_nodup_map hm.keys he2 hmem (hk2.trans h3.symm)
        subst this
        exact ⟨e2, v, h2, h3, h4, rfl, h4 ▸ hv2⟩

theorem MapOk.length {f : Inj} {k : IntKind} {es : List (Int × Value)} {es' : List MapEntry} {clock : Nat} (hm : MapOk f k es es' clock) : es'.length = es.length := by
  have hp : (es'.map (·.key)).Perm (es.map (fun p => Value.int k p.1)) := by
    have hn2 : (es.map (fun p => Value.int k p.1)).Nodup := by
      have := hm.nodup
      rw [show (es.map (fun p => Value.int k p.1)) = (es.map (·.1)).map (Value.int k) from by simp [List.map_map, Function.comp_def]]
      exact List.Pairwise.map _ (fun a b hab e => hab (by injection e)) this
    refine (List.perm_ext_iff_of_nodup hm.keys hn2).2 fun x => ?_
    simp only [List.mem_map]
    constructor
    · rintro ⟨e, he, rfl⟩
      obtain ⟨n, v, hk, hin⟩ := hm.of e he
      exact ⟨(n, v), hin, hk.symm⟩
    · rintro ⟨⟨n, v⟩, hin, rfl⟩
      obtain ⟨e, he, hk, _⟩ := hm.to n v hin
      exact ⟨e, he, hk⟩
  have := hp.length_eq
  simpa using this

theorem run_checkKey_int {P : Program} {kt : TypeId} {kd : IntKind} (hu : P.underlying kt = some (.int kd)) (em : Bool) (k : IntKind) (n : Int) (w : World) : (Instr.checkKey em 10000 kt (.int k n)).run P w = .ok () w := by
  rw [show (10000 : Nat) = 9999 + 1 from rfl]
  unfold Instr.checkKey
  simp [run_underlying hu]

theorem Rel.map {f : Inj} {σ : St} {w : World} (hR : Rel f σ w) {b : Nat} {k : IntKind} {es : List (Int × Value)} (hb : σ.get b = some (.map k es)) {c q : Nat} (hf : f b = some (c, q)) :
    ∃ (es' : Array MapEntry) (clock : Nat), w.heap[c]? = some (.map es' clock) ∧ MapOk f k es es'.toList clock := by
  obtain ⟨o', ho', hr⟩ := hR.obj b _ c q hb hf
  cases hr with
  | map _ _ es' clock m => exact ⟨es', clock, ho', m⟩

theorem run_getObj_map {P : Program} {w : World} {c : Nat} {es' : Array MapEntry} {clock : Nat} (h : w.heap[c]? = some (.map es' clock)) : (getObj c).run P w = .ok (.map es' clock) w := by
  simp [getObj, Sem.run, h]

def zeroV (P : Program) (t : TypeId) : Option Value :=
  match P.info? t with
  | some { zero := some z, .. } => if closedV z then some z else none
  | _ => none

theorem zeroV_spec {P : Program} {t : TypeId} {z : Value} (h : zeroV P t = some z) (w : World) : (Go.zeroValue t).run P w = .ok z w ∧ closedV z = true := by
  unfold zeroV at h
  split at h
  · rename_i hi
    split at h
    · rename_i hc; cases h; exact ⟨run_zeroValue hi rfl w, hc⟩
    · cases h
  · cases h

def lookupA (P : Program) (rd : Nat → Option AObj) (t : TypeId) (x ix : Value) (ok : Bool) : Option Value :=
  match P.underlying t, ix with
  | some (.map kt et), .int k n =>
    match P.underlying kt with
    | some (.int _) =>
      match x with
      | .map none => (zeroV P et).map fun z => if ok then .tuple #[z, .bool false] else z
      | .map (some r) =>
        match rd r with
        | some (.map k' es) =>
          if k' = k then
            match lk es n with
            | some v => some (if ok then .tuple #[v, .bool true] else v)
            | none => (zeroV P et).map fun z => if ok then .tuple #[z, .bool false] else z
          else none
        | _ => none
      | _ => none
    | _ => none
  | _, _ => none

theorem tuple2 {f : Inj} {v v' : Value} (h : VRel f v v') (b : Bool) : VRel f (.tuple #[v, .bool b]) (.tuple #[v', .bool b]) := VRel.tuple_of (LRel.cons h (LRel.cons (.bool b) LRel.nil))

theorem lookupA_ok {P : Program} {f : Inj} {σ : St} {w : World} (hR : Rel f σ w) {t : TypeId} {x x' ix ix' v : Value} {ok : Bool} (hx : VRel f x x') (hi : VRel f ix ix') (h : lookupA P σ.get t x ix ok = some v) :
    ∃ v', (Instr.lookup t x' ix' ok).run P w = .ok v' w ∧ VRel f v v' := by
  unfold lookupA at h
  split at h
  · rename_i kt et k n hu
    have e := hi.int_of
    subst e
    split at h
    · rename_i kd hk
      split at h
      · have e : x' = .map none := by cases hx; rfl
        subst e
        cases hz : zeroV P et with
        | none => rw [hz] at h; cases h
        | some z =>
          rw [hz] at h
          cases h
          obtain ⟨hzr, hzc⟩ := zeroV_spec hz w
          have hf : (Instr.findKey kt (.int k n) (#[] : Array MapEntry).toList).run P w = .ok none w := by
            unfold Instr.findKey
            rw [Sem.run_bind, run_underlying hk]
            simp [Instr.findNow]
          refine ⟨if ok then .tuple #[z, .bool false] else z, ?_, ?_⟩
          · unfold Instr.lookup
            simp only [Sem.run_bind, run_underlying hu, Result.andThen_ok, Sem.run_pure, run_checkKey_int hk, hf, hzr]
          · cases ok
            · exact VRel.closed f hzc
            · exact tuple2 (VRel.closed f hzc) false
      · rename_i r
        obtain ⟨r', q, rfl, hfr⟩ := hx.map_of
        split at h
        · rename_i k' es hb
          obtain ⟨es', clock, hc, hm⟩ := hR.map hb hfr
          split at h
          · rename_i hkk
            subst hkk
            obtain ⟨rr, hrun, hp⟩ := hm.find (P := P) hk n w
            cases rr with
            | none =>
              rw [hp] at h
              cases hz : zeroV P et with
              | none => rw [hz] at h; cases h
              | some z =>
                rw [hz] at h
                cases h
                obtain ⟨hzr, hzc⟩ := zeroV_spec hz w
                refine ⟨if ok then .tuple #[z, .bool false] else z, ?_, ?_⟩
                · unfold Instr.lookup
                  simp only [Sem.run_bind, run_underlying hu, Result.andThen_ok, Sem.run_pure, run_getObj_map hc, run_checkKey_int hk, hrun, hzr]
                · cases ok
                  · exact VRel.closed f hzc
                  · exact tuple2 (VRel.closed f hzc) false
            | some jv =>
              obtain ⟨j, v'⟩ := jv
              obtain ⟨e, v0, _, _, _, hl, hv⟩ := hp
              rw [hl] at h
              cases h
              refine ⟨if ok then .tuple #[v', .bool true] else v', ?_, ?_⟩
              · unfold Instr.lookup
                simp only [Sem.run_bind, run_underlying hu, Result.andThen_ok, Sem.run_pure, run_getObj_map hc, run_checkKey_int hk, hrun]
              · cases ok
                · exact hv
                · exact tuple2 hv true
          · cases h
        · cases h
      · cases h
    · cases h
  · cases h

/-! ### Conversions that make nothing new -/
def u8s : List Value → Option (List Int)
  | [] => some []
  | .int .u8 n :: l => (u8s l).map (n :: ·)
  | _ => none

theorem u8s_spec : ∀ {l : List Value} {ns : List Int}, u8s l = some ns → l = ns.map (Value.int .u8)
  | [], ns, h => by simp [u8s] at h; subst h; rfl
  | v :: l, ns, h => by
    unfold u8s at h
    split at h
    · rename_i e; cases e
    · rename_i n l' e
      cases e
      cases hr : u8s l with
      | none => rw [hr] at h; cases h
      | some ms => rw [hr] at h; cases h; rw [u8s_spec hr]; rfl
    · cases h

theorem LRel.ints {f : Inj} {k : IntKind} : ∀ {ns : List Int} {l : List Value}, LRel f (ns.map (Value.int k)) l → l = ns.map (Value.int k)
  | [], l, h => h.of_nil
  | n :: ns, l, h => by
    obtain ⟨v', l', rfl, hv, hl⟩ := h.of_cons
    rw [hv.int_of, LRel.ints hl]
    rfl

def strOf (ns : List Int) : ByteArray := ns.foldl (fun r n => r.push (UInt8.ofNat n.toNat)) ByteArray.empty

def isU8 (P : Program) (e : TypeId) : Bool :=
  match P.underlying e with
  | some (.int .u8) => true
  | _ => false

theorem isU8_spec {P : Program} {e : TypeId} (h : isU8 P e = true) : P.underlying e = some (.int .u8) := by
  unfold isU8 at h
  split at h
  · assumption
  · cases h

def convA (P : Program) (rd : Nat → Option AObj) (s d : TypeId) (x : Value) : Option Value :=
  match P.underlying s, P.underlying d, x with
  | some _, some (.int k), .int _ n => some (.int k (k.wrap n))
  | some (.slice e), some .string, .slice none 0 0 => if isU8 P e then some (.string (strOf [])) else none
  | some (.slice e), some .string, .slice (some a) n _ =>
    if isU8 P e then
      if n = 0 then some (.string (strOf [])) else
      match rd a.block with
      | some (.cells cs _ _) => if a.off + n ≤ cs.length then (u8s ((cs.drop a.off).take n)).map fun ns => .string (strOf ns) else none
      | _ => none
    else none
  | _, _, _ => none

theorem convA_ok {P : Program} {f : Inj} {σ : St} {w : World} (hR : Rel f σ w) {s d : TypeId} {x x' v : Value} (hx : VRel f x x') (h : convA P σ.get s d x = some v) :
    ∃ v', (Go.convert s d x').run P w = .ok v' w ∧ VRel f v v' := by
  unfold convA at h
  split at h
  · rename_i sd k k0 n hs hd
    cases h
    have e := hx.int_of
    subst e
    refine ⟨_, ?_, .int _ _⟩
    unfold Go.convert
    simp only [Sem.run_bind, run_underlying hs, run_underlying hd, Result.andThen_ok]
    cases sd <;> simp [Conv.intToInt]
  · rename_i e hs hd
    split at h
    · rename_i hm
      cases h
      have ex : x' = .slice none 0 0 := by cases hx; rfl
      subst ex
      have he := isU8_spec hm
      refine ⟨_, ?_, .string _⟩
      unfold Go.convert
      simp only [Sem.run_bind, run_underlying hs, run_underlying hd, run_underlying he, Result.andThen_ok]
      rfl
    · cases h
  · rename_i e a n c hs hd
    split at h
    · rename_i hm
      obtain ⟨a', c', rfl, hp⟩ := hx.slice_of
      have he := isU8_spec hm
      have key : ∀ ns : List Int, (loadCells a' n).run P w = .ok (ns.map (Value.int .u8)).toArray w → v = .string (strOf ns) →
          ∃ v', (Go.convert s d (.slice (some a') n c')).run P w = .ok v' w ∧ VRel f v v' := by
        intro ns hl hv
        subst hv
        refine ⟨_, ?_, .string _⟩
        unfold Go.convert
        simp only [Sem.run_bind, run_underlying hs, run_underlying hd, run_underlying he, Result.andThen_ok]
        exact run_bytesToString w a' n c' ns hl
      split at h
      · rename_i hn
        subst hn
        cases h
        exact key [] rfl rfl
      · rename_i hn
        split at h
        · rename_i cs e' kd hb
          split at h
          · rename_i hle
            cases hu : u8s ((cs.drop a.off).take n) with
            | none => rw [hu] at h; cases h
            | some ns =>
              rw [hu] at h
              have hpp := hp.ptr (by omega)
              obtain ⟨k, hf⟩ := hpp.blk
              obtain ⟨vs, hv, hl, _⟩ := hR.row (P := P) hb hf hle
              rw [u8s_spec hu] at hl
              have := LRel.ints hl
              subst this
              rw [← hpp.eq.2] at hv
              exact key ns hv (by simpa using h.symm)
          · cases h
        · cases h
    · cases h
  · cases h

/-! ### Comparisons, arithmetic -/
def nilCmp (op : BinOp) (b : Bool) : Option Value :=
  match op with
  | .eql => some (.bool b)
  | .neq => some (.bool !b)
  | _ => none

def binA (P : Program) (op : BinOp) (t : TypeId) (xo yo : Operand) (x y : Value) : Option Value :=
  match P.underlying t, x, y with
  | some (.pointer _), .pointer a, .pointer none => nilCmp op a.isNone
  | some (.slice _), .slice a _ _, .slice none 0 0 => nilCmp op a.isNone
  | some (.map _ _), .map a, .map none => nilCmp op a.isNone
  | _, _, _ =>
    if discV x && discV y then
      match pureRun P (do eqGuard op t xo yo x y; binOp op t x y) with
      | some v => if closedV v then some v else none
      | none => none
    else none

theorem nilCmp_spec {op : BinOp} {b : Bool} {v : Value} (h : nilCmp op b = some v) : (op = .eql ∧ v = .bool b) ∨ (op = .neq ∧ v = .bool !b) := by
  unfold nilCmp at h
  split at h
  · cases h; exact .inl ⟨rfl, rfl⟩
  · cases h; exact .inr ⟨rfl, rfl⟩
  · cases h

theorem run_nilCmp {P : Program} {op : BinOp} {t : TypeId} {xo yo : Operand} {x y : Value} {b : Bool} {v : Value} {w : World} (hg : (eqGuard op t xo yo x y).run P w = .ok () w)
    (he : (Op.equalIn 10000 t x y).run P w = .ok b w) (h1 : op = .eql → binOp op t x y = (do pure (.bool (← Op.equal t x y)))) (h2 : op = .neq → binOp op t x y = (do pure (.bool (!(← Op.equal t x y)))))
    (h : nilCmp op b = some v) : ((do eqGuard op t xo yo x y; binOp op t x y : Sem Value)).run P w = .ok v w := by
  have he' : (Op.equal t x y).run P w = .ok b w := he
  rcases nilCmp_spec h with ⟨rfl, rfl⟩ | ⟨rfl, rfl⟩
  · rw [Sem.run_bind, hg, Result.andThen_ok, h1 rfl, Sem.run_bind, he', Result.andThen_ok]
    rfl
  · rw [Sem.run_bind, hg, Result.andThen_ok, h2 rfl, Sem.run_bind, he', Result.andThen_ok]
    rfl

theorem nilCmp_closed {op : BinOp} {b : Bool} {v : Value} (f : Inj) (h : nilCmp op b = some v) : VRel f v v := by
  rcases nilCmp_spec h with ⟨_, rfl⟩ | ⟨_, rfl⟩ <;> exact .bool _

theorem binA_ok {P : Program} {f : Inj} {op : BinOp} {t : TypeId} {xo yo : Operand} {x x' y y' v : Value} (hx : VRel f x x') (hy : VRel f y y') (h : binA P op t xo yo x y = some v) (w : World) :
    ∃ v', ((do eqGuard op t xo yo x' y'; binOp op t x' y' : Sem Value)).run P w = .ok v' w ∧ VRel f v v' := by
  unfold binA at h
  split at h
  · rename_i e a hu
    have ey : y' = .pointer none := by cases hy; rfl
    subst ey
    have hxx : ∃ a', x' = .pointer a' ∧ a'.isNone = a.isNone := by cases hx <;> exact ⟨_, rfl, rfl⟩
    obtain ⟨a', rfl, ha⟩ := hxx
    refine ⟨v, run_nilCmp (b := a.isNone) ?_ ?_ (fun e => by subst e; rfl) (fun e => by subst e; rfl) h, nilCmp_closed f h⟩
    · cases op <;> rfl
    · rw [← ha, show (10000 : Nat) = 9999 + 1 from rfl]
      unfold Op.equalIn
      rw [Sem.run_bind, run_underlying hu, Result.andThen_ok]
      cases a' <;> rfl
  · rename_i e a l c hu
    have ey : y' = .slice none 0 0 := by cases hy; rfl
    subst ey
    have hxx : ∃ a' l' c', x' = .slice a' l' c' ∧ a'.isNone = a.isNone := by cases hx <;> exact ⟨_, _, _, rfl, rfl⟩
    obtain ⟨a', l', c', rfl, ha⟩ := hxx
    refine ⟨v, run_nilCmp (b := a.isNone) ?_ ?_ (fun e => by subst e; rfl) (fun e => by subst e; rfl) h, nilCmp_closed f h⟩
    · cases op <;> rfl
    · rw [← ha, show (10000 : Nat) = 9999 + 1 from rfl]
      unfold Op.equalIn
      rw [Sem.run_bind, run_underlying hu, Result.andThen_ok]
      cases a' <;> rfl
  · rename_i k e a hu
    have ey : y' = .map none := by cases hy; rfl
    subst ey
    have hxx : ∃ a', x' = .map a' ∧ a'.isNone = a.isNone := by cases hx <;> exact ⟨_, rfl, rfl⟩
    obtain ⟨a', rfl, ha⟩ := hxx
    refine ⟨v, run_nilCmp (b := a.isNone) ?_ ?_ (fun e => by subst e; rfl) (fun e => by subst e; rfl) h, nilCmp_closed f h⟩
    · cases op <;> rfl
    · rw [← ha, show (10000 : Nat) = 9999 + 1 from rfl]
      unfold Op.equalIn
      rw [Sem.run_bind, run_underlying hu, Result.andThen_ok]
      cases a' <;> rfl
  · split at h
    · rename_i hd
      simp only [Bool.and_eq_true] at hd
      have e1 := hx.disc hd.1
      have e2 := hy.disc hd.2
      subst e1; subst e2
      split at h
      · rename_i u hr
        split at h
        · rename_i hc
          cases h
          exact ⟨v, pureRun_ok (NM.bind (NM.eqGuard op t xo yo (Fine.of_disc hd.1) (Fine.of_disc hd.2)) fun _ => NM.binOp op t (Fine.of_disc hd.1) (Fine.of_disc hd.2)) hr w, VRel.closed f hc⟩
        · cases h
      · cases h
    · cases h

def scal : Value → Bool
  | .bool _ | .int .. | .float .. | .complex .. => true
  | _ => false

theorem VRel.scal {f : Inj} {v v' : Value} (h : VRel f v v') (hs : scal v = true) : v' = v := by
  cases h <;> first | rfl | cases hs

def unA (P : Program) (op : UnOp) (x : Value) : Option Value :=
  if scal x then
    match pureRun P (Op.unary op x) with
    | some v => if closedV v then some v else none
    | none => none
  else none

theorem unA_ok {P : Program} {f : Inj} {op : UnOp} {x x' v : Value} (hx : VRel f x x') (h : unA P op x = some v) (w : World) : ∃ v', (Op.unary op x').run P w = .ok v' w ∧ VRel f v v' := by
  unfold unA at h
  split at h
  · rename_i hs
    have e := hx.scal hs
    subst e
    split at h
    · rename_i u hr
      split at h
      · rename_i hc
        cases h
        exact ⟨v, pureRun_ok (NM.unary op _) hr w, VRel.closed f hc⟩
      · cases h
    · cases h
  · cases h
end Go.As
namespace Go.As

def two (f : IntKind → Int → Int → Value) : List Value → Option Value
  | [.int k x, .int _ y] => some (f k x y)
  | _ => none

def lenA (P : Program) (rd : Nat → Option AObj) (t : TypeId) (x : Value) : Option Value :=
  match P.underlying t, x with
  | some .string, .string s => some (.int .i64 s.size)
  | some (.slice _), .slice _ n _ => some (.int .i64 n)
  | some (.map _ _), .map none => some (.int .i64 0)
  | some (.map _ _), .map (some r) =>
    match rd r with
    | some (.map _ es) => some (.int .i64 es.length)
    | _ => none
  | _, _ => none

theorem lenA_ok {P : Program} {f : Inj} {σ : St} {w : World} (hR : Rel f σ w) {t ty : TypeId} {ats : Array TypeId} (ht : ats[0]? = some t) {x x' v : Value} (hx : VRel f x x') (h : lenA P σ.get t x = some v) :
    (Builtin.len_ ats ty #[x']).run P w = .ok v w ∧ VRel f v v := by
  unfold lenA at h
  split at h
  · rename_i s hu
    cases h
    have e := hx.string_of
    subst e
    refine ⟨?_, .int _ _⟩
    unfold Builtin.len_
    simp [ht, run_underlying hu, goInt]
  · rename_i e a n c hu
    cases h
    have hxx : ∃ a' c', x' = .slice a' n c' := by cases hx <;> exact ⟨_, _, rfl⟩
    obtain ⟨a', c', rfl⟩ := hxx
    refine ⟨?_, .int _ _⟩
    unfold Builtin.len_
    simp [ht, run_underlying hu, goInt]
  · rename_i k e hu
    cases h
    have e : x' = .map none := by cases hx; rfl
    subst e
    refine ⟨?_, .int _ _⟩
    unfold Builtin.len_
    simp [ht, run_underlying hu, goInt]
  · rename_i k e r hu
    obtain ⟨r', q, rfl, hfr⟩ := hx.map_of
    split at h
    · rename_i ik es hb
      cases h
      obtain ⟨es', clock, hc, hm⟩ := hR.map hb hfr
      refine ⟨?_, .int _ _⟩
      have hl := hm.length
      unfold Builtin.len_
      simp [ht, run_underlying hu, goInt, run_getObj_map hc, ← hl]
    · cases h
  · cases h

def builtinA (P : Program) (rd : Nat → Option AObj) (b : Builtin) (ats : Array TypeId) (args : List Value) : Option Value :=
  match b with
  | .len => match ats[0]?, args with | some t, [x] => lenA P rd t x | _, _ => none
  | .max => two (fun k x y => .int k (if y > x then y else x)) args
  | .min => two (fun k x y => .int k (if y < x then y else x)) args
  | .complex => match args with | [.float k re, .float k' im] => if k = k' then some (.complex k re im) else none | _ => none
  | .real => match args with | [.complex k re _] => some (.float k re) | _ => none
  | .imag => match args with | [.complex k _ im] => some (.float k im) | _ => none
  | _ => none

theorem two_spec {g : IntKind → Int → Int → Value} {l : List Value} {v : Value} (h : two g l = some v) : ∃ k x k' y, l = [.int k x, .int k' y] ∧ v = g k x y := by
  unfold two at h
  split at h
  · cases h; exact ⟨_, _, _, _, rfl, rfl⟩
  · cases h

theorem list1 {f : Inj} {x : Value} {l : List Value} (h : LRel f [x] l) : ∃ x', l = [x'] ∧ VRel f x x' := by
  obtain ⟨x', l', rfl, hx, hl⟩ := h.of_cons
  exact ⟨x', by rw [hl.of_nil], hx⟩
theorem list2 {f : Inj} {x y : Value} {l : List Value} (h : LRel f [x, y] l) : ∃ x' y', l = [x', y'] ∧ VRel f x x' ∧ VRel f y y' := by
  obtain ⟨x', l', rfl, hx, hl⟩ := h.of_cons
  obtain ⟨y', rfl, hy⟩ := list1 hl
  exact ⟨x', y', rfl, hx, hy⟩

theorem builtinA_ok {P : Program} {f : Inj} {σ : St} {w : World} (hR : Rel f σ w) {b : Builtin} {ats : Array TypeId} {ty : TypeId} {cs : Array Bool} {args : List Value} {args' : Array Value} {v : Value} (ha : LRel f args args'.toList)
    (h : builtinA P σ.get b ats args = some v) : (builtin b ats ty cs args').run P w = .ok (.value v) w ∧ VRel f v v := by
  obtain ⟨args'⟩ := args'
  simp only at ha
  unfold builtinA at h
  split at h
  · split at h
    · rename_i t x ht
      obtain ⟨x', rfl, hx⟩ := list1 ha
      obtain ⟨hr, hv⟩ := lenA_ok (ty := ty) hR ht hx h
      refine ⟨?_, hv⟩
      show ((do pure (Next.value (← Builtin.len_ ats ty #[x'])) : Sem Next)).run P w = _
      rw [Sem.run_bind, hr]
      rfl
    · cases h
  · obtain ⟨k, x, k', y, rfl, rfl⟩ := two_spec h
    obtain ⟨x', y', rfl, hx, hy⟩ := list2 ha
    rw [hx.int_of, hy.int_of]
    exact ⟨rfl, .int _ _⟩
  · obtain ⟨k, x, k', y, rfl, rfl⟩ := two_spec h
    obtain ⟨x', y', rfl, hx, hy⟩ := list2 ha
    rw [hx.int_of, hy.int_of]
    exact ⟨rfl, .int _ _⟩
  · split at h
    · rename_i k re k' im
      split at h
      · rename_i hk
        cases h
        obtain ⟨x', y', rfl, hx, hy⟩ := list2 ha
        rw [hx.scal rfl, hy.scal rfl]
        refine ⟨?_, .complex _ _ _⟩
        subst hk
        have e : Builtin.complex_ ats ty #[.float k re, .float k im] = pure (.complex k re im) := by
          show (if k = k then _ else _) = _
          rw [if_pos rfl]
        show ((do pure (Next.value (← Builtin.complex_ ats ty #[.float k re, .float k im])) : Sem Next)).run P w = _
        rw [e]
        rfl
      · cases h
    · cases h
  · split at h
    · cases h
      obtain ⟨x', rfl, hx⟩ := list1 ha
      rw [hx.scal rfl]
      exact ⟨rfl, .float _ _⟩
    · cases h
  · split at h
    · cases h
      obtain ⟨x', rfl, hx⟩ := list1 ha
      rw [hx.scal rfl]
      exact ⟨rfl, .float _ _⟩
    · cases h
  · cases h

def operOk (o : Oper) : Bool := o.op.operands.toList.all opdOk

def nilCheckA : Value → Option Value
  | .pointer (some a) => some (.pointer (some a))
  | .func (.func f) ⟨[]⟩ cap => some (.func (.func f) #[] cap)
  | _ => none

def silentA (P : Program) (ρ : Operand → Value) (rd : Nat → Option AObj) (o : Oper) : Option Value :=
  match o.op with
  | .move x | .assign x => some (ρ x)
  | .pick c a b => match ρ c with | .bool t => some (if t then ρ a else ρ b) | _ => none
  | .build t parts => buildA P t (parts.toList.map fun p => (p.1, ρ p.2))
  | .load t a => loadA P rd t (ρ a)
  | .nilCheck x => nilCheckA (ρ x)
  | .binOp op t x y _ => binA P op t x y (ρ x) (ρ y)
  | .unOp op _ x => unA P op (ρ x)
  | .convert s d x => convA P rd s d (ρ x)
  | .makeFunc fn first cap => if first.size = 0 then some (.func fn #[] (cap.map ρ)) else none
  | .slice t x lo hi mx => sliceA P t (ρ x) (lo.map ρ) (hi.map ρ) (mx.map ρ)
  | .fieldAddr s x i => fieldAddrA P s i (ρ x)
  | .field t x i => fieldA P t i (ρ x)
  | .indexAddr t x i => indexAddrA P t (ρ x) (ρ i)
  | .index t x i => indexA P t (ρ x) (ρ i)
  | .lookup t x i ok => lookupA P rd t (ρ x) (ρ i) ok
  | .extract t i => match ρ t with | .tuple vs => vs.toList[i]? | _ => none
  | .call c => match c.callee with | .builtin b => builtinA P rd b c.argTypes (c.args.toList.map ρ) | _ => none
  | _ => none

theorem run_v {P : Program} {s : Sem Value} {v : Value} {w w' : World} (h : s.run P w = .ok v w') : ((do pure (Next.value (← s)) : Sem Next)).run P w = .ok (.value v) w' := by
  rw [Sem.run_bind, h]; rfl

theorem LRel.map_ev {f : Inj} {T : List Value} {a : Act} (hT : LRel f T a.tmps.toList) : ∀ (xs : List Operand), xs.all opdOk = true → LRel f (xs.map (evA T)) (xs.map a.eval)
  | [], _ => LRel.nil
  | x :: xs, h => by
    simp only [List.all_cons, Bool.and_eq_true] at h
    exact LRel.cons (evA_rel hT h.1) (LRel.map_ev hT xs h.2)

theorem ORel.map_ev {f : Inj} {T : List Value} {a : Act} (hT : LRel f T a.tmps.toList) {x : Option Operand} (h : ∀ y, x = some y → opdOk y = true) : ORel f (x.map (evA T)) (x.map a.eval) := by
  cases x with
  | none => trivial
  | some y => exact evA_rel hT (h y rfl)

theorem silentA_ok {P : Program} {f : Inj} {σ : St} {w : World} (hR : Rel f σ w) {T : List Value} {a : Act} (hT : LRel f T a.tmps.toList) {o : Oper} (ho : operOk o = true) {v : Value} (h : silentA P (evA T) σ.get o = some v) :
    ∃ v', (execOp a.eval o).run P w = .ok (.value v') w ∧ VRel f v v' := by
  obtain ⟨dst, op, type, pos, after, guard⟩ := o
  unfold silentA at h
  unfold operOk at ho
  cases op <;> simp only [Op.operands] at h ho <;> try (cases h; done)
  case move x =>
    cases h
    simp only [List.all_cons, List.all_nil, Bool.and_true] at ho
    exact ⟨_, rfl, evA_rel hT ho⟩
  case assign x =>
    cases h
    simp only [List.all_cons, List.all_nil, Bool.and_true] at ho
    exact ⟨_, rfl, evA_rel hT ho⟩
  case pick c x y =>
    simp only [List.all_cons, List.all_nil, Bool.and_true, Bool.and_eq_true] at ho
    have hc := evA_rel hT ho.1
    split at h
    · rename_i t ht
      rw [ht] at hc
      have e := hc.bool_of
      cases h
      refine ⟨if t then a.eval x else a.eval y, ?_, ?_⟩
      · unfold execOp
        simp only [e, asBool, Sem.run_bind, Sem.run_pure, Result.andThen_ok]
      · cases t
        · exact evA_rel hT ho.2.2
        · exact evA_rel hT ho.2.1
    · cases h
  case build t parts =>
    have hpp : (parts.toList.map (·.2)).all opdOk = true := by simpa using ho
    obtain ⟨v', hr, hv⟩ := buildA_ok (f := f) (parts' := parts.map fun (i, x) => (i, a.eval x)) (by simp) (fun i p p' h1 h2 => by
      simp only [List.getElem?_map, Array.toList_map, Option.map_eq_some_iff] at h1 h2
      obtain ⟨q, hq, rfl⟩ := h1
      obtain ⟨q', hq', rfl⟩ := h2
      rw [hq] at hq'
      cases hq'
      exact ⟨rfl, evA_rel hT (List.all_eq_true.1 hpp _ (List.mem_map_of_mem (List.mem_of_getElem? hq)))⟩) h w
    exact ⟨v', run_v hr, hv⟩
  case load t x =>
    simp only [List.all_cons, List.all_nil, Bool.and_true] at ho
    obtain ⟨v', hr, hv⟩ := loadA_ok hR (evA_rel hT ho) h
    exact ⟨v', run_v hr, hv⟩
  case nilCheck x =>
    simp only [List.all_cons, List.all_nil, Bool.and_true] at ho
    have hx := evA_rel hT ho
    unfold nilCheckA at h
    split at h
    · rename_i b hb
      cases h
      rw [hb] at hx
      obtain ⟨b', hb', hp⟩ := hx.ptr_of
      refine ⟨_, ?_, .ptr b b' hp⟩
      unfold execOp
      simp only [hb']
      rfl
    · rename_i g cap hb
      cases h
      rw [hb] at hx
      have hxx : ∃ cap', a.eval x = .func (.func g) #[] cap' ∧ VRel f (.func (.func g) #[] cap) (.func (.func g) #[] cap') := by
        generalize a.eval x = q at hx
        cases hx with
        | func _ _ cs' h1 h2 => exact ⟨cs', rfl, .func _ _ _ h1 h2⟩
      obtain ⟨cap', e, hv⟩ := hxx
      refine ⟨_, ?_, hv⟩
      unfold execOp
      simp only [e]
      rfl
    · cases h
  case binOp op t x y yt =>
    simp only [List.all_cons, List.all_nil, Bool.and_true, Bool.and_eq_true] at ho
    obtain ⟨v', hr, hv⟩ := binA_ok (evA_rel hT ho.1) (evA_rel hT ho.2) h w
    exact ⟨v', run_v hr, hv⟩
  case unOp op t x =>
    simp only [List.all_cons, List.all_nil, Bool.and_true] at ho
    obtain ⟨v', hr, hv⟩ := unA_ok (evA_rel hT ho) h w
    exact ⟨v', run_v hr, hv⟩
  case convert s d x =>
    simp only [List.all_cons, List.all_nil, Bool.and_true] at ho
    obtain ⟨v', hr, hv⟩ := convA_ok hR (evA_rel hT ho) h
    exact ⟨v', run_v hr, hv⟩
  case makeFunc fn first cap =>
    split at h
    · rename_i hz
      cases h
      have hf : first = #[] := Array.eq_empty_of_size_eq_zero hz
      subst hf
      simp only [Array.empty_append] at ho
      have hl := LRel.map_ev hT cap.toList ho
      refine ⟨.func fn #[] (cap.map a.eval), run_v (s := Instr.makeFunc fn ((#[] : Array Operand).map a.eval) (cap.map a.eval)) (by simp [Instr.makeFunc]), .func _ _ _ (by simp) ?_⟩
      intro i x x' h1 h2
      exact hl.2 i x x' (by simpa using h1) (by simpa using h2)
    · cases h
  case slice t x lo hi mx =>
    simp only [Array.toList_append, List.all_append, List.all_cons, List.all_nil, Bool.and_true, Bool.and_eq_true] at ho
    obtain ⟨v', hr, hv⟩ := sliceA_ok (evA_rel hT ho.1.1.1) (ORel.map_ev hT (x := lo) (fun y e => by subst e; simpa using ho.1.1.2)) (ORel.map_ev hT (x := hi) (fun y e => by subst e; simpa using ho.1.2)) (ORel.map_ev hT (x := mx) (fun y e => by subst e; simpa using ho.2)) h w
    exact ⟨v', run_v hr, hv⟩
  case fieldAddr s x i =>
    simp only [List.all_cons, List.all_nil, Bool.and_true] at ho
    obtain ⟨v', hr, hv⟩ := fieldAddrA_ok (evA_rel hT ho) h w
    exact ⟨v', run_v hr, hv⟩
  case field t x i =>
    simp only [List.all_cons, List.all_nil, Bool.and_true] at ho
    obtain ⟨v', hr, hv⟩ := fieldA_ok (evA_rel hT ho) h w
    exact ⟨v', run_v hr, hv⟩
  case indexAddr t x i =>
    simp only [List.all_cons, List.all_nil, Bool.and_true, Bool.and_eq_true] at ho
    obtain ⟨v', hr, hv⟩ := indexAddrA_ok (evA_rel hT ho.1) (evA_rel hT ho.2) h w
    exact ⟨v', run_v hr, hv⟩
  case index t x i =>
    simp only [List.all_cons, List.all_nil, Bool.and_true, Bool.and_eq_true] at ho
    obtain ⟨v', hr, hv⟩ := indexA_ok (evA_rel hT ho.1) (evA_rel hT ho.2) h w
    exact ⟨v', run_v hr, hv⟩
  case lookup t x i ok =>
    simp only [List.all_cons, List.all_nil, Bool.and_true, Bool.and_eq_true] at ho
    obtain ⟨v', hr, hv⟩ := lookupA_ok hR (evA_rel hT ho.1) (evA_rel hT ho.2) h
    exact ⟨v', run_v hr, hv⟩
  case extract t i =>
    simp only [List.all_cons, List.all_nil, Bool.and_true] at ho
    have hx := evA_rel hT ho
    split at h
    · rename_i vs hb
      rw [hb] at hx
      obtain ⟨vs', e, hl⟩ := hx.tuple_inv
      obtain ⟨v', hv, r⟩ := hl.get h
      refine ⟨v', run_v ?_, r⟩
      rw [Array.getElem?_toList] at hv
      unfold Instr.extract
      simp only [e, hv]
      rfl
    · cases h
  case call c =>
    obtain ⟨callee, args, ats⟩ := c
    cases callee <;> simp only at h <;> try (cases h; done)
    rename_i b
    simp only [Call.operands, Array.empty_append] at ho
    have hl : LRel f (args.toList.map (evA T)) (args.map a.eval).toList := by simpa using LRel.map_ev hT args.toList ho
    obtain ⟨hr, hv⟩ := builtinA_ok (ty := type) (cs := args.map fun | .const _ => true | _ => false) hR hl h
    refine ⟨v, ?_, hv⟩
    unfold execOp
    simp only [resolve, Sem.run_bind, Sem.run_pure, Result.andThen_ok, invoke]
    exact hr
end Go.As
namespace Go.As

def Inj.set (f : Inj) (b : Nat) (x : Nat × Nat) : Inj := fun i => if i = b then some x else f i

theorem Inj.le_set {f : Inj} {b : Nat} {x : Nat × Nat} (h : f b = none) : Inj.le f (f.set b x) := by
  intro i y hy
  unfold Inj.set
  split
  · rename_i e; subst e; rw [h] at hy; cases hy
  · exact hy
theorem Inj.set_self (f : Inj) (b : Nat) (x : Nat × Nat) : f.set b x b = some x := by simp [Inj.set]

/-- A new object under a given number. -/
def St.at (σ : St) (b : Nat) (o : AObj) (nx : Nat) : St := { heap := σ.heap.set b (some o), next := nx }
theorem St.get_at (σ : St) (b : Nat) (o : AObj) (nx m : Nat) : (σ.at b o nx).get m = if m = b then some o else σ.get m := Tr.get_set _ _ _ _

theorem Rel.new {f : Inj} {σ : St} {w w' : World} (hR : Rel f σ w) {b nx k : Nat} {o : AObj} {o' : Obj} (hf : f b = none) (hb : b < nx) (hn : σ.next ≤ nx) (hh : w'.heap = w.heap.push o') (ho : ∀ g, Inj.le f g → ObjRel g k o o') :
    Rel (f.set b (w.heap.size, k)) (σ.at b o nx) w' where
  obj := by
    intro i oi c q hi hc
    rw [St.get_at] at hi
    unfold Inj.set at hc
    split at hi
    · rename_i e
      cases hi
      rw [if_pos e] at hc
      cases hc
      exact ⟨o', by rw [hh]; simp, ho _ (Inj.le_set hf)⟩
    · rename_i e
      rw [if_neg e] at hc
      obtain ⟨oo, h1, h2⟩ := hR.obj i oi c q hi hc
      refine ⟨oo, ?_, h2.mono (Inj.le_set hf)⟩
      rw [hh]
      have := hR.img i c q hc
      rw [Array.getElem?_push_lt this]
      rw [Array.getElem?_eq_getElem this] at h1
      exact h1
  inj := by
    intro i j oi oj c k1 k2 hi hj hci hcj
    rw [St.get_at] at hi hj
    unfold Inj.set at hci hcj
    by_cases ei : i = b <;> by_cases ej : j = b
    · rw [ei, ej]
    · rw [if_pos ei] at hci
      rw [if_neg ej] at hcj
      cases hci
      have := hR.img j _ _ hcj
      omega
    · rw [if_neg ei] at hci
      rw [if_pos ej] at hcj
      cases hcj
      have := hR.img i _ _ hci
      omega
    · rw [if_neg ei] at hi hci
      rw [if_neg ej] at hj hcj
      exact hR.inj i j oi oj c k1 k2 hi hj hci hcj
  dom := by
    intro i x hx
    unfold Inj.set at hx
    show i < nx
    split at hx
    · rename_i e; rw [e]; exact hb
    · exact Nat.lt_of_lt_of_le (hR.dom i x hx) hn
  img := by
    intro i c q hx
    unfold Inj.set at hx
    rw [hh]
    simp only [Array.size_push]
    split at hx
    · cases hx; omega
    · have := hR.img i c q hx; omega

theorem Ext.made {f : Inj} {σ : St} {w w' : World} {b nx k : Nat} {o : AObj} {o' : Obj} (hf : f b = none) (hb : σ.next ≤ b) (hn : σ.next ≤ nx) (hh : w'.heap = w.heap.push o') (h1 : w'.os = w.os) (h2 : w'.tape = w.tape) (h3 : w'.output = w.output) :
    Ext f σ w (f.set b (w.heap.size, k)) (σ.at b o nx) w' where
  le := Inj.le_set hf
  os := h1
  tape := h2
  output := h3
  size := by rw [hh]; simp
  keep := fun c hc _ => by rw [hh, Array.getElem?_push_lt hc, Array.getElem?_eq_getElem hc]
  img := by
    rintro c hc ⟨i, oi, q, hi, hw, hcc⟩
    rw [St.get_at] at hi
    unfold Inj.set at hcc
    split at hi
    · rename_i e
      rw [if_pos e] at hcc
      cases hcc
      omega
    · rename_i e
      rw [if_neg e] at hcc
      exact ⟨i, oi, q, hi, hw, hcc⟩
  imgl := by
    rintro c hc ⟨i, oi, q, hi, hcc⟩
    rw [St.get_at] at hi
    unfold Inj.set at hcc
    split at hi
    · rename_i e
      rw [if_pos e] at hcc
      cases hcc
      omega
    · rename_i e
      rw [if_neg e] at hcc
      exact ⟨i, oi, q, hi, hcc⟩
  new := by
    intro i x hx
    unfold Inj.set at hx
    split at hx
    · rename_i e; subst e; exact .inr hb
    · exact .inl hx
  next := hn

/-! ### The operations -/
def ptrTo (b : Nat) : Value := .pointer (some ⟨b, 0, none⟩)

def zerosL (z : Array Value) (n : Nat) : List Value := (List.range n).map fun i => z[i % z.size]!

/-- The zero cells for n cells (n = 0: none asked). -/
def zeroC (P : Program) (t : TypeId) (n : Nat) : Option (Array Value) :=
  if n = 0 then some #[] else
  match zeroV P t with
  | some z => if z.cells.size = 0 then none else some z.cells
  | none => none

def mkMapA (P : Program) (t : TypeId) (r : Option Value) : Option (AObj × (Nat → Value)) :=
  match P.underlying t with
  | some (.map kt _) =>
    match P.underlying kt, r with
    | some (.int k), none => some (.map k [], fun b => .map (some b))
    | some (.int k), some (.int _ _) => some (.map k [], fun b => .map (some b))
    | _, _ => none
  | _ => none

def allocA (P : Program) (ρ : Operand → Value) (o : Oper) : Option (AObj × (Nat → Value)) :=
  match o.op with
  | .alloc t => (zeroV P t).map fun z => (.cells z.cells.toList t .ex, ptrTo)
  | .box t x => some (.cells (ρ x).cells.toList t .ex, ptrTo)
  | .buildSlice t len parts =>
    match P.underlying t with
    | some (.slice elem) =>
      match P.info? elem with
      | some it =>
        if len * it.size ≤ 2 ^ 24 ∧ len < unk then
          match zeroC P elem (len * it.size) with
          | some z =>
            match Instr.fill (fun i => some (i * it.size, it.size)) (zerosL z (len * it.size)).toArray (parts.toList.map fun p => (p.1, ρ p.2)) with
            | some cells => some (.cells cells.toList elem .ex, fun b => .slice (some ⟨b, 0, none⟩) len len)
            | none => none
          | none => none
        else none
      | none => none
    | _ => none
  | .makeMap t r => mkMapA P t (r.map ρ)
  | .makeSlice t l c =>
    match P.underlying t, ρ l, ρ c with
    | some (.slice elem), .int .i64 l, .int .i64 c =>
      match P.info? elem with
      | some it =>
        if 0 ≤ l ∧ l ≤ c ∧ c * it.bytes ≤ 2 ^ 40 ∧ c ≤ 2 ^ 40 then
          match zeroC P elem (c.toNat * it.size) with
          | some z => some (.cells (zerosL z (c.toNat * it.size)) elem .ex, fun b => .slice (some ⟨b, 0, none⟩) l.toNat c.toNat)
          | none => none
        else none
      | none => none
    | _, _, _ => none
  | .convert s d x =>
    match P.underlying s, P.underlying d, ρ x with
    | some .string, some (.slice e), .string s =>
      if isU8 P e ∧ s.size < 2 ^ 40 then some (.cells (s.data.toList.map fun b => .int .u8 b.toNat) e (.vec 1), fun b => .slice (some ⟨b, 0, none⟩) s.size unk) else none
    | _, _, _ => none
  | _ => none

/-- What is told of such an operation. -/
structure Makes (P : Program) (f : Inj) (w : World) (b : Nat) (o : AObj) (v : Value) (r : Result Next) : Prop where
  ex : ∃ (o' : Obj) (k : Nat) (v' : Value) (w' : World), r = .ok (.value v') w' ∧ w'.heap = w.heap.push o' ∧ w'.os = w.os ∧ w'.tape = w.tape ∧ w'.output = w.output ∧
    (∀ g, Inj.le f g → ObjRel g k o o') ∧ (∀ g : Inj, g b = some (w.heap.size, k) → VRel g v v')

theorem ObjRel.row {g : Inj} {cs : List Value} {cs' : Array Value} {t : TypeId} {k : Nat} (h : LRel g cs cs'.toList) : ObjRel g k (.cells cs t .ex) (.cells cs' t (0, 0)) := by
  have e : cs'.toList.take cs.length = cs'.toList := List.take_of_length_le (by rw [h.1]; exact Nat.le_refl _)
  exact .cells cs t .ex cs' (0, 0) [] (by rw [e]; exact h) (by simp [e]) (fun _ => .inl rfl) (by simp)

theorem ptrTo_rel {g : Inj} {b c k : Nat} (h : g b = some (c, k)) : VRel g (ptrTo b) (.pointer (some ⟨c, 0, none⟩)) := .ptr _ _ ⟨rfl, rfl, rfl, k, h⟩

theorem fullSlice {g : Inj} {b c k n m : Nat} (h : g b = some (c, k)) (hn : n ≤ m) (hm : m < unk) : VRel g (.slice (some ⟨b, 0, none⟩) n m) (.slice (some ⟨c, 0, none⟩) n m) :=
  .slice _ _ _ _ _ (SlOk.exact (fun _ => ⟨rfl, rfl, rfl, k, h⟩) rfl rfl hm hn)

theorem LRel.closed {g : Inj} {l : List Value} (h : l.all closedV = true) : LRel g l l := by
  refine ⟨rfl, fun i x x' h1 h2 => ?_⟩
  rw [h1] at h2
  cases h2
  exact VRel.closed g (List.all_eq_true.1 h x (List.mem_of_getElem? h1))

theorem closedV_cells {z : Value} (h : closedV z = true) : z.cells.toList.all closedV = true := by
  cases z <;> simp only [Value.cells, List.all_cons, List.all_nil, Bool.and_true] <;> try exact h
  rename_i cs
  obtain ⟨l⟩ := cs
  simp only [closedV] at h
  refine List.all_eq_true.2 fun x hx => ?_
  have := List.all_eq_true.1 h x hx
  unfold closedV
  split
  · simp [plainV] at this
  · simp [plainV] at this
  · exact this

theorem zerosL_rel {g : Inj} {z : Array Value} (h : z.toList.all closedV = true) (n : Nat) (hz : n = 0 ∨ z.size ≠ 0) : LRel g (zerosL z n) ((Array.range n).map fun i => z[i % z.size]!).toList := by
  have e : ((Array.range n).map fun i => z[i % z.size]!).toList = zerosL z n := by simp [zerosL]
  rw [e]
  refine LRel.closed (List.all_eq_true.2 fun x hx => ?_)
  unfold zerosL at hx
  rcases hz with rfl | hz
  · simp at hx
  · obtain ⟨i, _, rfl⟩ := List.mem_map.1 hx
    have hlt : i % z.size < z.size := Nat.mod_lt _ (by omega)
    rw [getElem!_pos z _ hlt]
    exact List.all_eq_true.1 h _ (by simp)

theorem run_newRow {P : Program} (elem : TypeId) (cells : Array Value) (w : World) : (newRow elem cells).run P w = .ok ⟨w.heap.size, 0, none⟩ (w.alloc (.cells cells elem)) := by
  unfold newRow
  simp

theorem run_askRoom {P : Program} {n : Nat} (h : n ≤ roomBytes) (w : World) : (askRoom n).run P w = .ok () w := by
  unfold askRoom
  rw [if_neg (by omega)]
  rfl

theorem wrap64_in {n : Int} (h : 0 ≤ n) (h' : n < 9223372036854775808) : IntKind.i64.wrap n = n := by
  have e : n % (2 ^ IntKind.i64.bits : Int) = n := Int.emod_eq_of_lt h (by simp [IntKind.bits]; omega)
  unfold IntKind.wrap
  simp only [e]
  rw [if_neg]
  simp [IntKind.bits]
  omega

theorem zeroC_spec {P : Program} {t : TypeId} {n : Nat} {z : Array Value} (h : zeroC P t n = some z) (w : World) :
    (n = 0 ∨ z.size ≠ 0) ∧ z.toList.all closedV = true ∧ ((if n = 0 then pure #[] else do pure (← Go.zeroValue t).cells : Sem (Array Value))).run P w = .ok z w := by
  unfold zeroC at h
  split at h
  · rename_i h0
    cases h
    exact ⟨.inl h0, rfl, by rw [if_pos h0]; rfl⟩
  · rename_i h0
    split at h
    · rename_i zz hz
      split at h
      · cases h
      · rename_i hs
        cases h
        obtain ⟨hr, hc⟩ := zeroV_spec hz w
        exact ⟨.inr hs, closedV_cells hc, by rw [if_neg h0, Sem.run_bind, hr]; rfl⟩
    · cases h

theorem run_markStringish {P : Program} (w : World) (c : Array Value) (e : TypeId) :
    (markStringish ⟨w.heap.size, 0, none⟩).run P (w.alloc (.cells c e)) = .ok () { w with heap := w.heap.push (.cells c e (c.size, c.size + 1)) } := by
  have hh : (w.alloc (.cells c e)).heap = w.heap.push (.cells c e) := rfl
  have h1 : (w.alloc (.cells c e)).shape? w.heap.size = some (e, c.size) := by simp [World.shape?, hh]
  unfold markStringish
  rw [Sem.run_bind]
  have h2 : (shape w.heap.size).run P (w.alloc (.cells c e)) = .ok (some (e, c.size)) (w.alloc (.cells c e)) := by
    show Result.ok ((w.alloc (.cells c e)).shape? w.heap.size) _ = _
    rw [h1]
  rw [h2]
  simp only [Result.andThen_ok]
  show Result.ok () ((w.alloc (.cells c e)).freeze ⟨w.heap.size, c.size, none⟩ 1) = _
  congr 1
  unfold World.freeze
  simp only [Nat.one_ne_zero, if_false]
  unfold World.alloc
  congr 1
  apply Array.ext_getElem?
  intro i
  rw [Array.getElem?_modify]
  by_cases hi : w.heap.size = i
  · subst hi
    simp
  · rw [if_neg hi]
    by_cases hlt : i < w.heap.size
    · simp [Array.getElem?_push_lt hlt]
    · have h3 : i > w.heap.size := by omega
      simp [Array.getElem?_eq_none (show (w.heap.push (Obj.cells c e)).size ≤ i by simp; omega), Array.getElem?_eq_none (show (w.heap.push (Obj.cells c e (c.size, c.size + 1))).size ≤ i by simp; omega)]

theorem allocA_ok {P : Program} {f : Inj} {w : World} {T : List Value} {a : Act} (hT : LRel f T a.tmps.toList) {o : Oper} (ho : operOk o = true) {ob : AObj} {mk : Nat → Value} (h : allocA P (evA T) o = some (ob, mk)) (b : Nat) :
    Makes P f w b ob (mk b) ((execOp a.eval o).run P w) := by
  obtain ⟨dst, op, type, pos, after, guard⟩ := o
  unfold allocA at h
  unfold operOk at ho
  cases op <;> simp only [Op.operands] at h ho <;> try (cases h; done)
  case alloc t =>
    cases hz : zeroV P t with
    | none => rw [hz] at h; cases h
    | some z =>
      rw [hz] at h
      cases h
      obtain ⟨hr, hc⟩ := zeroV_spec hz w
      refine ⟨.cells z.cells t, 0, .pointer (some ⟨w.heap.size, 0, none⟩), w.alloc (.cells z.cells t), ?_, rfl, rfl, rfl, rfl, fun g _ => ObjRel.row (LRel.closed (closedV_cells hc)), fun g hg => ptrTo_rel hg⟩
      refine run_v ?_
      unfold Instr.alloc newVar
      rw [Sem.run_bind, hr]
      simp only [Result.andThen_ok, Sem.run_bind, run_newRow, Sem.run_pure]
  case box t x =>
    cases h
    simp only [List.all_cons, List.all_nil, Bool.and_true] at ho
    have hx := evA_rel hT ho
    refine ⟨.cells (a.eval x).cells t, 0, .pointer (some ⟨w.heap.size, 0, none⟩), w.alloc (.cells (a.eval x).cells t), ?_, rfl, rfl, rfl, rfl, fun g hg => ObjRel.row (hx.cells.mono hg), fun g hg => ptrTo_rel hg⟩
    refine run_v ?_
    unfold Instr.box newVar
    simp only [Result.andThen_ok, Sem.run_bind, run_newRow, Sem.run_pure]
  case buildSlice t len parts =>
    have hpp : (parts.toList.map (·.2)).all opdOk = true := by simpa using ho
    split at h
    · rename_i elem hu
      split at h
      · rename_i it hi
        split at h
        · rename_i hlen
          split at h
          · rename_i z hz
            split at h
            · rename_i cells hfill
              cases h
              obtain ⟨hz1, hz2, hz3⟩ := zeroC_spec hz w
              have hfr := fill_rel (f := f) (fun i => some (i * it.size, it.size)) (parts.toList.map fun p => (p.1, evA T p.2)) (parts.toList.map fun p => (p.1, a.eval p.2)) (zerosL z (len * it.size)).toArray
                ((Array.range (len * it.size)).map (z[· % z.size]!)) cells (by simp) (fun i p p' h1 h2 => by
                  simp only [List.getElem?_map, Option.map_eq_some_iff] at h1 h2
                  obtain ⟨q, hq, rfl⟩ := h1
                  obtain ⟨q', hq', rfl⟩ := h2
                  rw [hq] at hq'
                  cases hq'
                  exact ⟨rfl, evA_rel hT (List.all_eq_true.1 hpp _ (List.mem_map_of_mem (List.mem_of_getElem? hq)))⟩) (zerosL_rel hz2 _ hz1) hfill
              obtain ⟨cells', hfill', hl⟩ := hfr
              refine ⟨.cells cells' elem, 0, .slice (some ⟨w.heap.size, 0, none⟩) len len, w.alloc (.cells cells' elem), ?_, rfl, rfl, rfl, rfl, fun g hg => ObjRel.row (hl.mono hg), fun g hg => fullSlice hg (Nat.le_refl _) hlen.2⟩
              refine run_v ?_
              unfold Instr.buildSlice
              have hn : ¬ len * it.size > 2 ^ 24 := by omega
              have hz4 : ((if len * it.size = 0 then pure #[] else do pure (← Go.zeroValue elem).cells : Sem (Array Value))).run P w = .ok z w := hz3
              have hff : Instr.fill (fun i => some (i * it.size, it.size)) ((Array.range (len * it.size)).map (z[· % z.size]!)) (parts.map fun (i, x) => (i, a.eval x)).toList = some cells' := by
                rw [← hfill', Array.toList_map]
              rw [Sem.run_bind, run_underlying hu, Result.andThen_ok]
              simp only []
              rw [Sem.run_bind, run_sizeOf hi, Result.andThen_ok]
              rw [if_neg hn]
              by_cases h0 : len * it.size = 0
              · rw [if_pos h0] at hz4 ⊢
                simp only [Sem.run_bind, Sem.run_pure, Result.andThen_ok, Result.ok.injEq] at hz4 ⊢
                rw [hz4.1, hff]
                simp only [Sem.run_bind, run_newRow, Result.andThen_ok, Sem.run_pure]
              · rw [if_neg h0] at hz4 ⊢
                rw [Sem.run_bind] at hz4
                cases hzv : (Go.zeroValue elem).run P w with
                | halt x w1 => rw [hzv] at hz4; simp [Result.andThen] at hz4
                | ok u w1 =>
                  rw [hzv] at hz4
                  simp only [Sem.run_pure, Result.andThen_ok, Result.ok.injEq] at hz4
                  obtain ⟨e1, e2⟩ := hz4
                  subst e2
                  simp only [Sem.run_bind, hzv, Sem.run_pure, Result.andThen_ok, e1]
                  rw [hff]
                  simp only [Sem.run_bind, run_newRow, Result.andThen_ok, Sem.run_pure]
            · cases h
          · cases h
        · cases h
      · cases h
    · cases h
  case makeMap t r =>
    have hr : ORel f (r.map (evA T)) (r.map a.eval) := ORel.map_ev hT (fun y e => by subst e; simpa using ho)
    unfold mkMapA at h
    split at h
    · rename_i kt et hu
      split at h
      · rename_i k hk hrr
        cases h
        have e : r = none := by cases r with | none => rfl | some x => cases hrr
        subst e
        refine ⟨.map #[] 0, 0, .map (some w.heap.size), w.alloc (.map #[] 0), run_v ?_, rfl, rfl, rfl, rfl, fun g _ => .map k [] #[] 0 ⟨by simp, by simp, by simp, by simp, by simp, by simp⟩, fun g hg => .map _ _ _ hg⟩
        unfold Instr.makeMap
        simp
      · rename_i k kk nn hk hrr
        cases h
        rw [hrr] at hr
        have hxx : r.map a.eval = some (.int kk nn) := by
          cases hq : r.map a.eval with
          | none => rw [hq] at hr; exact hr.elim
          | some v' => rw [hq] at hr; exact congrArg some (VRel.int_of hr)
        refine ⟨.map #[] 0, 0, .map (some w.heap.size), w.alloc (.map #[] 0), run_v ?_, rfl, rfl, rfl, rfl, fun g _ => .map k [] #[] 0 ⟨by simp, by simp, by simp, by simp, by simp, by simp⟩, fun g hg => .map _ _ _ hg⟩
        rw [hxx]
        unfold Instr.makeMap
        simp [run_underlying hu, asInt, asIntOf]
      · cases h
    · cases h
  case makeSlice t l c =>
    simp only [List.all_cons, List.all_nil, Bool.and_true, Bool.and_eq_true] at ho
    split at h
    · rename_i elem l0 c0 hu hl hc
      have hll := evA_rel hT ho.1
      have hcc := evA_rel hT ho.2
      rw [hl] at hll
      rw [hc] at hcc
      split at h
      · rename_i it hi
        split at h
        · rename_i hb
          split at h
          · rename_i z hz
            cases h
            obtain ⟨hz1, hz2, hz3⟩ := zeroC_spec hz w
            refine ⟨.cells ((Array.range (c0.toNat * it.size)).map (z[· % z.size]!)) elem, 0, .slice (some ⟨w.heap.size, 0, none⟩) l0.toNat c0.toNat, w.alloc (.cells ((Array.range (c0.toNat * it.size)).map (z[· % z.size]!)) elem), run_v ?_, rfl, rfl, rfl, rfl,
              fun g _ => ObjRel.row (zerosL_rel hz2 _ hz1), fun g hg => fullSlice hg (by omega) (by simp only [unk]; omega)⟩
            have w1 : IntKind.i64.wrap l0 = l0 := wrap64_in (by omega) (by omega)
            have w2 : IntKind.i64.wrap c0 = c0 := wrap64_in (by omega) (by omega)
            have hty : (typeInfo elem).run P w = .ok it w := by unfold typeInfo; simp [hi]
            have hbc : (it.bytes : Int) * c0 ≤ 2 ^ 40 := by rw [Int.mul_comm]; exact hb.2.2.1
            have hcond : ((decide (c0 < 0) || decide ((it.bytes : Int) * c0 > 2 ^ 48)) || decide (l0 < 0) || decide (l0 > c0)) = false := by
              have a1 : ¬ c0 < 0 := by omega
              have a2 : ¬ (it.bytes : Int) * c0 > 2 ^ 48 := by omega
              have a3 : ¬ l0 < 0 := by omega
              have a4 : ¬ l0 > c0 := by omega
              rw [decide_eq_false a1, decide_eq_false a2, decide_eq_false a3, decide_eq_false a4]
              rfl
            have hroom : c0.toNat * it.bytes ≤ roomBytes := by
              have : ((c0.toNat * it.bytes : Nat) : Int) ≤ 2 ^ 40 := by
                rw [Int.natCast_mul, Int.toNat_of_nonneg (by omega)]; exact hb.2.2.1
              simp only [roomBytes]
              omega
            unfold Instr.makeSlice
            rw [hll.int_of, hcc.int_of]
            simp only [Sem.run_bind, run_underlying hu, Result.andThen_ok, asInt, asIntOf, Sem.run_pure, hty, w1, w2, hcond, Bool.false_eq_true, if_false, run_askRoom hroom, run_sizeOf hi]
            by_cases h0 : c0.toNat * it.size = 0
            · rw [if_pos h0] at hz3
              simp only [Sem.run_pure, Result.ok.injEq] at hz3
              simp only [h0, if_true, Sem.run_bind, Sem.run_pure, Result.andThen_ok, run_newRow, hz3.1]
            · rw [if_neg h0] at hz3
              simp only [h0, if_false]
              rw [Sem.run_bind] at hz3
              cases hzv : (Go.zeroValue elem).run P w with
              | halt x w1 => rw [hzv] at hz3; simp [Result.andThen] at hz3
              | ok u w1 =>
                rw [hzv] at hz3
                simp only [Sem.run_pure, Result.andThen_ok, Result.ok.injEq] at hz3
                obtain ⟨e1, e2⟩ := hz3
                subst e2
                simp only [Sem.run_bind, hzv, Sem.run_pure, Result.andThen_ok, e1, run_newRow]
          · cases h
        · cases h
      · cases h
    · cases h
  case convert s d x =>
    simp only [List.all_cons, List.all_nil, Bool.and_true] at ho
    split at h
    · rename_i e sv hs hd hx
      split at h
      · rename_i hb
        cases h
        have hxx := evA_rel hT ho
        rw [hx] at hxx
        have he := isU8_spec hb.1
        have hcap1 : sv.size ≤ Question.cut (.appendCap sv.size 0 e) (w.tape w.drawn (.appendCap sv.size 0 e)) := by simp [Question.cut]
        have hcap2 : Question.cut (.appendCap sv.size 0 e) (w.tape w.drawn (.appendCap sv.size 0 e)) ≤ maxLen := by
          have := Nat.mod_lt (w.tape w.drawn (.appendCap sv.size 0 e)) (show 0 < 2 ^ 63 - sv.size by have := hb.2; omega)
          simp only [Question.cut, maxLen]
          have := hb.2
          omega
        generalize hcc : Question.cut (.appendCap sv.size 0 e) (w.tape w.drawn (.appendCap sv.size 0 e)) = cap at hcap1 hcap2
        have hsz : (sv.data.map (fun b : UInt8 => Value.int .u8 (b.toNat : Int)) ++ Array.replicate (cap - sv.size) (Value.int .u8 0)).size = cap := by
          simp only [Array.size_append, Array.size_map, Array.size_replicate]
          have : sv.data.size = sv.size := rfl
          omega
        refine ⟨.cells (sv.data.map (fun b : UInt8 => Value.int .u8 (b.toNat : Int)) ++ Array.replicate (cap - sv.size) (Value.int .u8 0)) e (cap, cap + 1), cap, .slice (some ⟨w.heap.size, 0, none⟩) sv.size cap,
          { ({ w with drawn := w.drawn + 1 } : World) with heap := w.heap.push (.cells (sv.data.map (fun b : UInt8 => Value.int .u8 (b.toNat : Int)) ++ Array.replicate (cap - sv.size) (Value.int .u8 0)) e (cap, cap + 1)) }, run_v ?_, rfl, rfl, rfl, rfl, fun g _ => ?_, fun g hg => ?_⟩
        · unfold Go.convert
          rw [hxx.string_of]
          simp only [Sem.run_bind, run_underlying hs, run_underlying hd, run_underlying he, Result.andThen_ok]
          unfold Conv.stringToBytes
          rw [Sem.run_bind, run_choose]
          simp only [Question.forced, Bool.false_eq_true, if_false, Result.andThen_ok, hcc]
          rw [Sem.run_bind, run_newRow]
          simp only [Result.andThen_ok]
          rw [Sem.run_bind, run_markStringish { w with drawn := w.drawn + 1 }, hsz]
          rfl
        · have hlen : (sv.data.toList.map fun b => Value.int .u8 (b.toNat : Int)).length = sv.size := by simp
          refine .cells _ e (.vec 1) _ (cap, cap + 1) (List.replicate (cap - sv.size) (.int .u8 0)) ?_ ?_ (fun _ => .inr (by rw [hsz]; exact Nat.le_refl _)) (fun sz hsz' => by cases hsz'; rw [hsz]; exact (Nat.mul_one cap).symm)
          · rw [hlen]
            simp only [Array.toList_append, Array.toList_map, Array.toList_replicate]
            rw [List.take_append_of_le_length (by rw [hlen]; exact Nat.le_refl _), List.take_of_length_le (by rw [hlen]; exact Nat.le_refl _)]
            refine LRel.closed (List.all_eq_true.2 fun x hx => ?_)
            obtain ⟨b, _, rfl⟩ := List.mem_map.1 hx
            rfl
          · rw [hlen]
            simp only [Array.toList_append, Array.toList_map, Array.toList_replicate]
            rw [List.take_append_of_le_length (by rw [hlen]; exact Nat.le_refl _), List.take_of_length_le (by rw [hlen]; exact Nat.le_refl _)]
        · exact .slice _ _ _ _ _ ⟨rfl, rfl, fun _ => ⟨rfl, cap, hg⟩, fun _ => ⟨hcap1, hcap2, fun _ _ => ⟨_, hg⟩⟩, fun h => absurd rfl h⟩
      · cases h
    · cases h
end Go.As
namespace Go.As

/-- What such an operation comes to: a world, a state, a map of blocks behind it. -/
def Turns (f : Inj) (σ : St) (w : World) (v : Value) (σ' : St) (v' : Value) (w' : World) : Prop :=
  ∃ f', Ext f σ w f' σ' w' ∧ Rel f' σ' w' ∧ VRel f' v v'

theorem Rel.upd {f : Inj} {σ : St} {w : World} (hR : Rel f σ w) {b c k : Nat} {o o1 : AObj} {o1' : Obj} (hb : σ.get b = some o) (hf : f b = some (c, k)) (ho : ObjRel f k o1 o1') : Rel f (σ.put b o1) (upd w c o1') where
  obj := by
    intro i oi ci q hi hci
    rw [St.get_put] at hi
    split at hi
    · rename_i e
      cases hi
      subst e
      rw [hf] at hci
      cases hci
      exact ⟨o1', upd_same (hR.img _ _ _ hf), ho⟩
    · rename_i e
      obtain ⟨oo, h1, h2⟩ := hR.obj i oi ci q hi hci
      refine ⟨oo, ?_, h2⟩
      rw [upd_ne]
      · exact h1
      · intro ec
        subst ec
        exact e (hR.inj i b oi o ci q k hi hb hci hf)
  inj := by
    intro i j oi oj ci k1 k2 hi hj hci hcj
    rw [St.get_put] at hi hj
    have hi' : ∃ oi', σ.get i = some oi' := by
      split at hi
      · rename_i e; rw [e]; exact ⟨o, hb⟩
      · exact ⟨_, hi⟩
    have hj' : ∃ oj', σ.get j = some oj' := by
      split at hj
      · rename_i e; rw [e]; exact ⟨o, hb⟩
      · exact ⟨_, hj⟩
    obtain ⟨oi', hi'⟩ := hi'
    obtain ⟨oj', hj'⟩ := hj'
    exact hR.inj i j oi' oj' ci k1 k2 hi' hj' hci hcj
  dom := fun i x hx => hR.dom i x hx
  img := fun i ci q hx => by rw [upd_size]; exact hR.img i ci q hx

theorem Ext.upd {f : Inj} {σ : St} {w : World} {b c k : Nat} {o o1 : AObj} {o1' : Obj} (hb : σ.get b = some o) (hf : f b = some (c, k)) (hw : o.writable = true) : Ext f σ w f (σ.put b o1) (upd w c o1') where
  le := fun _ _ h => h
  os := rfl
  tape := rfl
  output := rfl
  size := by rw [upd_size]; exact Nat.le_refl _
  keep := fun ci _ hn => upd_ne (fun e => hn (by subst e; exact ⟨b, o, k, hb, hw, hf⟩))
  img := by
    rintro ci hci ⟨i, oi, q, hi, hwi, hfi⟩
    rw [St.get_put] at hi
    split at hi
    · rename_i e
      subst e
      exact ⟨i, o, q, hb, hw, hfi⟩
    · exact ⟨i, oi, q, hi, hwi, hfi⟩
  imgl := by
    rintro ci hci ⟨i, oi, q, hi, hfi⟩
    rw [St.get_put] at hi
    split at hi
    · rename_i e
      subst e
      exact ⟨i, o, q, hb, hfi⟩
    · exact ⟨i, oi, q, hi, hfi⟩
  new := fun _ _ h => .inl h
  next := Nat.le_refl _

/-! ### Stores -/
def storeA (P : Program) (t : TypeId) (x v : Value) (σ : St) : Option St :=
  match x with
  | .pointer (some a) =>
    match σ.get a.block, P.info? t with
    | some (.cells cs e kd), some it =>
      if kd ≠ .ro ∧ v.cells.size = it.size ∧ v.cells.toList.all Value.oneCell' = true ∧ a.off + v.cells.size ≤ cs.length then some (σ.put a.block (.cells (splice cs a.off v.cells.toList) e kd)) else none
    | some (.blob n), some it => if v.cells.size = it.size ∧ v.cells.toList.all Value.oneCell' = true ∧ a.off + v.cells.size ≤ n then some (σ.put a.block (.blob n)) else none
    | _, _ => none
  | _ => none

theorem LRel.oneCells {f : Inj} : ∀ {l l' : List Value}, LRel f l l' → l.all Value.oneCell' = true → ∀ v ∈ l', v.oneCell' = true
  | [], l', h, _ => by rw [h.of_nil]; simp
  | x :: l, k, h, ha => by
    obtain ⟨x', l', rfl, hx, hl⟩ := h.of_cons
    simp only [List.all_cons, Bool.and_eq_true] at ha
    intro v hv
    rcases List.mem_cons.1 hv with rfl | hv
    · rw [hx.oneCell]; exact ha.1
    · exact LRel.oneCells hl ha.2 v hv

/-- A block's cells, a part of them turned: what the two sides come to. -/
theorem ObjRel.spliced {f : Inj} {k : Nat} {cs vs vs' : List Value} {e : TypeId} {kd : Kd} {cs' : Array Value} {fr : Nat × Nat} (hl : LRel f cs (cs'.toList.take cs.length)) (hle : cs.length ≤ cs'.size)
    (hfr : kd ≠ .ro → FrOk cs'.size fr) (hv : ∀ sz, kd = .vec sz → cs'.size = k * sz) (hvs : LRel f vs vs') {o : Nat} (ho : o + vs.length ≤ cs.length) :
    ObjRel f k (.cells (splice cs o vs) e kd) (.cells (splice cs'.toList o vs').toArray e fr) := by
  have hlen : (splice cs o vs).length = cs.length := splice_length _ _ _ ho
  have hle' : cs.length ≤ cs'.toList.length := by simpa using hle
  have hlen' : (splice cs'.toList o vs').length = cs'.toList.length := splice_length _ _ _ (by rw [← hvs.1]; omega)
  have hcut : (splice cs'.toList o vs').take cs.length = splice (cs'.toList.take cs.length) o vs' := by
    unfold splice
    have h1 : (cs'.toList.take o ++ vs').length ≤ cs.length := by rw [List.length_append, List.length_take, ← hvs.1]; omega
    rw [List.take_append, List.take_of_length_le h1, List.take_take, Nat.min_eq_left (by omega), List.drop_take]
    congr 2
    rw [List.length_append, List.length_take, Nat.min_eq_left (by omega)]
  refine .cells _ e kd _ fr ((splice cs'.toList o vs').drop cs.length) ?_ ?_ ?_ ?_
  · rw [hlen]
    simp only
    rw [hcut]
    exact LRel.splice hl o hvs
  · rw [hlen]
    simp only
    exact (List.take_append_drop _ _).symm
  · simpa [hlen'] using hfr
  · intro sz hsz
    rw [← hv sz hsz]
    simpa using hlen'

theorem storeA_ok {P : Program} {f : Inj} {σ σ' : St} {w : World} (hR : Rel f σ w) {t : TypeId} {x x' v v' : Value} (hx : VRel f x x') (hv : VRel f v v') (h : storeA P t x v σ = some σ') :
    ∃ w', (Instr.storeAt t x' v').run P w = .ok () w' ∧ Ext f σ w f σ' w' ∧ Rel f σ' w' := by
  unfold storeA at h
  split at h
  · rename_i a
    obtain ⟨a', rfl, hp⟩ := hx.ptr_of
    split at h
    · rename_i cs e kd it hb hi
      split at h
      · rename_i hc
        cases h
        obtain ⟨k, hf⟩ := hp.blk
        obtain ⟨ea, ea'⟩ := hp.eq
        obtain ⟨cs', fr, hcc, hl, hle, hfr, hvec⟩ := hR.cells hb hf
        have hvc := hv.cells
        have hs : v'.cells.size = v.cells.size := by have := hvc.1; simpa using this.symm
        have hw : (AObj.cells cs e kd).writable = true := by cases kd <;> first | rfl | exact absurd rfl hc.1
        refine ⟨upd w a'.block (.cells (splice cs'.toList (a.off + 0) v'.cells.toList).toArray e fr), ?_, Ext.upd hb hf hw, ?_⟩
        · unfold Instr.storeAt Instr.sureAddr storeVar
          simp only [Sem.run_bind, Sem.run_pure, Result.andThen_ok, run_sizeOf hi]
          rw [if_neg (by rw [hs, hc.2.1]; simp), ea']
          exact run_storeCells _ _ e fr _ 0 cs' w hcc (hfr hc.1).not (by simp only [Nat.add_zero]; have := hc.2.2.2; simp; omega) (LRel.oneCells hvc hc.2.2.1)
        · exact Rel.upd hR hb hf (ObjRel.spliced hl hle hfr hvec hvc (by simpa using hc.2.2.2))
      · cases h
    · rename_i n it hb hi
      split at h
      · rename_i hc
        cases h
        obtain ⟨k, hf⟩ := hp.blk
        obtain ⟨ea, ea'⟩ := hp.eq
        obtain ⟨cs', e, fr, hcc, hsz, hfr⟩ := hR.blob hb hf
        have hvc := hv.cells
        have hs : v'.cells.size = v.cells.size := by have := hvc.1; simpa using this.symm
        have hlen : (splice cs'.toList (a.off + 0) v'.cells.toList).length = cs'.toList.length := splice_length _ _ _ (by have := hc.2.2; simp; omega)
        refine ⟨upd w a'.block (.cells (splice cs'.toList (a.off + 0) v'.cells.toList).toArray e fr), ?_, Ext.upd hb hf rfl, ?_⟩
        · unfold Instr.storeAt Instr.sureAddr storeVar
          simp only [Sem.run_bind, Sem.run_pure, Result.andThen_ok, run_sizeOf hi]
          rw [if_neg (by rw [hs, hc.1]; simp), ea']
          exact run_storeCells _ _ e fr _ 0 cs' w hcc hfr.not (by simp only [Nat.add_zero]; have := hc.2.2; simp; omega) (LRel.oneCells hvc hc.2.1)
        · exact Rel.upd hR hb hf (.blob n e _ fr (by rw [List.size_toArray, hlen]; simpa using hsz) (by rw [List.size_toArray, hlen]; simpa using hfr))
      · cases h
    · cases h
  · cases h

/-! ### Append -/
/-- The cells that are appended. -/
def newsA (σ : St) (sz : Nat) : Value → Option (Nat × List Value)
  | .slice none 0 0 => some (0, [])
  | .slice (some a) m _ =>
    if m = 0 then some (0, []) else
    match σ.get a.block with
    | some (.cells cs _ _) => if a.off + m * sz ≤ cs.length then some (m, (cs.drop a.off).take (m * sz)) else none
    | _ => none
  | _ => none

def appendA (P : Program) (ats : Array TypeId) (args : List Value) (σ : St) : Option (Value × St) :=
  match ats, args with
  | ⟨[t, u]⟩, [s, x] =>
    if t = u then
      match P.underlying t with
      | some (.slice elem) =>
        match P.info? elem, zeroV P elem with
        | some it, some z =>
          if it.size = 0 ∨ z.cells.size ≠ it.size then none else
          match newsA σ it.size x with
          | some (m, news) =>
            if m = 0 then (match s with | .slice _ _ _ => some (s, σ) | _ => none) else
            if ¬ news.all Value.oneCell' = true then none else
            match s with
            | .slice none 0 0 => if m * it.bytes ≤ 2 ^ 40 ∧ m ≤ 2 ^ 40 then some (.slice (some ⟨σ.next, 0, none⟩) m unk, σ.add (.cells news elem (.vec it.size))) else none
            | .slice (some a) n c =>
              if ¬ ((n + m) * it.bytes ≤ 2 ^ 40 ∧ n + m ≤ 2 ^ 40) then none else
              match σ.get a.block with
              | some (.cells cs e kd) =>
                if c = unk then
                  if n ≠ 0 ∧ a.off = 0 ∧ e = elem ∧ cs.length = n * it.size ∧ kd = .vec it.size then
                    some (.slice (some ⟨σ.next, 0, none⟩) (n + m) unk, (σ.del a.block).add (.cells (cs ++ news) elem (.vec it.size)))
                  else none
                else if n + m ≤ c then none
                else if a.off + n * it.size ≤ cs.length then some (.slice (some ⟨σ.next, 0, none⟩) (n + m) unk, σ.add (.cells ((cs.drop a.off).take (n * it.size) ++ news) elem (.vec it.size)))
                else none
              | _ => none
            | _ => none
          | none => none
        | _, _ => none
      | _ => none
    else none
  | _, _ => none

theorem St.at_next (σ : St) (o : AObj) : σ.at σ.next o (σ.next + 1) = σ.add o := rfl

theorem Rel.fresh {f : Inj} {σ : St} {w : World} (hR : Rel f σ w) : f σ.next = none := by
  cases h : f σ.next with
  | none => rfl
  | some x => have := hR.dom _ _ h; omega

theorem run_append_zero {P : Program} (w : World) (t ty e : TypeId) (i : TypeInfo) (ht : P.underlying t = some (.slice e)) (hi : P.info? e = some i) (base : Option Addr) (n c : Nat) (hn : n ≤ c) (b : Option Addr) (c2 : Nat) :
    (Builtin.append_ #[t, t] ty #[.slice base n c, .slice b 0 c2]).run P w = .ok (.slice base n c) w := by
  cases base <;> cases b <;> simp [Builtin.append_, run_underlying ht, sizeOf, typeInfo, hi, Builtin.lenOf, hn, Builtin.firstCells, loadCells, loadCellsFrom, storeCells]

theorem run_append_in {P : Program} (w : World) (t ty e : TypeId) (i : TypeInfo) (ht : P.underlying t = some (.slice e)) (hi : P.info? e = some i) (g n c : Nat) (cur : Array Value) (fr : Nat × Nat) (te : TypeId)
    (hg : w.heap[g]? = some (.cells cur te fr)) (hfr : ∀ i, i < cur.size → ¬ (fr.1 ≤ i ∧ i < fr.2)) (a : Addr) (m c2 : Nat) (news : List Value) (hl : news.length = m * i.size)
    (hnews : (loadCells a (m * i.size)).run P w = .ok news.toArray w) (h1 : ∀ u ∈ news, u.oneCell' = true) (hroom : n + m ≤ c) (hfit : n * i.size + m * i.size ≤ cur.size) :
    (Builtin.append_ #[t, t] ty #[.slice (some ⟨g, 0, none⟩) n c, .slice (some a) m c2]).run P w =
      .ok (.slice (some ⟨g, 0, none⟩) (n + m) c) (upd w g (.cells (splice cur.toList (n * i.size) news).toArray te fr)) := by
  have hst := run_storeCells (P := P) g (n * i.size) te fr news 0 cur w hg hfr (by omega) h1
  simp only [Nat.add_zero] at hst
  simp [Builtin.append_, run_underlying ht, sizeOf, typeInfo, hi, Builtin.lenOf, hroom, Builtin.firstCells, hnews, Addr.add_lit, hst]
end Go.As
