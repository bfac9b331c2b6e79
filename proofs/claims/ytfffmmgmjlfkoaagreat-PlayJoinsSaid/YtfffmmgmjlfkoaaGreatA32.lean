/- One operation each: what it comes to, by what its operands are. -/
import Derived.Test.YtfffmmgmjlfkoaaGreatA31
namespace Go.As
set_option linter.unusedSimpArgs false
set_option linter.unusedVariables false

theorem St.get_at_eq {σ : St} {b m : Nat} {o : AObj} {nx : Nat} (h : m = b) : (σ.at b o nx).get m = some o := by rw [St.get_at, if_pos h]
theorem St.get_at_ne {σ : St} {b m : Nat} {o : AObj} {nx : Nat} (h : m ≠ b) : (σ.at b o nx).get m = σ.get m := by rw [St.get_at, if_neg h]
theorem St.get_put_eq {σ : St} {b m : Nat} {o : AObj} (h : m = b) : (σ.put b o).get m = some o := by rw [St.get_put, if_pos h]
theorem St.get_put_ne {σ : St} {b m : Nat} {o : AObj} (h : m ≠ b) : (σ.put b o).get m = σ.get m := by rw [St.get_put, if_neg h]
theorem St.get_add_eq {σ : St} {m : Nat} {o : AObj} (h : m = σ.next) : (σ.add o).get m = some o := by rw [St.get_add, if_pos h]
theorem St.get_add_ne {σ : St} {m : Nat} {o : AObj} (h : m ≠ σ.next) : (σ.add o).get m = σ.get m := by rw [St.get_add, if_neg h]
theorem St.get_del_ne {σ : St} {b m : Nat} (h : m ≠ b) : (σ.del b).get m = σ.get m := by rw [St.get_del, if_neg h]
theorem St.next_at {σ : St} {b : Nat} {o : AObj} {nx : Nat} : (σ.at b o nx).next = nx := rfl
theorem St.next_put' {σ : St} {b : Nat} {o : AObj} : (σ.put b o).next = σ.next := rfl
theorem St.next_add' {σ : St} {o : AObj} : (σ.add o).next = σ.next + 1 := rfl
theorem St.next_del' {σ : St} {b : Nat} : (σ.del b).next = σ.next := rfl

theorem wrap64 {a : Int} (h0 : -9223372036854775808 ≤ a) (h1 : a < 9223372036854775808) : IntKind.i64.wrap a = a := by
  simp [IntKind.wrap, IntKind.bits, IntKind.signed]
  omega
theorem wrapu64 {a : Int} (h0 : 0 ≤ a) (h1 : a < 18446744073709551616) : IntKind.u64.wrap a = a := by
  simp [IntKind.wrap, IntKind.bits, IntKind.signed]
  omega
theorem wrapu8 {a : Int} (h0 : 0 ≤ a) (h1 : a < 256) : IntKind.u8.wrap a = a := by
  simp [IntKind.wrap, IntKind.bits, IntKind.signed]
  omega
theorem wrapu32 {a : Int} (h0 : 0 ≤ a) (h1 : a < 4294967296) : IntKind.u32.wrap a = a := by
  simp [IntKind.wrap, IntKind.bits, IntKind.signed]
  omega

section
variable {P : Program} {K : Kn} {nid : Option Nat} {ρ : Operand → Value} {dst : Option Tmp} {ty : TypeId} {pos : String} {af : Array Edge} {g : Option (Nat × Bool)} {σ : St}

theorem o_move {x : Operand} {v : Value} (h : ρ x = v) : opF P K nid ρ ⟨dst, .move x, ty, pos, af, g⟩ σ = some (v, σ) := by rw [← h]; rfl
theorem o_assign {x : Operand} {v : Value} (h : ρ x = v) : opF P K nid ρ ⟨dst, .assign x, ty, pos, af, g⟩ σ = some (v, σ) := by rw [← h]; rfl
theorem o_pickT {c a b : Operand} {v : Value} (h : ρ c = .bool true) (h2 : ρ a = v) : opF P K nid ρ ⟨dst, .pick c a b, ty, pos, af, g⟩ σ = some (v, σ) := by
  simp [opF, okind, silentA, h, h2]
theorem o_pickF {c a b : Operand} {v : Value} (h : ρ c = .bool false) (h2 : ρ b = v) : opF P K nid ρ ⟨dst, .pick c a b, ty, pos, af, g⟩ σ = some (v, σ) := by
  simp [opF, okind, silentA, h, h2]
theorem o_bin {op : BinOp} {t : TypeId} {x y : Operand} {yt : TypeId} {vx vy v : Value} (hx : ρ x = vx) (hy : ρ y = vy) (h : binA P op t x y vx vy = some v) : opF P K nid ρ ⟨dst, .binOp op t x y yt, ty, pos, af, g⟩ σ = some (v, σ) := by
  subst hx hy
  simp only [opF, h]
theorem o_load {t : TypeId} {a : Operand} {b off : Nat} {cs : List Value} {e : TypeId} {kd : Kd} {v : Value} (ha : ρ a = .pointer (some ⟨b, off, none⟩)) (hb : σ.get b = some (.cells cs e kd)) (hv : partL P t cs off = some v) : opF P K nid ρ ⟨dst, .load t a, ty, pos, af, g⟩ σ = some (v, σ) := by
  have : loadA P σ.get t (ρ a) = some v := by rw [ha]; simp only [loadA, hb, hv]
  simp only [opF, this]
theorem o_field {s : TypeId} {x : Operand} {i : Nat} {a : Addr} {v : Value} (hx : ρ x = .pointer (some a)) (h : fieldAddrA P s i (.pointer (some a)) = some v) : opF P K nid ρ ⟨dst, .fieldAddr s x i, ty, pos, af, g⟩ σ = some (v, σ) := by
  rw [← hx] at h
  simp only [opF, h]
theorem o_extract {x : Operand} {i : Nat} {vs : Array Value} {v : Value} (h : ρ x = .tuple vs) (hi : vs.toList[i]? = some v) : opF P K nid ρ ⟨dst, .extract x i, ty, pos, af, g⟩ σ = some (v, σ) := by
  simp only [opF, h, hi]
theorem o_silent {op : Op} {v : Value} (hk : okind P ⟨dst, op, ty, pos, af, g⟩ = .silent) (h : silentA P ρ σ.get ⟨dst, op, ty, pos, af, g⟩ = some v) : opF P K nid ρ ⟨dst, op, ty, pos, af, g⟩ σ = some (v, σ) := by
  cases op <;> simp only [opF, hk, h, Option.map_some] <;> simp only [silentA] at h <;> first
    | (rw [h]; done)
    | (cases h; rfl)
    | (split at h <;> first | (cases h; done) | skip)
  all_goals try (rename_i hv; rw [hv]; simp only [h]; done)
  all_goals (cases h; rfl)
theorem o_nil {x : Operand} {a : Addr} (hx : ρ x = .pointer (some a)) : opF P K nid ρ ⟨dst, .nilCheck x, ty, pos, af, g⟩ σ = some (.pointer (some a), σ) :=
  o_silent rfl (by simp only [silentA, hx]; rfl)
theorem o_un {op : UnOp} {t : TypeId} {x : Operand} {vx v : Value} (hx : ρ x = vx) (h : unA P op vx = some v) : opF P K nid ρ ⟨dst, .unOp op t x, ty, pos, af, g⟩ σ = some (v, σ) :=
  o_silent rfl (by simp only [silentA, hx, h])
theorem o_build {t : TypeId} {parts : Array (Nat × Operand)} {l : List (Nat × Value)} {v : Value} (hl : (parts.toList.map fun p => (p.1, ρ p.2)) = l) (h : buildA P t l = some v) : opF P K nid ρ ⟨dst, .build t parts, ty, pos, af, g⟩ σ = some (v, σ) :=
  o_silent rfl (by simp only [silentA, hl, h])
theorem o_fieldV {t : TypeId} {x : Operand} {i : Nat} {vx v : Value} (hx : ρ x = vx) (h : fieldA P t i vx = some v) : opF P K nid ρ ⟨dst, .field t x i, ty, pos, af, g⟩ σ = some (v, σ) :=
  o_silent rfl (by simp only [silentA, hx, h])
theorem o_indexAddr {t : TypeId} {x i : Operand} {vx vi v : Value} (hx : ρ x = vx) (hi : ρ i = vi) (h : indexAddrA P t vx vi = some v) : opF P K nid ρ ⟨dst, .indexAddr t x i, ty, pos, af, g⟩ σ = some (v, σ) :=
  o_silent rfl (by simp only [silentA, hx, hi, h])
theorem o_index {t : TypeId} {x i : Operand} {vx vi v : Value} (hx : ρ x = vx) (hi : ρ i = vi) (h : indexA P t vx vi = some v) : opF P K nid ρ ⟨dst, .index t x i, ty, pos, af, g⟩ σ = some (v, σ) :=
  o_silent rfl (by simp only [silentA, hx, hi, h])
theorem o_slice {t : TypeId} {x : Operand} {lo hi mx : Option Operand} {vx v : Value} {vl vh vm : Option Value} (hx : ρ x = vx) (hl : lo.map ρ = vl) (hh : hi.map ρ = vh) (hm : mx.map ρ = vm) (h : sliceA P t vx vl vh vm = some v) : opF P K nid ρ ⟨dst, .slice t x lo hi mx, ty, pos, af, g⟩ σ = some (v, σ) :=
  o_silent rfl (by simp only [silentA, hx, hl, hh, hm, h])
theorem o_lookup {t : TypeId} {x i : Operand} {ok : Bool} {vx vi v : Value} (hx : ρ x = vx) (hi : ρ i = vi) (h : lookupA P σ.get t vx vi ok = some v) : opF P K nid ρ ⟨dst, .lookup t x i ok, ty, pos, af, g⟩ σ = some (v, σ) :=
  o_silent rfl (by simp only [silentA, hx, hi, h])
theorem o_convert {s d : TypeId} {x : Operand} {vx v : Value} (hk : okind P ⟨dst, .convert s d x, ty, pos, af, g⟩ = .silent) (hx : ρ x = vx) (h : convA P σ.get s d vx = some v) : opF P K nid ρ ⟨dst, .convert s d x, ty, pos, af, g⟩ σ = some (v, σ) :=
  o_silent hk (by simp only [silentA, hx, h])
theorem o_builtin {b : Builtin} {ats : Array TypeId} {xs : Array Operand} {l : List Value} {v : Value} (hk : okind P ⟨dst, .call ⟨.builtin b, xs, ats⟩, ty, pos, af, g⟩ = .silent) (hl : xs.toList.map ρ = l) (h : builtinA P σ.get b ats l = some v) : opF P K nid ρ ⟨dst, .call ⟨.builtin b, xs, ats⟩, ty, pos, af, g⟩ σ = some (v, σ) :=
  o_silent hk (by simp only [silentA, hl, h])

theorem o_makes {op : Op} {v : Value} {σ' : St} (hk : okind P ⟨dst, op, ty, pos, af, g⟩ = .makes) (h : allocTo P ρ nid ⟨dst, op, ty, pos, af, g⟩ σ = some (v, σ')) : opF P K nid ρ ⟨dst, op, ty, pos, af, g⟩ σ = some (v, σ') := by
  cases op <;> simp only [opF, hk, h] <;> simp [okind] at hk
theorem o_writes {op : Op} {v : Value} {σ' : St} (hk : okind P ⟨dst, op, ty, pos, af, g⟩ = .writes) (h : writesA P K ρ ⟨dst, op, ty, pos, af, g⟩ σ = some (v, σ')) : opF P K nid ρ ⟨dst, op, ty, pos, af, g⟩ σ = some (v, σ') := by
  cases op <;> simp only [opF, hk, h] <;> simp [okind] at hk

theorem o_alloc {t : TypeId} {z : Value} {cs : List Value} (hz : zeroV P t = some z) (hc : z.cells.toList = cs) : opF P K none ρ ⟨dst, .alloc t, ty, pos, af, g⟩ σ = some (.pointer (some ⟨σ.next, 0, none⟩), σ.at σ.next (.cells cs t .ex) (σ.next + 1)) :=
  o_makes rfl (by subst hc; simp only [allocTo, allocA, hz, Option.map_some, place]; rfl)
theorem o_allocD {b : Nat} {t : TypeId} {z : Value} {cs : List Value} (hz : zeroV P t = some z) (hc : z.cells.toList = cs) : opF P K (some b) ρ ⟨dst, .alloc t, ty, pos, af, g⟩ σ = some (.pointer (some ⟨b, 0, none⟩), σ.at b (.cells cs t .ex) σ.next) :=
  o_makes rfl (by subst hc; simp only [allocTo, allocA, hz, Option.map_some, place]; rfl)
theorem o_box {t : TypeId} {x : Operand} {v : Value} {cs : List Value} (hx : ρ x = v) (hc : v.cells.toList = cs) : opF P K none ρ ⟨dst, .box t x, ty, pos, af, g⟩ σ = some (.pointer (some ⟨σ.next, 0, none⟩), σ.at σ.next (.cells cs t .ex) (σ.next + 1)) :=
  o_makes rfl (by subst hc hx; simp only [allocTo, allocA, Option.map_some, place]; rfl)
theorem o_boxD {b : Nat} {t : TypeId} {x : Operand} {v : Value} {cs : List Value} (hx : ρ x = v) (hc : v.cells.toList = cs) : opF P K (some b) ρ ⟨dst, .box t x, ty, pos, af, g⟩ σ = some (.pointer (some ⟨b, 0, none⟩), σ.at b (.cells cs t .ex) σ.next) :=
  o_makes rfl (by subst hc hx; simp only [allocTo, allocA, Option.map_some, place]; rfl)

theorem o_store {t : TypeId} {x y : Operand} {b off n : Nat} {cs cs' vs : List Value} {e : TypeId} {kd : Kd} {v : Value} (hx : ρ x = .pointer (some ⟨b, off, none⟩)) (hy : ρ y = v) (hb : σ.get b = some (.cells cs e kd)) (hk : kd ≠ .ro)
    (hi : (P.info? t).map (·.size) = some n) (hv : v.cells.toList = vs) (hn : vs.length = n) (h1 : vs.all Value.oneCell' = true) (hl : off + n ≤ cs.length) (hc : splice cs off vs = cs') : opF P K nid ρ ⟨dst, .store t x y, ty, pos, af, g⟩ σ = some (undef, σ.put b (.cells cs' e kd)) := by
  subst hc hv hy
  have hs : (ρ y).cells.size = n := by rw [← Array.length_toList]; exact hn
  refine o_writes rfl ?_
  cases hi2 : P.info? t with
  | none => rw [hi2] at hi; cases hi
  | some it =>
    rw [hi2] at hi
    simp only [Option.map_some, Option.some.injEq] at hi
    simp only [writesA, hx, storeA, hb, hi2]
    rw [if_pos ⟨hk, by rw [hs, hi], h1, by rw [hs]; exact hl⟩]
    rfl
theorem o_storeBlob {t : TypeId} {x y : Operand} {b off n m : Nat} {v : Value} (hx : ρ x = .pointer (some ⟨b, off, none⟩)) (hy : ρ y = v) (hb : σ.get b = some (.blob m))
    (hi : (P.info? t).map (·.size) = some n) (hn : v.cells.size = n) (h1 : v.cells.toList.all Value.oneCell' = true) (hl : off + n ≤ m) : opF P K nid ρ ⟨dst, .store t x y, ty, pos, af, g⟩ σ = some (undef, σ.put b (.blob m)) := by
  subst hy
  refine o_writes rfl ?_
  cases hi2 : P.info? t with
  | none => rw [hi2] at hi; cases hi
  | some it =>
    rw [hi2] at hi
    simp only [Option.map_some, Option.some.injEq] at hi
    simp only [writesA, hx, storeA, hb, hi2]
    rw [if_pos ⟨by rw [hn, hi], h1, by rw [hn]; exact hl⟩]
    rfl
theorem o_call {x : Operand} {h : FuncId} {cap : Array Value} {xs : Array Operand} {ats : Array TypeId} {l : List Value} {v : Value} {σ' : St} (hx : ρ x = .func (.func h) #[] cap) (hl : xs.toList.map ρ ++ cap.toList = l) (hk : K h l σ = some (v, σ')) : opF P K nid ρ ⟨dst, .call ⟨.value x, xs, ats⟩, ty, pos, af, g⟩ σ = some (v, σ') :=
  o_writes rfl (by simp only [writesA, hx, hl]; exact hk)
theorem o_call0 {h : FuncId} {xs : Array Operand} {ats : Array TypeId} {l : List Value} {v : Value} {σ' : St} (hf : ρ (.func h) = .func (.func h) #[] #[]) (hl : xs.toList.map ρ = l) (hk : K h l σ = some (v, σ')) : opF P K nid ρ ⟨dst, .call ⟨.value (.func h), xs, ats⟩, ty, pos, af, g⟩ σ = some (v, σ') :=
  o_call hf (by rw [← hl]; exact List.append_nil _) hk
theorem o_mapUpdate {t kt vt : TypeId} {m k v : Operand} {r : Nat} {ik kk : IntKind} {n : Int} {es : List (Int × Value)} {u : Value} (ht : P.underlying t = some (.map kt vt)) (hkt : P.underlying kt = some (.int kk)) (hm : ρ m = .map (some r)) (hk : ρ k = .int ik n) (hv : ρ v = u) (hr : σ.get r = some (.map ik es)) :
    opF P K nid ρ ⟨dst, .mapUpdate t m k v, ty, pos, af, g⟩ σ = some (undef, σ.put r (.map ik (upsert es n u))) :=
  o_writes rfl (by simp only [writesA, mapUpdateA, ht, hm, hk, hv, hkt, hr, if_true]; rfl)
end

section
variable {P : Program} {t : TypeId} {xo yo : Operand}
theorem b_add64 {a b : Int} (h0 : -9223372036854775808 ≤ a + b) (h1 : a + b < 9223372036854775808) : binA P .add t xo yo (.int .i64 a) (.int .i64 b) = some (.int .i64 (a + b)) := by rw [binA_add, wrap64 h0 h1]
theorem b_sub64 {a b : Int} (h0 : -9223372036854775808 ≤ a - b) (h1 : a - b < 9223372036854775808) : binA P .sub t xo yo (.int .i64 a) (.int .i64 b) = some (.int .i64 (a - b)) := by rw [binA_sub, wrap64 h0 h1]
theorem b_mul64 {a b : Int} (h0 : -9223372036854775808 ≤ a * b) (h1 : a * b < 9223372036854775808) : binA P .mul t xo yo (.int .i64 a) (.int .i64 b) = some (.int .i64 (a * b)) := by rw [binA_mul, wrap64 h0 h1]
theorem b_ints {op : BinOp} {k k' : IntKind} {a b : Int} {v : Value} (h : (binOp op t (.int k a) (.int k' b)).run P default = .ok v default) (hv : closedV v = true) : binA P op t xo yo (.int k a) (.int k' b) = some v := by
  have hg : (eqGuard op t xo yo (.int k a) (.int k' b)).run P default = .ok () default := by cases op <;> rfl
  have key : (if discV (.int k a) && discV (.int k' b) then
      match pureRun P (do eqGuard op t xo yo (.int k a) (.int k' b); binOp op t (.int k a) (.int k' b)) with
      | some v => if closedV v then some v else none
      | none => none
    else none) = some v := by
    have e : (discV (.int k a) && discV (.int k' b)) = true := rfl
    rw [if_pos e]
    have : pureRun P (do eqGuard op t xo yo (.int k a) (.int k' b); binOp op t (.int k a) (.int k' b)) = some v := by
      unfold pureRun
      rw [Sem.run_bind, hg, Result.andThen_ok, h]
    rw [this]
    exact if_pos hv
  unfold binA
  split
  · rename_i h1 h2 h3; cases h2
  · rename_i h1 h2 h3; cases h2
  · rename_i h1 h2 h3; cases h2
  · exact key
theorem b_shl {k k' : IntKind} {a b : Int} (hb : 0 ≤ b) : binA P .shl t xo yo (.int k a) (.int k' b) = some (.int k (k.wrap (a * 2 ^ min b.toNat k.bits))) :=
  b_ints (by simp [binOp, Op.shift, Int.not_lt.2 hb]) rfl
theorem b_shr {k k' : IntKind} {a b : Int} (hb : 0 ≤ b) : binA P .shr t xo yo (.int k a) (.int k' b) = some (.int k (a / 2 ^ min b.toNat k.bits)) :=
  b_ints (by simp [binOp, Op.shift, Int.not_lt.2 hb, Int.fdiv_eq_ediv_of_nonneg a (Int.pow_nonneg (by decide : (0 : Int) ≤ 2))]) rfl
theorem b_rem {k : IntKind} {a b : Int} (ha : 0 ≤ a) (hb : 0 < b) : binA P .rem t xo yo (.int k a) (.int k b) = some (.int k (a % b)) := by
  have h0' : ¬ b = 0 := by omega
  exact binA_int (by simp [binOp, Op.intDiv, h0', Int.tmod_eq_emod_of_nonneg ha]) rfl
theorem b_or {k : IntKind} {a b : Int} : binA P .or t xo yo (.int k a) (.int k b) = some (.int k (k.wrap (BitVec.ofInt k.bits a ||| BitVec.ofInt k.bits b).toNat)) :=
  binA_int (by simp [binOp, Op.intBits]) rfl
theorem b_and {k : IntKind} {a b : Int} : binA P .and t xo yo (.int k a) (.int k b) = some (.int k (k.wrap (BitVec.ofInt k.bits a &&& BitVec.ofInt k.bits b).toNat)) :=
  binA_int (by simp [binOp, Op.intBits]) rfl
theorem b_quo64 {a b : Int} (ha : 0 ≤ a) (ha' : a < 9223372036854775808) (hb : 0 < b) : binA P .quo t xo yo (.int .i64 a) (.int .i64 b) = some (.int .i64 (a / b)) := by
  refine binA_int ?_ rfl
  have h2 : a / b ≤ a := Int.ediv_le_self _ ha
  have h3 : 0 ≤ a / b := Int.ediv_nonneg ha (by omega)
  have h1 : IntKind.i64.wrap (a.tdiv b) = a / b := by
    rw [Int.tdiv_eq_ediv_of_nonneg ha]
    exact wrap64 (by omega) (by omega)
  have h0' : ¬ b = 0 := by omega
  simp [binOp, Op.intDiv, h0', h1]
end
end Go.As
