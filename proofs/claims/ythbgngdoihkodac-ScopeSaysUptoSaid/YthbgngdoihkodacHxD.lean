/- roadstead: ScopeSays. This text: HxD. Conditions: none beyond those that the statement itself names. -/
import Derived.Test.YthbgngdoihkodacHxC
namespace Go.Proofs.Ythbgngdoihkodac.Hx
open Go.RowKit
/-! ### pure words -/
/-- an element, as Go indexes -/
def nth {β : Type} (xs : List β) (i : Int) : Option β := if 0 ≤ i then xs[i.toNat]? else none
theorem nth_lt {β : Type} {xs : List β} {i : Int} {y : β} (h : nth xs i = some y) : 0 ≤ i ∧ i < xs.length ∧ xs[i.toNat]? = some y := by
  unfold nth at h
  split at h
  · have := (List.getElem?_eq_some_iff.1 h).1; exact ⟨‹_›, by omega, h⟩
  · cases h
/-- a part, as Go slices: within the length -/
def sub {β : Type} (xs : List β) (lo hi : Int) : Option (List β) := if 0 ≤ lo ∧ lo ≤ hi ∧ hi ≤ xs.length then some ((xs.take hi.toNat).drop lo.toNat) else none
theorem sub_some {β : Type} {xs ys : List β} {lo hi : Int} (h : sub xs lo hi = some ys) : 0 ≤ lo ∧ lo ≤ hi ∧ hi ≤ xs.length ∧ ys = (xs.take hi.toNat).drop lo.toNat := by
  unfold sub at h
  split at h
  · simp only [Option.some.injEq] at h; exact ⟨by omega, by omega, by omega, h.symm⟩
  · cases h
/-- appended, while the model bears it -/
def app {β : Type} (lim : Nat) (xs ys : List β) : Option (List β) := if xs.length + ys.length ≤ lim then some (xs ++ ys) else none
theorem app_some {β : Type} {lim : Nat} {xs ys zs : List β} (h : app lim xs ys = some zs) : xs.length + ys.length ≤ lim ∧ zs = xs ++ ys := by
  unfold app at h
  split at h
  · simp only [Option.some.injEq] at h; exact ⟨‹_›, h.symm⟩
  · cases h
def catl (a b : List UInt8) : Option (List UInt8) := if a.length + b.length ≤ 9223372036854775807 then some (a ++ b) else none
theorem catl_some {a b c : List UInt8} (h : catl a b = some c) : a.length + b.length ≤ 9223372036854775807 ∧ c = a ++ b := by
  unfold catl at h
  split at h
  · simp only [Option.some.injEq] at h; exact ⟨‹_›, h.symm⟩
  · cases h

def addI (a b : Int) : Int := IntKind.i64.wrap (a + b)
def subI (a b : Int) : Int := IntKind.i64.wrap (a - b)
def mulI (a b : Int) : Int := IntKind.i64.wrap (a * b)
theorem wrap_id {x : Int} (h0 : -9223372036854775808 ≤ x) (h1 : x ≤ 9223372036854775807) : IntKind.i64.wrap x = x := by rw [IntKind.wrap_i64]; omega
theorem addI_eq {a b : Int} (h0 : -9223372036854775808 ≤ a + b) (h1 : a + b ≤ 9223372036854775807) : addI a b = a + b := wrap_id h0 h1
theorem subI_eq {a b : Int} (h0 : -9223372036854775808 ≤ a - b) (h1 : a - b ≤ 9223372036854775807) : subI a b = a - b := wrap_id h0 h1
theorem mulI_eq {a b : Int} (h0 : -9223372036854775808 ≤ a * b) (h1 : a * b ≤ 9223372036854775807) : mulI a b = a * b := wrap_id h0 h1

/-- behind a part that may have returned -/
def retOr {R β : Type} (f : β → Option R) : R ⊕ β → Option R
  | .inl r => some r
  | .inr s => f s
def retOr2 {R β γ : Type} (f : β → Option (R ⊕ γ)) : R ⊕ β → Option (R ⊕ γ)
  | .inl r => some (.inl r)
  | .inr s => f s

theorem and_yes {c x : Bool} (h : c = true) : Value.bool x = Value.bool (c && x) := by subst h; rfl
theorem and_no {c x : Bool} (h : c = false) : Value.bool false = Value.bool (c && x) := by subst h; rfl
theorem or_yes {c x : Bool} (h : c = true) : Value.bool true = Value.bool (c || x) := by subst h; rfl
theorem or_no {c x : Bool} (h : c = false) : Value.bool x = Value.bool (c || x) := by subst h; rfl
theorem rng_end {β : Type} {xs : List β} {i : Nat} (h : xs.drop i = []) : decide ((i : Int) < (xs.length : Int)) = false := by
  have : xs.length ≤ i := by simpa using h
  exact decide_eq_false (by omega)
theorem rng_len {β : Type} {xs r : List β} {i : Nat} {y : β} (h : xs.drop i = y :: r) : i < xs.length := by
  by_cases hl : i < xs.length
  · exact hl
  · rw [List.drop_eq_nil_of_le (by omega)] at h; cases h
theorem rng_lt {β : Type} {xs r : List β} {i : Nat} {y : β} (h : xs.drop i = y :: r) : i < xs.length := rng_len h
theorem rng_more {β : Type} {xs r : List β} {i : Nat} {y : β} (h : xs.drop i = y :: r) : decide ((i : Int) < (xs.length : Int)) = true := by
  have := rng_len h
  exact decide_eq_true (by omega)
theorem rng_at {β : Type} {xs r : List β} {i : Nat} {y : β} (h : xs.drop i = y :: r) : xs[i]? = some y := by
  have : (xs.drop i)[0]? = some y := by rw [h]; rfl
  simpa using this
theorem rng_next {β : Type} {xs r : List β} {i : Nat} {y : β} (h : xs.drop i = y :: r) : xs.drop (i + 1) = r := by
  rw [← List.drop_drop, h]; rfl
theorem ifp {α : Type} {c : Bool} {a b x : α} (h : (if c = true then a else b) = x) (hc : c = true) : a = x := by subst hc; simpa using h
theorem ifn {α : Type} {c : Bool} {a b x : α} (h : (if c = true then a else b) = x) (hc : c = false) : b = x := by subst hc; simpa using h
theorem bnd {α β : Type} {x : Option α} {f : α → Option β} {y : β} (h : x.bind f = some y) : ∃ a, x = some a ∧ f a = some y := Option.bind_eq_some_iff.1 h

/-! ### tests, sums -/
def Ag (P : Program) (t : TypeId) (b : Bool) : Prop := ∀ w, (isAgg t).run P w = .ok b w
def Sz (P : Program) (t : TypeId) (k : Nat) : Prop := ∀ w, (sizeOf t).run P w = .ok k w
section
variable {P : Program}
theorem b_add {t : TypeId} {x y : Operand} {k : IntKind} {a b : Int} : ∀ w, (do eqGuard .add t x y (.int k a) (.int k b); binOp .add t (.int k a) (.int k b) : Sem Value).run P w = .ok (.int k (k.wrap (a + b))) w := fun w => by simp [eqGuard, binOp, Op.intArith]
theorem b_sub {t : TypeId} {x y : Operand} {k : IntKind} {a b : Int} : ∀ w, (do eqGuard .sub t x y (.int k a) (.int k b); binOp .sub t (.int k a) (.int k b) : Sem Value).run P w = .ok (.int k (k.wrap (a - b))) w := fun w => by simp [eqGuard, binOp, Op.intArith]
theorem b_mul {t : TypeId} {x y : Operand} {k : IntKind} {a b : Int} : ∀ w, (do eqGuard .mul t x y (.int k a) (.int k b); binOp .mul t (.int k a) (.int k b) : Sem Value).run P w = .ok (.int k (k.wrap (a * b))) w := fun w => by simp [eqGuard, binOp, Op.intArith]
theorem b_lss {t : TypeId} {x y : Operand} {k : IntKind} {a b : Int} : ∀ w, (do eqGuard .lss t x y (.int k a) (.int k b); binOp .lss t (.int k a) (.int k b) : Sem Value).run P w = .ok (.bool (decide (a < b))) w := fun w => by simp [eqGuard, binOp, Op.intCmp]
theorem b_leq {t : TypeId} {x y : Operand} {k : IntKind} {a b : Int} : ∀ w, (do eqGuard .leq t x y (.int k a) (.int k b); binOp .leq t (.int k a) (.int k b) : Sem Value).run P w = .ok (.bool (decide (a ≤ b))) w := fun w => by simp [eqGuard, binOp, Op.intCmp]
theorem b_gtr {t : TypeId} {x y : Operand} {k : IntKind} {a b : Int} : ∀ w, (do eqGuard .gtr t x y (.int k a) (.int k b); binOp .gtr t (.int k a) (.int k b) : Sem Value).run P w = .ok (.bool (decide (a > b))) w := fun w => by simp [eqGuard, binOp, Op.intCmp]
theorem b_geq {t : TypeId} {x y : Operand} {k : IntKind} {a b : Int} : ∀ w, (do eqGuard .geq t x y (.int k a) (.int k b); binOp .geq t (.int k a) (.int k b) : Sem Value).run P w = .ok (.bool (decide (a ≥ b))) w := fun w => by simp [eqGuard, binOp, Op.intCmp]
theorem b_eql {t : TypeId} {x y : Operand} {k : IntKind} {a b : Int} : ∀ w, (do eqGuard .eql t x y (.int k a) (.int k b); binOp .eql t (.int k a) (.int k b) : Sem Value).run P w = .ok (.bool (a == b)) w := fun w => by simp [eqGuard, binOp, Op.intCmp]
theorem b_neq {t : TypeId} {x y : Operand} {k : IntKind} {a b : Int} : ∀ w, (do eqGuard .neq t x y (.int k a) (.int k b); binOp .neq t (.int k a) (.int k b) : Sem Value).run P w = .ok (.bool (a != b)) w := fun w => by simp [eqGuard, binOp, Op.intCmp]
/-- a string's value -/
def bs (l : List UInt8) : Value := .string ⟨l.toArray⟩
theorem b_seql {t : TypeId} {x y : Operand} {a b : List UInt8} : ∀ w, (do eqGuard .eql t x y (bs a) (bs b); binOp .eql t (bs a) (bs b) : Sem Value).run P w = .ok (.bool (a == b)) w := fun w => by
  simp [eqGuard, bs, binOp_string_eql]
theorem b_sneq {t : TypeId} {x y : Operand} {a b : List UInt8} : ∀ w, (do eqGuard .neq t x y (bs a) (bs b); binOp .neq t (bs a) (bs b) : Sem Value).run P w = .ok (.bool (a != b)) w := fun w => by
  simp only [eqGuard, bs, binOp_string_neq, ByteArray.toList_mk]; simp [bne]
theorem b_slss {t : TypeId} {x y : Operand} {a b : List UInt8} : ∀ w, (do eqGuard .lss t x y (bs a) (bs b); binOp .lss t (bs a) (bs b) : Sem Value).run P w = .ok (.bool (Op.bytesLess a b)) w := fun w => by
  simp [eqGuard, bs, binOp_string_lss]
theorem b_sleq {t : TypeId} {x y : Operand} {a b : List UInt8} : ∀ w, (do eqGuard .leq t x y (bs a) (bs b); binOp .leq t (bs a) (bs b) : Sem Value).run P w = .ok (.bool (Op.bytesLess a b || a == b)) w := fun w => by
  simp [eqGuard, bs, binOp, Op.stringOp]
theorem b_sgtr {t : TypeId} {x y : Operand} {a b : List UInt8} : ∀ w, (do eqGuard .gtr t x y (bs a) (bs b); binOp .gtr t (bs a) (bs b) : Sem Value).run P w = .ok (.bool !(Op.bytesLess a b || a == b)) w := fun w => by
  simp [eqGuard, bs, binOp, Op.stringOp]
theorem b_sgeq {t : TypeId} {x y : Operand} {a b : List UInt8} : ∀ w, (do eqGuard .geq t x y (bs a) (bs b); binOp .geq t (bs a) (bs b) : Sem Value).run P w = .ok (.bool !(Op.bytesLess a b)) w := fun w => by
  simp [eqGuard, bs, binOp, Op.stringOp]
theorem b_cat {t : TypeId} {x y : Operand} {a b : List UInt8} (h : a.length + b.length ≤ 9223372036854775807) : ∀ w, (do eqGuard .add t x y (bs a) (bs b); binOp .add t (bs a) (bs b) : Sem Value).run P w = .ok (bs (a ++ b)) w := fun w => by
  have h1 : ¬ ((((⟨a.toArray⟩ : ByteArray).size + (⟨b.toArray⟩ : ByteArray).size : Nat) : Int) > IntKind.i64.max) := by
    have : (IntKind.i64.max : Int) = 9223372036854775807 := by decide
    rw [this]
    simp only [ByteArray.size, List.size_toArray]; omega
  have h2 : (⟨a.toArray⟩ : ByteArray) ++ ⟨b.toArray⟩ = ⟨(a ++ b).toArray⟩ := by
    apply ByteArray.ext; simp [ByteArray.data_append]
  simp only [eqGuard, bs, binOp, Op.stringOp, h2]
  rw [if_neg h1]; simp
theorem run_equalIn_bool (d : Nat) (t : TypeId) (a b : Bool) (ht : P.underlying t = some .bool) (w : World) : (Op.equalIn (d + 1) t (.bool a) (.bool b)).run P w = .ok (a == b) w := by
  unfold Op.equalIn; simp [run_underlying ht]
theorem b_beql {t : TypeId} {x y : Operand} {a b : Bool} (ht : P.underlying t = some .bool) : ∀ w, (do eqGuard .eql t x y (.bool a) (.bool b); binOp .eql t (.bool a) (.bool b) : Sem Value).run P w = .ok (.bool (a == b)) w := fun w => by
  have : (Op.equal t (.bool a) (.bool b)).run P w = .ok (a == b) w := run_equalIn_bool 9999 t a b ht w
  unfold binOp; simp only [eqGuard]; simp [this]
theorem b_bneq {t : TypeId} {x y : Operand} {a b : Bool} (ht : P.underlying t = some .bool) : ∀ w, (do eqGuard .neq t x y (.bool a) (.bool b); binOp .neq t (.bool a) (.bool b) : Sem Value).run P w = .ok (.bool (a != b)) w := fun w => by
  have : (Op.equal t (.bool a) (.bool b)).run P w = .ok (a == b) w := run_equalIn_bool 9999 t a b ht w
  unfold binOp; simp only [eqGuard]; simp [this, bne]

theorem eqE1 {t : TypeId} {ms : Array (String × TypeId)} (hU : P.underlying t = some (.interface ms)) (d : Nat) (w : World) : (Op.equalIn (d + 1) t .nilIface .nilIface).run P w = .ok true w := by simp [Op.equalIn, run_underlying hU]
theorem eqE2 {t t' : TypeId} {p : Value} {ms : Array (String × TypeId)} (hU : P.underlying t = some (.interface ms)) (d : Nat) (w : World) : (Op.equalIn (d + 1) t (.iface t' p) .nilIface).run P w = .ok false w := by simp [Op.equalIn, run_underlying hU]
theorem b_eneq {t : TypeId} {x : Operand} {c v : Value} {b : Bool} {ms : Array (String × TypeId)} (hU : P.underlying t = some (.interface ms)) (h : IsErr v b) : ∀ w, (do eqGuard .neq t x (.const c) v .nilIface; binOp .neq t v .nilIface : Sem Value).run P w = .ok (.bool b) w := fun w => by
  rcases h with ⟨rfl, rfl⟩ | ⟨rfl, t', p, rfl⟩
  · have : (Op.equal t .nilIface .nilIface).run P w = .ok true w := eqE1 hU 9999 w
    unfold binOp; simp [eqGuard, this]
  · have : (Op.equal t (.iface t' p) .nilIface).run P w = .ok false w := eqE2 hU 9999 w
    unfold binOp; simp [eqGuard, this]
theorem b_eeql {t : TypeId} {x : Operand} {c v : Value} {b : Bool} {ms : Array (String × TypeId)} (hU : P.underlying t = some (.interface ms)) (h : IsErr v b) : ∀ w, (do eqGuard .eql t x (.const c) v .nilIface; binOp .eql t v .nilIface : Sem Value).run P w = .ok (.bool (!b)) w := fun w => by
  rcases h with ⟨rfl, rfl⟩ | ⟨rfl, t', p, rfl⟩
  · have : (Op.equal t .nilIface .nilIface).run P w = .ok true w := eqE1 hU 9999 w
    unfold binOp; simp [eqGuard, this]
  · have : (Op.equal t (.iface t' p) .nilIface).run P w = .ok false w := eqE2 hU 9999 w
    unfold binOp; simp [eqGuard, this]

/-! ### two numbers as an array -/
theorem eq2 {t e : TypeId} {k : IntKind} {a b c d : Int} (hU : P.underlying t = some (.array 2 e)) (hE : P.underlying e = some (.int k)) (hA : ∀ w, (isAgg e).run P w = .ok false w) (hS : Sz P e 1) (m : Nat) (w : World) :
    (Op.equalIn (m + 2) t (.agg [.int k a, .int k b].toArray) (.agg [.int k c, .int k d].toArray)).run P w = .ok (a == c && b == d) w := by
  have e1 : ∀ (x y : Int), (Op.equalIn (m + 1) e (.int k x) (.int k y)).run P w = .ok (x == y) w := fun x y => run_equalIn_int w m e k k x y hE
  rw [Op.equalIn]
  simp only [Sem.run_bind, run_underlying hU, Result.andThen_ok, hS w]
  cases h1 : a == c <;> cases h2 : b == d <;> simp [part, hA w, e1, h1, h2, show List.range' 0 2 = [0, 1] from rfl, go_sem]
theorem b_aneq2 {t e : TypeId} {x y : Operand} {k : IntKind} {a b c d : Int} (hU : P.underlying t = some (.array 2 e)) (hE : P.underlying e = some (.int k)) (hA : ∀ w, (isAgg e).run P w = .ok false w) (hS : Sz P e 1) (hg : P.eqGuardType P.depth t = false) :
    ∀ w, (do eqGuard .neq t x y (.agg [.int k a, .int k b].toArray) (.agg [.int k c, .int k d].toArray); binOp .neq t (.agg [.int k a, .int k b].toArray) (.agg [.int k c, .int k d].toArray) : Sem Value).run P w = .ok (.bool (!(a == c && b == d))) w := fun w => by
  have h1 := (show (Op.equal t (.agg [.int k a, .int k b].toArray) (.agg [.int k c, .int k d].toArray)).run P w = .ok (a == c && b == d) w from eq2 hU hE hA hS 9998 w)
  unfold binOp; simp [eqGuard, hg, h1]

variable {w : World}
/-- cells that lie one behind the other -/
def Cs (w : World) (b o : Nat) (cs : List Value) : Prop := ∃ cells T fr rest, w.heap[b]? = some (.cells cells T fr) ∧ cells.toList.drop o = cs ++ rest
theorem Cs.of_block {w : World} {g : Nat} {cs : List Value} {T : TypeId} {fr : Nat × Nat} (h : w.heap[g]? = some (.cells cs.toArray T fr)) : Cs w g 0 cs := ⟨_, T, fr, [], h, by simp⟩
theorem Cs.cell {w : World} {b o : Nat} {cs : List Value} (h : Cs w b o cs) {j : Nat} {v : Value} (hj : cs[j]? = some v) : w.cell? ⟨b, o + j, none⟩ = some v := by
  obtain ⟨cells, T, fr, rest, hb, hd⟩ := h
  have : cells.toList[o + j]? = some v := by
    rw [← List.getElem?_drop, hd]
    rw [List.getElem?_append_left (List.getElem?_eq_some_iff.1 hj).1]; exact hj
  simp only [World.cell?, hb]
  simpa using this
theorem Cs.sub {w : World} {b o : Nat} {cs : List Value} (h : Cs w b o cs) {j sz : Nat} {c1 : List Value} (hc : (cs.drop j).take sz = c1) (hj : j ≤ cs.length) : Cs w b (o + j) c1 := by
  obtain ⟨cells, T, fr, rest, hb, hd⟩ := h
  refine ⟨cells, T, fr, (cs.drop j).drop sz ++ rest, hb, ?_⟩
  rw [← hc, ← List.append_assoc, List.take_append_drop, ← List.drop_drop, hd]
  rw [List.drop_append_of_le_length hj]

theorem run_load_cell {b o : Nat} {v : Value} (h : w.cell? ⟨b, o, none⟩ = some v) : (load ⟨b, o, none⟩).run P w = .ok v w := by rw [run_load, h]
theorem run_loadVar_one {t : TypeId} (hA : Ag P t false) {b o : Nat} {v : Value} (h : w.cell? ⟨b, o, none⟩ = some v) : (loadVar t ⟨b, o, none⟩).run P w = .ok v w := by
  simp only [loadVar, hA w, Sem.run_bind, Result.andThen, Bool.false_eq_true, if_false, run_load_cell h]
theorem run_loadVar_agg {t : TypeId} {cs : List Value} (hA : Ag P t true) (hS : Sz P t cs.length) {b o : Nat} (h : Cs w b o cs) : (loadVar t ⟨b, o, none⟩).run P w = .ok (.agg cs.toArray) w := by
  have := run_loadCells_list (P := P) (w := w) ⟨b, o, none⟩ cs (fun j v hj => by
    have := h.cell hj
    unfold Addr.add; split
    · rename_i e; subst e; simpa using this
    · exact this)
  simp [loadVar, hA w, hS w, this]

/-- a new variable: its block is known whole -/
theorem run_newVar {t : TypeId} {v : Value} : (newVar t v).run P w = .ok ⟨w.heap.size, 0, none⟩ (w.alloc (.cells v.cells t)) := by
  simp only [newVar, newRow, newObj, Sem.run_bind, Sem.run_pure, Sem.run, Result.andThen, World.alloc_eq]
theorem run_indexAt {t e : TypeId} {p : Addr} {len c sz : Nat} {i : Int} (hU : ∀ w, (underlying t).run P w = .ok (.slice e) w) (hS : Sz P e sz) (h0 : 0 ≤ i) (h1 : i < len) :
    (Instr.indexAt t (.slice (some p) len c) (.int .i64 i)).run P w = .ok (.pointer (some (p.add (i.toNat * sz)))) w := by
  simp [Instr.indexAt, asIntOf, hU w, hS w, h0, h1]
theorem add_plain (b o k : Nat) : (⟨b, o, none⟩ : Addr).add k = ⟨b, o + k, none⟩ := by unfold Addr.add; split <;> simp_all

theorem run_arrIdx {t e : TypeId} {b o k m i : Nat} (hU : ∀ w, (underlying t).run P w = .ok (.array m e) w) (hS : Sz P e k) (hi : i < m) (w : World) :
    (Instr.indexAt t (.pointer (some ⟨b, o, none⟩)) (.int .i64 (i : Int))).run P w = .ok (.pointer (some ⟨b, o + i * k, none⟩)) w := by
  simp only [Instr.indexAt, Sem.run_bind, hU w, asIntOf]
  simp [Instr.sureAddr, hU w, hS w, hi, add_plain]
end
/-- what appending needs to know of the element type -/
structure Elt (P : Program) (t e : TypeId) (size bytes : Nat) (z : List Value) : Prop where
  sl : P.underlying t = some (.slice e)
  info : ∃ i zv, P.info? e = some i ∧ i.zero = some zv ∧ i.size = size ∧ i.bytes = bytes ∧ zv.cells = z.toArray
  pos : 0 < size
  len : z.length = size

theorem Elt.of {P : Program} {t e size bytes : Nat} {z : List Value} {zv : Value} (sl : P.underlying t = some (.slice e)) (h : (P.info? e).map (fun i => (i.zero, i.size, i.bytes)) = some (some zv, size, bytes)) (hz : zv.cells = z.toArray) (hp : 0 < size) (hl : z.length = size) : Elt P t e size bytes z := by
  cases hi : P.info? e with
  | none => rw [hi] at h; cases h
  | some i =>
    rw [hi] at h
    simp only [Option.map_some, Option.some.injEq, Prod.mk.injEq] at h
    exact ⟨sl, ⟨i, zv, hi, h.1, h.2.1, h.2.2, hz⟩, hp, hl⟩
theorem set_fold : ∀ (c done tl zs : List Value), c.length = tl.length → ∀ off, off = done.length →
    (c.zipIdx 0).foldl (fun cs (x : Value × Nat) => cs.setIfInBounds (off + x.2) x.1) (done ++ tl ++ zs).toArray = (done ++ c ++ zs).toArray := by
  have key : ∀ (c tl done zs : List Value) (j off : Nat), c.length = tl.length → off + j = done.length →
      (c.zipIdx j).foldl (fun cs (x : Value × Nat) => cs.setIfInBounds (off + x.2) x.1) (done ++ tl ++ zs).toArray = (done ++ c ++ zs).toArray := by
    intro c
    induction c with
    | nil => intro tl done zs j off hl _; have : tl = [] := List.eq_nil_of_length_eq_zero (by simpa using hl.symm); subst this; simp
    | cons x c ih =>
      intro tl done zs j off hl hj
      cases tl with
      | nil => simp at hl
      | cons t tl =>
        simp only [List.zipIdx_cons, List.foldl_cons]
        have : (done ++ t :: tl ++ zs).toArray.setIfInBounds (off + j) x = ((done ++ [x]) ++ tl ++ zs).toArray := by
          rw [hj]; simp
        rw [this, ih tl (done ++ [x]) zs (j + 1) off (by simpa using hl) (by simp; omega)]
        simp
  intro c done tl zs hl off ho
  exact key c tl done zs 0 off hl (by omega)

def enum {β : Type} : Nat → List β → List (Nat × β)
  | _, [] => []
  | k, x :: xs => (k, x) :: enum (k + 1) xs
theorem enum_map {β γ : Type} (f : β → γ) : ∀ (k : Nat) (xs : List β), (enum k xs).map (fun p => (p.1, f p.2)) = enum k (xs.map f)
  | _, [] => rfl
  | k, x :: xs => by simp [enum, enum_map f (k + 1) xs]
theorem fill_all (size : Nat) : ∀ (vs : List Value) (k : Nat) (done zs : List Value), done.length = k * size → zs.length = vs.length * size → (∀ v ∈ vs, v.cells.size = size) →
    Instr.fill (fun i => some (i * size, size)) (done ++ zs).toArray (enum k vs) = some (done ++ vs.flatMap (fun v => v.cells.toList)).toArray
  | [], k, done, zs, _, hz, _ => by
    have : zs = [] := List.eq_nil_of_length_eq_zero (by simpa using hz)
    subst this; simp [Instr.fill, enum]
  | v :: vs, k, done, zs, hd, hz, hv => by
    have h1 := hv v (by simp)
    have hlen : size ≤ zs.length := by rw [hz]; simp [Nat.add_mul]
    have hz2 : zs = zs.take size ++ zs.drop size := (List.take_append_drop _ _).symm
    simp only [enum, Instr.fill]
    rw [if_neg (by simp [h1, hd]; omega)]
    have hf := set_fold v.cells.toList done (zs.take size) (zs.drop size) (by simp [h1]; omega) (k * size) hd.symm
    have hz3 : (v.cells.zipIdx).foldl (fun cs (x : Value × Nat) => cs.setIfInBounds (k * size + x.2) x.1) (done ++ zs).toArray = (done ++ v.cells.toList ++ zs.drop size).toArray := by
      rw [← hf]
      conv => lhs; rw [hz2]
      rw [← Array.foldl_toList]; simp
    have hz4 := fill_all size vs (k + 1) (done ++ v.cells.toList) (zs.drop size) (by simp [h1, hd, Nat.add_mul]) (by simp [hz, Nat.add_mul]) (fun u hu => hv u (by simp [hu]))
    rw [← hz3] at hz4
    simpa using hz4

theorem run_buildSlice {P : Program} {w : World} {t e size bytes m : Nat} {z : List Value} (E : Elt P t e size bytes z) {vs : List Value} (hm : vs.length = m) (hsz : m * size ≤ 16777216) (hv : ∀ v ∈ vs, v.cells.size = size) :
    (Instr.buildSlice t m (enum 0 vs).toArray).run P w = .ok (.slice (some ⟨w.heap.size, 0, none⟩) m m) (w.alloc (.cells (vs.flatMap (fun v => v.cells.toList)).toArray e)) := by
  obtain ⟨i, zv, hi, hz, hs, hb, hzc⟩ := E.info
  have hf : ∀ zs : List Value, zs.length = m * size → Instr.fill (fun i => some (i * size, size)) zs.toArray (enum 0 vs) = some (vs.flatMap (fun v => v.cells.toList)).toArray := fun zs hl => by
    have := fill_all size vs 0 [] zs (by simp) (by rw [hl, hm]) hv
    simpa using this
  have hf2 : ∀ a : Array Value, a.size = m * size → Instr.fill (fun i => some (i * size, size)) a (enum 0 vs) = some (vs.flatMap (fun v => v.cells.toList)).toArray := fun a ha => by
    have := hf a.toList (by simpa using ha)
    simpa using this
  have n1 : ¬ (m * size > 2 ^ 24) := by omega
  have hso : (sizeOf e).run P w = .ok size w := by simp [sizeOf, typeInfo, hi, hs]
  unfold Instr.buildSlice
  simp only [Sem.run_bind, run_underlying E.sl, Result.andThen_ok, hso, if_neg n1]
  by_cases h0 : m * size = 0
  · simp only [h0, if_true, Sem.run_bind, Sem.run_pure, Result.andThen_ok]
    rw [hf2 _ (by simp [h0])]
    simp [newRow, run_newObj_alloc]
  · have hzz : (zeroValue e).run P w = .ok zv w := by simp [zeroValue, typeInfo, hi, hz]
    simp only [h0, if_false, Sem.run_bind, Sem.run_pure, Result.andThen_ok, hzz]
    rw [hf2 _ (by simp)]
    simp [newRow, run_newObj_alloc]


section
variable {P : Program} {w : World}
theorem zeros_size {z : List Value} {k size : Nat} (hz : z.length = size) : (Builtin.zeroCells z.toArray k).size = k * size := by simp [Builtin.zeroCells, hz]
/-- appending to a row of the call's own -/
theorem run_append {t ty e size bytes : Nat} {z : List Value} (E : Elt P t e size bytes z) {v : Value} {n : Nat} {xs : List Value} (hown : Row w e size v n xs)
    {a : Addr} {m c : Nat} {news : List Value} (hl : news.length = m * size) (hnews : ∀ j u, news[j]? = some u → w.cell? (a.add j) = some u) (h1 : ∀ u ∈ news, u.oneCell' = true)
    (hbytes : (n + m) * bytes ≤ 140737488355328) (hmax : n + m ≤ maxLen) :
    ∃ v' w', (Builtin.append_ #[t, t] ty #[v, .slice (some a) m c]).run P w = .ok v' w' ∧ Row w' e size v' (n + m) (xs ++ news) ∧ Le (ob v) w w' ∧ (∀ b ∈ ob v', b ∈ ob v ∨ w.heap.size ≤ b) := by
  obtain ⟨i, zv, hi, hz, hs, hb, hzc⟩ := E.info
  have hzs : zv.cells.size = size := by rw [hzc]; simp [E.len]
  subst hs
  have hsmall : n + m ≤ 9223372036854775807 := by simp only [maxLen] at hmax; omega
  obtain ⟨hx, p, cap, rfl, hnc, hcm, hrow⟩ := hown
  have hlen : (xs ++ news).length = (n + m) * i.size := by rw [List.length_append, hx, hl, Nat.add_mul]
  by_cases hroom : n + m ≤ cap
  · by_cases hm : news = []
    · subst hm
      have hm0 : m = 0 := by
        have h0 := E.pos
        have : m * i.size = 0 := by simpa using hl.symm
        rcases Nat.mul_eq_zero.1 this with h | h
        · exact h
        · omega
      subst hm0
      refine ⟨_, w, ?_, ⟨by simpa using hlen, p, cap, rfl, by omega, hcm, by simpa using hrow⟩, Le.refl _ _, fun b hb => .inl (by simpa [ob] using hb)⟩
      have hf := run_firstCells_some (P := P) w i.size 0 a 0 c [] (by simp) (by simp)
      cases p <;> simp [Builtin.append_, run_underlying E.sl, sizeOf, typeInfo, hi, Builtin.lenOf, hnc, Builtin.firstCells, loadCells, loadCellsFrom, storeCells]
    · have hmp : 0 < m := by
        rcases Nat.eq_zero_or_pos m with h | h
        · subst h; exact absurd (List.eq_nil_of_length_eq_zero (by simpa using hl)) hm
        · exact h
      rcases hrow with h | ⟨g, o, cur, rfl, hc0, hg, hcs, htake⟩
      · omega
      · have hfit : o + n * i.size + news.length ≤ cur.size := by
          rw [hl, Nat.add_assoc, ← Nat.add_mul]
          exact Nat.le_trans (Nat.add_le_add_left (Nat.mul_le_mul_right _ hroom) _) hcs
        have hst := run_storeCells_at P g (o + n * i.size) e news 0 cur w hg (by simpa using hfit) h1
        have hfc := run_firstCells_some (P := P) w i.size m a m c news hl hnews
        simp only [Nat.add_zero] at hst
        refine ⟨.slice (some ⟨g, o, none⟩) (n + m) cap, w.setRow g (cur.toList.take (o + n * i.size) ++ news ++ cur.toList.drop (o + n * i.size + news.length)).toArray, ?_, ⟨hlen, _, cap, rfl, hroom, hcm, .inr ⟨g, o, (cur.toList.take (o + n * i.size) ++ news ++ cur.toList.drop (o + n * i.size + news.length)).toArray, rfl, hc0, ?_, ?_, ?_⟩⟩, ?_, ?_⟩
        · simp [Builtin.append_, run_underlying E.sl, sizeOf, typeInfo, hi, Builtin.lenOf, hroom, hfc, Addr.add_lit, hst]
        · simp only [World.setRow]
          rw [Array.getElem?_modify, if_pos rfl, hg]; rfl
        · simp only [List.size_toArray, List.length_append, List.length_take, List.length_drop, Array.length_toList]; omega
        · have h3 : (cur.toList.take (o + n * i.size)).drop o = xs := by
            rw [← htake, List.drop_take]; congr 1; omega
          have h4 : o ≤ (cur.toList.take (o + n * i.size)).length := by simp; omega
          show (((cur.toList.take (o + n * i.size) ++ news ++ cur.toList.drop (o + n * i.size + news.length)).toArray).toList.drop o).take ((n + m) * i.size) = xs ++ news
          rw [List.toList_toArray, List.append_assoc, List.drop_append_of_le_length h4, h3, ← List.append_assoc, ← hlen, List.take_left']
          rfl
        · rw [ob_some hc0]; exact Le.setRow _ _ _
        · intro b hb; rw [ob_some hc0] at hb ⊢; exact .inl hb
  · -- a new block
    have grown : Row (w.drew.alloc (.cells (xs.toArray ++ news.toArray ++ Builtin.zeroCells zv.cells (grownCap w (n + m) cap e - (n + m))) e)) e i.size (.slice (some ⟨w.heap.size, 0, none⟩) (n + m) (grownCap w (n + m) cap e)) (n + m) (xs ++ news) := by
      have hge := grownCap_ge w (n + m) cap e
      have hcm2 : grownCap w (n + m) cap e ≤ maxLen := grownCap_le_maxLen w (n + m) cap e hmax
      refine ⟨hlen, _, _, rfl, hge, hcm2, .inr ⟨w.heap.size, 0, _, rfl, by omega, heap_alloc_new w.drew _, ?_, ?_⟩⟩
      · simp only [Array.size_append, List.size_toArray, size_zeroCells, hzs, hx, hl, ← Nat.add_mul]
        have : n + m + (grownCap w (n + m) cap e - (n + m)) = grownCap w (n + m) cap e := by omega
        rw [this]; omega
      · simp only [List.drop_zero, Array.toList_append, List.append_assoc]
        rw [← List.append_assoc, ← hlen]
        exact List.take_left
    have hle : Le (ob (.slice p n cap)) w (w.drew.alloc (.cells (xs.toArray ++ news.toArray ++ Builtin.zeroCells zv.cells (grownCap w (n + m) cap e - (n + m))) e)) :=
      ⟨rfl, rfl, rfl, by simp, fun k hk _ => heap_alloc_old w.drew _ hk⟩
    have hge := grownCap_ge w (n + m) cap e
    refine ⟨.slice (some ⟨w.heap.size, 0, none⟩) (n + m) (grownCap w (n + m) cap e), _, ?_, grown, hle, ?_⟩
    · have hfit : Builtin.nextslicecap (n + m) cap * i.bytes ≤ 281474976710656 := growslice_fits (by omega) (by rw [hb]; exact hbytes)
      cases p with
      | none =>
        have hc0 : cap = 0 := by
          rcases hrow with h | ⟨g, o, cur, h, _⟩
          · exact h
          · cases h
        subst hc0
        have hn0 : n = 0 := by omega
        subst hn0
        have hxn : xs = [] := List.eq_nil_of_length_eq_zero (by simpa using hx)
        subst hxn
        have := run_append_nil (P := P) w t ty e i zv E.sl hi hz a m c news hl hnews (by omega) (by omega) (by simp only [Nat.zero_add] at hbytes; rw [hb]; omega)
        simpa using this
      | some b =>
        have holds : ∀ j u, xs[j]? = some u → w.cell? (b.add j) = some u := by
          rcases hrow with h | ⟨g, o, cur, h, hc0, hg, hcs, htake⟩
          · have hxn : xs = [] := List.eq_nil_of_length_eq_zero (by have : n = 0 := by omega
                                                                    subst this; simpa using hx)
            subst hxn; simp
          · cases h
            intro j u hj
            rw [add_plain]
            have hC : Cs w g o xs := ⟨cur, e, _, (cur.toList.drop o).drop (n * i.size), hg, by rw [← htake, List.take_append_drop]⟩
            exact hC.cell hj
        exact run_append_grow (P := P) w t ty e i zv E.sl hi hz b n cap xs hx holds a m c news hl hnews (by omega) (by omega) hfit
    · intro b hb
      rw [ob_some (by omega)] at hb
      have : b = w.heap.size := by simpa using hb
      exact .inr (by omega)
/-- nothing is appended -/
theorem run_append0 {t ty e size bytes : Nat} {z : List Value} (E : Elt P t e size bytes z) {p : Option Addr} {n cap : Nat} (hn : n ≤ cap) (q : Option Addr) (c : Nat) :
    (Builtin.append_ #[t, t] ty #[.slice p n cap, .slice q 0 c]).run P w = .ok (.slice p n cap) w := by
  obtain ⟨i, zv, hi, hz, hs, hb, hzc⟩ := E.info
  cases p <;> cases q <;> simp [Builtin.append_, run_underlying E.sl, sizeOf, typeInfo, hi, Builtin.lenOf, hn, Builtin.firstCells, loadCells, loadCellsFrom, storeCells]
end
end Go.Proofs.Ythbgngdoihkodac.Hx
