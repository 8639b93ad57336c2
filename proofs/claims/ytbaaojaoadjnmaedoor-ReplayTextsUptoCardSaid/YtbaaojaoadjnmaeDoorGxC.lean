/- ReplayTexts: Text and Read of package replay give what the reference gives, for every list of choices and text of bulk at most 1048576. This text: operations. Conditions: none beyond those that the statement itself names. -/
import Derived.Test.YtbaaojaoadjnmaeDoorGxB
namespace Go.Proofs.YtbaaojaoadjnmaeDoor.Gx
open Go.RowKit

section
variable {α : Type} {out : α} {F : Option α} {n : Nat} {L : List (Nat × Value)} {w : World} {P : Program} {Q : Exit → Act → World → Prop}
variable {ops : Array Oper} {rest : List Oper} {op : Op} {ty : TypeId} {pos : String} {aft : Array Edge} {d : Nat}

/-- one operation that yields a value -/
theorem G.value {v : Value} {w' : World} (hd : Nat.blt d n = true) (hrun : ∀ a, Fr n L a → (execOp a.eval ⟨some d, op, ty, pos, aft, none⟩).run P w = .ok (.value v) w')
    (h : G out F n ((d, v) :: L) w' (fun a w => wpList P ops Q rest a w)) : G out F n L w (wpList P ops Q (⟨some d, op, ty, pos, aft, none⟩ :: rest)) := fun hF a ha => by
  refine wpList_plain rfl fun K hK => ?_
  unfold Oper.wp
  rw [hrun a ha, Oper.upon_value]
  exact hK _ _ (h hF _ (ha.put v hd))
theorem G.skipped {w' : World} (hrun : ∀ a, Fr n L a → (execOp a.eval ⟨none, op, ty, pos, aft, none⟩).run P w = .ok .skip w')
    (h : G out F n L w' (wpList P ops Q rest)) : G out F n L w (wpList P ops Q (⟨none, op, ty, pos, aft, none⟩ :: rest)) := fun hF a ha => by
  refine wpList_plain rfl fun K hK => ?_
  unfold Oper.wp
  rw [hrun a ha, Oper.upon_skip]
  exact hK _ _ (h hF _ ha)

theorem run_value_of {m : Sem Value} {v : Value} {w' : World} (h : m.run P w = .ok v w') : (do pure (Next.value (← m)) : Sem Next).run P w = .ok (.value v) w' := by
  simp [h]

theorem G.move {x : Operand} {v : Value} (hd : Nat.blt d n = true) (hx : ev L x = some v) (h : G out F n ((d, v) :: L) w (wpList P ops Q rest)) :
    G out F n L w (wpList P ops Q (⟨some d, .move x, ty, pos, aft, none⟩ :: rest)) :=
  G.value hd (fun a ha => by simp [execOp, ha.eval hx]) h
theorem G.assign {x : Operand} {v : Value} (hd : Nat.blt d n = true) (hx : ev L x = some v) (h : G out F n ((d, v) :: L) w (wpList P ops Q rest)) :
    G out F n L w (wpList P ops Q (⟨some d, .assign x, ty, pos, aft, none⟩ :: rest)) :=
  G.value hd (fun a ha => by simp [execOp, ha.eval hx]) h

/-! ### arithmetic and tests -/
theorem G.bin {o : BinOp} {t t' : TypeId} {x y : Operand} {u v r : Value} (hd : Nat.blt d n = true) (hx : ev L x = some u) (hy : ev L y = some v)
    (hr : ∀ w, (do eqGuard o t x y u v; binOp o t u v : Sem Value).run P w = .ok r w) (h : G out F n ((d, r) :: L) w (wpList P ops Q rest)) :
    G out F n L w (wpList P ops Q (⟨some d, .binOp o t x y t', ty, pos, aft, none⟩ :: rest)) :=
  G.value hd (fun a ha => by simp only [execOp, ha.eval hx, ha.eval hy]; exact run_value_of (hr w)) h

theorem b_add {t : TypeId} {x y : Operand} {k : IntKind} {a b : Int} : ∀ w, (do eqGuard .add t x y (.int k a) (.int k b); binOp .add t (.int k a) (.int k b) : Sem Value).run P w = .ok (.int k (k.wrap (a + b))) w := fun w => by simp [eqGuard, binOp, Op.intArith]
theorem b_sub {t : TypeId} {x y : Operand} {k : IntKind} {a b : Int} : ∀ w, (do eqGuard .sub t x y (.int k a) (.int k b); binOp .sub t (.int k a) (.int k b) : Sem Value).run P w = .ok (.int k (k.wrap (a - b))) w := fun w => by simp [eqGuard, binOp, Op.intArith]
theorem b_mul {t : TypeId} {x y : Operand} {k : IntKind} {a b : Int} : ∀ w, (do eqGuard .mul t x y (.int k a) (.int k b); binOp .mul t (.int k a) (.int k b) : Sem Value).run P w = .ok (.int k (k.wrap (a * b))) w := fun w => by simp [eqGuard, binOp, Op.intArith]
theorem b_lss {t : TypeId} {x y : Operand} {k : IntKind} {a b : Int} : ∀ w, (do eqGuard .lss t x y (.int k a) (.int k b); binOp .lss t (.int k a) (.int k b) : Sem Value).run P w = .ok (.bool (decide (a < b))) w := fun w => by simp [eqGuard, binOp, Op.intCmp]
theorem b_leq {t : TypeId} {x y : Operand} {k : IntKind} {a b : Int} : ∀ w, (do eqGuard .leq t x y (.int k a) (.int k b); binOp .leq t (.int k a) (.int k b) : Sem Value).run P w = .ok (.bool (decide (a ≤ b))) w := fun w => by simp [eqGuard, binOp, Op.intCmp]
theorem b_gtr {t : TypeId} {x y : Operand} {k : IntKind} {a b : Int} : ∀ w, (do eqGuard .gtr t x y (.int k a) (.int k b); binOp .gtr t (.int k a) (.int k b) : Sem Value).run P w = .ok (.bool (decide (a > b))) w := fun w => by simp [eqGuard, binOp, Op.intCmp]
theorem b_geq {t : TypeId} {x y : Operand} {k : IntKind} {a b : Int} : ∀ w, (do eqGuard .geq t x y (.int k a) (.int k b); binOp .geq t (.int k a) (.int k b) : Sem Value).run P w = .ok (.bool (decide (a ≥ b))) w := fun w => by simp [eqGuard, binOp, Op.intCmp]
theorem b_eql {t : TypeId} {x y : Operand} {k : IntKind} {a b : Int} : ∀ w, (do eqGuard .eql t x y (.int k a) (.int k b); binOp .eql t (.int k a) (.int k b) : Sem Value).run P w = .ok (.bool (a == b)) w := fun w => by simp [eqGuard, binOp, Op.intCmp]
theorem b_neq {t : TypeId} {x y : Operand} {k : IntKind} {a b : Int} : ∀ w, (do eqGuard .neq t x y (.int k a) (.int k b); binOp .neq t (.int k a) (.int k b) : Sem Value).run P w = .ok (.bool (a != b)) w := fun w => by simp [eqGuard, binOp, Op.intCmp]
/-- a string's value -/
def bs (l : List UInt8) : Value := .string ⟨l.toArray⟩
theorem b_seql {t : TypeId} {x y : Operand} {a b : List UInt8} : ∀ w, (do eqGuard .eql t x y (bs a) (bs b); binOp .eql t (bs a) (bs b) : Sem Value).run P w = .ok (.bool (a == b)) w := fun w => by
  simp [eqGuard, bs, binOp_string_eql]
theorem b_sneq {t : TypeId} {x y : Operand} {a b : List UInt8} : ∀ w, (do eqGuard .neq t x y (bs a) (bs b); binOp .neq t (bs a) (bs b) : Sem Value).run P w = .ok (.bool (a != b)) w := fun w => by
  simp only [eqGuard, bs, binOp_string_neq, ByteArray.toList_mk]; simp [bne]
theorem b_slss {t : TypeId} {x y : Operand} {a b : List UInt8} : ∀ w, (do eqGuard .lss t x y (bs a) (bs b); binOp .lss t (bs a) (bs b) : Sem Value).run P w = .ok (.bool (Op.bytesLess a b)) w := fun w => by
  simp [eqGuard, bs, binOp_string_lss]
theorem b_sleq {t : TypeId} {x y : Operand} {a b : List UInt8} : ∀ w, (do eqGuard .leq t x y (bs a) (bs b); binOp .leq t (bs a) (bs b) : Sem Value).run P w = .ok (.bool (Op.bytesLess a b || a == b)) w := fun w => by
  simp [eqGuard, bs, binOp, Op.stringOp]
theorem b_sgtr {t : TypeId} {x y : Operand} {a b : List UInt8} : ∀ w, (do eqGuard .gtr t x y (bs a) (bs b); binOp .gtr t (bs a) (bs b) : Sem Value).run P w = .ok (.bool !(Op.bytesLess a b || a == b)) w := fun w => by
  simp [eqGuard, bs, binOp, Op.stringOp]
theorem b_sgeq {t : TypeId} {x y : Operand} {a b : List UInt8} : ∀ w, (do eqGuard .geq t x y (bs a) (bs b); binOp .geq t (bs a) (bs b) : Sem Value).run P w = .ok (.bool !(Op.bytesLess a b)) w := fun w => by
  simp [eqGuard, bs, binOp, Op.stringOp]
theorem b_cat {t : TypeId} {x y : Operand} {a b : List UInt8} (h : a.length + b.length ≤ 9223372036854775807) : ∀ w, (do eqGuard .add t x y (bs a) (bs b); binOp .add t (bs a) (bs b) : Sem Value).run P w = .ok (bs (a ++ b)) w := fun w => by
  have h1 : ¬ ((((⟨a.toArray⟩ : ByteArray).size + (⟨b.toArray⟩ : ByteArray).size : Nat) : Int) > IntKind.i64.max) := by
    have : (IntKind.i64.max : Int) = 9223372036854775807 := by decide
    rw [this]
    simp only [ByteArray.size, List.size_toArray]; omega
  have h2 : (⟨a.toArray⟩ : ByteArray) ++ ⟨b.toArray⟩ = ⟨(a ++ b).toArray⟩ := by
    apply ByteArray.ext; simp [ByteArray.data_append]
  simp only [eqGuard, bs, binOp, Op.stringOp, h2]
  rw [if_neg h1]; simp
theorem run_equalIn_bool (d : Nat) (t : TypeId) (a b : Bool) (ht : P.underlying t = some .bool) (w : World) : (Op.equalIn (d + 1) t (.bool a) (.bool b)).run P w = .ok (a == b) w := by
  unfold Op.equalIn; simp [run_underlying ht]
theorem b_beql {t : TypeId} {x y : Operand} {a b : Bool} (ht : P.underlying t = some .bool) : ∀ w, (do eqGuard .eql t x y (.bool a) (.bool b); binOp .eql t (.bool a) (.bool b) : Sem Value).run P w = .ok (.bool (a == b)) w := fun w => by
  have : (Op.equal t (.bool a) (.bool b)).run P w = .ok (a == b) w := run_equalIn_bool 9999 t a b ht w
  unfold binOp; simp only [eqGuard]; simp [this]
theorem b_bneq {t : TypeId} {x y : Operand} {a b : Bool} (ht : P.underlying t = some .bool) : ∀ w, (do eqGuard .neq t x y (.bool a) (.bool b); binOp .neq t (.bool a) (.bool b) : Sem Value).run P w = .ok (.bool (a != b)) w := fun w => by
  have : (Op.equal t (.bool a) (.bool b)).run P w = .ok (a == b) w := run_equalIn_bool 9999 t a b ht w
  unfold binOp; simp only [eqGuard]; simp [this, bne]

theorem G.not {x : Operand} {t : TypeId} {b : Bool} (hd : Nat.blt d n = true) (hx : ev L x = some (.bool b)) (h : G out F n ((d, .bool (!b)) :: L) w (wpList P ops Q rest)) :
    G out F n L w (wpList P ops Q (⟨some d, .unOp .not t x, ty, pos, aft, none⟩ :: rest)) :=
  G.value hd (fun a ha => by simp [execOp, ha.eval hx, Op.unary]) h

/-! ### memory -/
def Ag (P : Program) (t : TypeId) (b : Bool) : Prop := ∀ w, (isAgg t).run P w = .ok b w
def Sz (P : Program) (t : TypeId) (k : Nat) : Prop := ∀ w, (sizeOf t).run P w = .ok k w

theorem run_load_cell {b o : Nat} {v : Value} (h : w.cell? ⟨b, o, none⟩ = some v) : (load ⟨b, o, none⟩).run P w = .ok v w := by rw [run_load, h]
theorem run_loadVar_one {t : TypeId} (hA : Ag P t false) {b o : Nat} {v : Value} (h : w.cell? ⟨b, o, none⟩ = some v) : (loadVar t ⟨b, o, none⟩).run P w = .ok v w := by
  simp only [loadVar, hA w, Sem.run_bind, Result.andThen, Bool.false_eq_true, if_false, run_load_cell h]
theorem run_loadVar_agg {t : TypeId} {cs : List Value} (hA : Ag P t true) (hS : Sz P t cs.length) {b o : Nat} (h : Cs w b o cs) : (loadVar t ⟨b, o, none⟩).run P w = .ok (.agg cs.toArray) w := by
  have := run_loadCells_list (P := P) (w := w) ⟨b, o, none⟩ cs (fun j v hj => by
    have := h.cell hj
    unfold Addr.add; split
    · rename_i e; subst e; simpa using this
    · exact this)
  simp [loadVar, hA w, hS w, this]

theorem G.load1 {x : Operand} {t : TypeId} {b o j o' : Nat} {cs : List Value} {v : Value} (hd : Nat.blt d n = true) (hx : ev L x = some (.pointer (some ⟨b, o', none⟩))) (hA : Ag P t false) (hC : Cs w b o cs) (ho : o' = o + j) (hj : cs[j]? = some v)
    (h : G out F n ((d, v) :: L) w (wpList P ops Q rest)) : G out F n L w (wpList P ops Q (⟨some d, .load t x, ty, pos, aft, none⟩ :: rest)) :=
  G.value hd (fun a ha => by
    subst ho
    simp only [execOp, ha.eval hx]
    exact run_value_of (by simp [Instr.loadAt, Instr.sureAddr, run_loadVar_one hA (hC.cell hj)])) h
theorem G.loadN {x : Operand} {t : TypeId} {b o j o' sz : Nat} {cs c1 : List Value} (hd : Nat.blt d n = true) (hx : ev L x = some (.pointer (some ⟨b, o', none⟩))) (hA : Ag P t true) (hS : Sz P t sz) (hC : Cs w b o cs) (ho : o' = o + j) (hj : (cs.drop j).take sz = c1) (hl : c1.length = sz) (hle : j ≤ cs.length)
    (h : G out F n ((d, .agg c1.toArray) :: L) w (wpList P ops Q rest)) : G out F n L w (wpList P ops Q (⟨some d, .load t x, ty, pos, aft, none⟩ :: rest)) :=
  G.value hd (fun a ha => by
    subst ho
    subst hl
    simp only [execOp, ha.eval hx]
    exact run_value_of (by simp [Instr.loadAt, Instr.sureAddr, run_loadVar_agg hA hS (hC.sub hj hle)])) h

/-- a new variable: its block is known whole -/
theorem run_newVar {t : TypeId} {v : Value} : (newVar t v).run P w = .ok ⟨w.heap.size, 0, none⟩ (w.alloc (.cells v.cells t)) := by
  simp only [newVar, newRow, newObj, Sem.run_bind, Sem.run_pure, Sem.run, Result.andThen, World.alloc_eq]
theorem G.box {x : Operand} {t : TypeId} {v : Value} {cs : List Value} (hd : Nat.blt d n = true) (hx : ev L x = some v) (hc : v.cells = cs.toArray)
    (h : ∀ g w', g = w.heap.size → Le [] w w' → w'.heap[g]? = some (.cells cs.toArray t (0, 0)) → G out F n ((d, .pointer (some ⟨g, 0, none⟩)) :: L) w' (wpList P ops Q rest)) :
    G out F n L w (wpList P ops Q (⟨some d, .box t x, ty, pos, aft, none⟩ :: rest)) :=
  G.value (w' := w.alloc (.cells cs.toArray t)) hd (fun a ha => by
    simp only [execOp, ha.eval hx]
    exact run_value_of (by simp [Instr.box, run_newVar, hc])) (h _ _ rfl (Le.alloc _ _) (by rw [heap_alloc_new]))
theorem G.alloc {t : TypeId} {z : Value} {cs : List Value} (hd : Nat.blt d n = true) (hz : ∀ w, (zeroValue t).run P w = .ok z w) (hc : z.cells = cs.toArray)
    (h : ∀ g w', g = w.heap.size → Le [] w w' → w'.heap[g]? = some (.cells cs.toArray t (0, 0)) → G out F n ((d, .pointer (some ⟨g, 0, none⟩)) :: L) w' (wpList P ops Q rest)) :
    G out F n L w (wpList P ops Q (⟨some d, .alloc t, ty, pos, aft, none⟩ :: rest)) :=
  G.value (w' := w.alloc (.cells cs.toArray t)) hd (fun a ha => by
    simp only [execOp]
    exact run_value_of (by simp [Instr.alloc, hz w, run_newVar, hc])) (h _ _ rfl (Le.alloc _ _) (by rw [heap_alloc_new]))

/-- one or more cells of a block that is known whole are written -/
theorem G.store {x y : Operand} {t T : TypeId} {g o : Nat} {cs c1 cs' : List Value} {v : Value} (hx : ev L x = some (.pointer (some ⟨g, o, none⟩))) (hy : ev L y = some v) (hv : v.cells = c1.toArray) (hS : Sz P t c1.length)
    (hB : w.heap[g]? = some (.cells cs.toArray T (0, 0))) (h1 : ∀ u ∈ c1, u.oneCell' = true) (hfit : o + c1.length ≤ cs.length) (hcs : cs.take o ++ c1 ++ cs.drop (o + c1.length) = cs')
    (h : ∀ w', Le [g] w w' → w'.heap[g]? = some (.cells cs'.toArray T (0, 0)) → G out F n L w' (wpList P ops Q rest)) :
    G out F n L w (wpList P ops Q (⟨none, .store t x y, ty, pos, aft, none⟩ :: rest)) :=
  G.skipped (w' := w.setRow g cs'.toArray) (fun a ha => by
    have hst := run_storeCells_at P g o T c1 0 cs.toArray w hB (by simpa using hfit) h1
    simp only [execOp, ha.eval hx, ha.eval hy]
    simp only [Nat.add_zero, List.toList_toArray, hcs] at hst
    simp [Instr.storeAt, Instr.sureAddr, storeVar, hv, hS w, hst]) (h _ (Le.setRow _ _ _) (by
      simp only [World.setRow]
      rw [Array.getElem?_modify, if_pos rfl, hB]; rfl))

theorem G.fieldAddr {x : Operand} {t : TypeId} {b o o' f : Nat} {fs : Array Field} {fd : Field} {k : Nat} (hd : Nat.blt d n = true) (hx : ev L x = some (.pointer (some ⟨b, o, none⟩))) (hU : ∀ w, (underlying t).run P w = .ok (.struct fs) w) (hf : fs[f]? = some fd) (hS : Sz P fd.type (k + 1)) (ho : o' = o + fd.offset)
    (h : G out F n ((d, .pointer (some ⟨b, o', none⟩)) :: L) w (wpList P ops Q rest)) : G out F n L w (wpList P ops Q (⟨some d, .fieldAddr t x f, ty, pos, aft, none⟩ :: rest)) :=
  G.value hd (fun a ha => by
    subst ho
    have : (⟨b, o, none⟩ : Addr).add fd.offset = ⟨b, o + fd.offset, none⟩ := by unfold Addr.add; split <;> simp_all
    simp only [execOp, ha.eval hx]
    exact run_value_of (by simp [Instr.fieldAt, hU w, hf, Instr.sureAddr, fieldPlace, hS w, this])) h
theorem G.field1 {x : Operand} {t : TypeId} {f : Nat} {cs : List Value} {fs : Array Field} {fd : Field} {v : Value} (hd : Nat.blt d n = true) (hx : ev L x = some (.agg cs.toArray)) (hU : ∀ w, (underlying t).run P w = .ok (.struct fs) w) (hf : fs[f]? = some fd) (hA : Ag P fd.type false) (hv : cs[fd.offset]? = some v)
    (h : G out F n ((d, v) :: L) w (wpList P ops Q rest)) : G out F n L w (wpList P ops Q (⟨some d, .field t x f, ty, pos, aft, none⟩ :: rest)) :=
  G.value hd (fun a ha => by
    simp only [execOp, ha.eval hx]
    exact run_value_of (by simp [Instr.field, hU w, hf, asAgg, part, hA w, hv])) h
theorem G.fieldN {x : Operand} {t : TypeId} {f sz : Nat} {cs c1 : List Value} {fs : Array Field} {fd : Field} (hd : Nat.blt d n = true) (hx : ev L x = some (.agg cs.toArray)) (hU : ∀ w, (underlying t).run P w = .ok (.struct fs) w) (hf : fs[f]? = some fd) (hA : Ag P fd.type true) (hS : Sz P fd.type sz) (hv : (cs.drop fd.offset).take sz = c1)
    (h : G out F n ((d, .agg c1.toArray) :: L) w (wpList P ops Q rest)) : G out F n L w (wpList P ops Q (⟨some d, .field t x f, ty, pos, aft, none⟩ :: rest)) :=
  G.value hd (fun a ha => by
    simp only [execOp, ha.eval hx]
    refine run_value_of ?_
    have : cs.toArray.extract fd.offset (fd.offset + sz) = c1.toArray := by
      apply Array.ext'; rw [← hv]; simp [List.extract_eq_take_drop, Nat.add_sub_cancel_left]
    simp only [Instr.field, hU w, hf, asAgg, part, hA w, hS w, this, Sem.run_bind, Sem.run_pure, Result.andThen, if_true]) h
theorem G.extract {x : Operand} {i : Nat} {vs : List Value} {v : Value} (hd : Nat.blt d n = true) (hx : ev L x = some (.tuple vs.toArray)) (hi : vs[i]? = some v)
    (h : G out F n ((d, v) :: L) w (wpList P ops Q rest)) : G out F n L w (wpList P ops Q (⟨some d, .extract x i, ty, pos, aft, none⟩ :: rest)) :=
  G.value hd (fun a ha => by
    simp only [execOp, ha.eval hx]
    exact run_value_of (by simp [Instr.extract, hi])) h
end
end Go.Proofs.YtbaaojaoadjnmaeDoor.Gx
