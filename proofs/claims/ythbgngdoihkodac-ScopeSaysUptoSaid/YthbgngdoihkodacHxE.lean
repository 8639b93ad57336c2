/- roadstead: ScopeSays. This text: HxE. Conditions: none beyond those that the statement itself names. -/
import Derived.Test.YthbgngdoihkodacHxD
namespace Go.Proofs.Ythbgngdoihkodac.Hx
open Go.RowKit
/-! ### data, encoded -/
def eI (k : IntKind) (x : Int) : D := .val (.int k x)
def eB (x : Bool) : D := .val (.bool x)
def eS (x : Str) : D := .val (bs x)
def eL {β : Type} (enc : β → D) (sz : Nat) (xs : List β) : D := .sl sz (xs.map enc)

section
variable {Γ L : List (Nat × D)} {P : Program} {n : Nat} {R : List Res} {dd : Option Nat} {ty : TypeId} {pos : String} {aft : Array Edge} {g : Option (Nat × Bool)} {β : Type}
theorem ev_val {S : Nat → Prop} {w : World} {a : Act} {x : Operand} {v : Value} (ha : Fr n S w L a) (hg : Globs Γ S w) (hx : ev Γ L x = some (.val v)) : a.eval x = v := RdV.val.1 (ha.eval hg hx)
theorem V.move {x : Operand} {dv : D} (hx : ev Γ L x = some dv) : Qp Γ P n L ⟨dd, .move x, ty, pos, aft, g⟩ dv := fun S w a ha hg => ⟨_, ha.eval hg hx, fun w' => by simp [execOp]⟩
theorem V.assign {x : Operand} {dv : D} (hx : ev Γ L x = some dv) : Qp Γ P n L ⟨dd, .assign x, ty, pos, aft, g⟩ dv := fun S w a ha hg => ⟨_, ha.eval hg hx, fun w' => by simp [execOp]⟩
theorem V.bin {o : BinOp} {t t' : TypeId} {x y : Operand} {u v r : Value} (hx : ev Γ L x = some (.val u)) (hy : ev Γ L y = some (.val v))
    (hr : ∀ w, (do eqGuard o t x y u v; binOp o t u v : Sem Value).run P w = .ok r w) : Qp Γ P n L ⟨dd, .binOp o t x y t', ty, pos, aft, g⟩ (.val r) := fun S w a ha hg =>
  ⟨r, RdV.val.2 rfl, fun w' => by simp only [execOp, ev_val ha hg hx, ev_val ha hg hy]; exact run_value_of (hr w')⟩
theorem V.cat {t t' : TypeId} {x y : Operand} {a b c : Str} (hx : ev Γ L x = some (.val (bs a))) (hy : ev Γ L y = some (.val (bs b))) (hc : catl a b = some c) : Qp Γ P n L ⟨dd, .binOp .add t x y t', ty, pos, aft, g⟩ (eS c) := by
  obtain ⟨h1, rfl⟩ := catl_some hc
  exact V.bin hx hy (b_cat h1)
theorem V.eneq {t t' : TypeId} {x : Operand} {b : Bool} {ms : Array (String × TypeId)} (hU : P.underlying t = some (.interface ms)) (hx : ev Γ L x = some (.err b)) : Qp Γ P n L ⟨dd, .binOp .neq t x (.const .nilIface) t', ty, pos, aft, g⟩ (eB b) := fun S w a ha hg => by
  have h := ha.eval hg hx
  simp only [RdV, Rd] at h
  obtain ⟨v, h1, h2⟩ := h
  have h1 : a.eval x = v := by simpa using h1
  exact ⟨.bool b, RdV.val.2 rfl, fun w' => by
    simp only [execOp, h1]
    exact run_value_of (b_eneq (c := .nilIface) hU h2 w')⟩
theorem V.eeql {t t' : TypeId} {x : Operand} {b : Bool} {ms : Array (String × TypeId)} (hU : P.underlying t = some (.interface ms)) (hx : ev Γ L x = some (.err b)) : Qp Γ P n L ⟨dd, .binOp .eql t x (.const .nilIface) t', ty, pos, aft, g⟩ (eB !b) := fun S w a ha hg => by
  have h := ha.eval hg hx
  simp only [RdV, Rd] at h
  obtain ⟨v, h1, h2⟩ := h
  have h1 : a.eval x = v := by simpa using h1
  exact ⟨.bool !b, RdV.val.2 rfl, fun w' => by
    simp only [execOp, h1]
    exact run_value_of (b_eeql (c := .nilIface) hU h2 w')⟩
theorem V.not {x : Operand} {t : TypeId} {b : Bool} (hx : ev Γ L x = some (.val (.bool b))) : Qp Γ P n L ⟨dd, .unOp .not t x, ty, pos, aft, g⟩ (eB !b) := fun S w a ha hg =>
  ⟨_, RdV.val.2 rfl, fun w' => by simp [execOp, ev_val ha hg hx, Op.unary]⟩
theorem V.neg {x : Operand} {t : TypeId} {b : Int} (hx : ev Γ L x = some (.val (.int .i64 b))) : Qp Γ P n L ⟨dd, .unOp .neg t x, ty, pos, aft, g⟩ (eI .i64 (subI 0 b)) := fun S w a ha hg =>
  ⟨_, RdV.val.2 rfl, fun w' => by simp [execOp, ev_val ha hg hx, Op.unary, Op.intArith, subI]⟩
theorem V.conv_int {x : Operand} {t t' : TypeId} {k k' : IntKind} {b : Int} (hU : P.underlying t' = some (.int k')) (hT : ∃ u, P.underlying t = some u) (hx : ev Γ L x = some (.val (.int k b))) : Qp Γ P n L ⟨dd, .convert t t' x, ty, pos, aft, g⟩ (eI k' (k'.wrap b)) := fun S w a ha hg => by
  obtain ⟨u, hu⟩ := hT
  exact ⟨_, RdV.val.2 rfl, fun w' => by
    simp only [execOp, ev_val ha hg hx]
    refine run_value_of ?_
    simp [convert, run_underlying hU, run_underlying hu, Conv.intToInt]⟩
theorem V.nilCheck {x : Operand} {p : Addr} (hx : ev Γ L x = some (.val (.pointer (some p)))) : Qp Γ P n L ⟨dd, .nilCheck x, ty, pos, aft, g⟩ (.val (.pointer (some p))) := fun S w a ha hg =>
  ⟨_, RdV.val.2 rfl, fun w' => by simp [execOp, ev_val ha hg hx]⟩
theorem V.nilCheck_ptr {x : Operand} {d : D} (hx : ev Γ L x = some (.ptr d)) : Qp Γ P n L ⟨dd, .nilCheck x, ty, pos, aft, g⟩ (.ptr d) := fun S w a ha hg => by
  have h := ha.eval hg hx
  have h0 := h
  simp only [RdV, Rd] at h
  obtain ⟨b, o, cells, T, fr, c1, c2, h1, _⟩ := h
  have h1 := List.singleton_inj.1 h1
  exact ⟨_, h0, fun w' => by simp [execOp, h1]⟩
theorem V.nilCheck_rp {x : Operand} {v : Value} {o : Nat} (hx : ev Γ L x = some (.rp v o)) : Qp Γ P n L ⟨dd, .nilCheck x, ty, pos, aft, g⟩ (.rp v o) := fun S w a ha hg => by
  have h := ha.eval hg hx
  have h0 := h
  simp only [RdV, Rd] at h
  obtain ⟨b, o0, n0, c0, h2, h1⟩ := h
  have h1 := List.singleton_inj.1 h1
  exact ⟨_, h0, fun w' => by simp [execOp, h1]⟩
theorem V.extract {x : Operand} {i : Nat} {ds : List D} {d : D} (hx : ev Γ L x = some (.tup ds)) (hi : ds[i]? = some d) : Qp Γ P n L ⟨dd, .extract x i, ty, pos, aft, g⟩ d := fun S w a ha hg => by
  have h := ha.eval hg hx
  simp only [RdV] at h
  obtain ⟨vs, h1, h2⟩ := h
  obtain ⟨v, h3, h4⟩ := h2.at hi
  exact ⟨v, h4, fun w' => by simp only [execOp, h1]; exact run_value_of (by simp [Instr.extract, h3])⟩
theorem V.pick_yes {x y z : Operand} {c : Bool} {dv : D} (hx : ev Γ L x = some (.val (.bool c))) (hc : c = true) (hy : ev Γ L y = some dv) : Qp Γ P n L ⟨dd, .pick x y z, ty, pos, aft, g⟩ dv := fun S w a ha hg => by
  subst hc
  exact ⟨_, ha.eval hg hy, fun w' => by simp [execOp, ev_val ha hg hx, asBool]⟩
theorem V.pick_no {x y z : Operand} {c : Bool} {dv : D} (hx : ev Γ L x = some (.val (.bool c))) (hc : c = false) (hy : ev Γ L z = some dv) : Qp Γ P n L ⟨dd, .pick x y z, ty, pos, aft, g⟩ dv := fun S w a ha hg => by
  subst hc
  exact ⟨_, ha.eval hg hy, fun w' => by simp [execOp, ev_val ha hg hx, asBool]⟩

/-! ### fields -/
theorem V.field1 {x : Operand} {t : TypeId} {f : Nat} {ds : List D} {fs : Array Field} {fd : Field} {d : D} (hx : ev Γ L x = some (.agg ds)) (hU : ∀ w, (underlying t).run P w = .ok (.struct fs) w) (hf : fs[f]? = some fd) (hA : Ag P fd.type false) (hd : ds[fd.offset]? = some d) (hl : d.leaf = true) :
    Qp Γ P n L ⟨dd, .field t x f, ty, pos, aft, g⟩ d := fun S w a ha hg => by
  have h := ha.eval hg hx
  simp only [RdV] at h
  obtain ⟨cs, h1, h2⟩ := h
  obtain ⟨v, h3, h4⟩ := h2.at hd
  exact ⟨v, (RdV.leaf hl).2 h4, fun w' => by simp only [execOp, h1]; exact run_value_of (by simp [Instr.field, hU w', hf, asAgg, part, hA w', h3])⟩
theorem V.fieldN {x : Operand} {t : TypeId} {f sz : Nat} {ds c1 : List D} {fs : Array Field} {fd : Field} (hx : ev Γ L x = some (.agg ds)) (hU : ∀ w, (underlying t).run P w = .ok (.struct fs) w) (hf : fs[f]? = some fd) (hA : Ag P fd.type true) (hS : Sz P fd.type sz) (hd : (ds.drop fd.offset).take sz = c1) :
    Qp Γ P n L ⟨dd, .field t x f, ty, pos, aft, g⟩ (.agg c1) := fun S w a ha hg => by
  have h := ha.eval hg hx
  simp only [RdV] at h
  obtain ⟨cs, h1, h2⟩ := h
  subst hd
  refine ⟨.agg ((cs.drop fd.offset).take sz).toArray, ⟨_, rfl, (h2.drop _).take _⟩, fun w' => ?_⟩
  simp only [execOp, h1]
  refine run_value_of ?_
  have : cs.toArray.extract fd.offset (fd.offset + sz) = ((cs.drop fd.offset).take sz).toArray := by
    apply Array.ext'; simp [List.extract_eq_take_drop, Nat.add_sub_cancel_left]
  simp only [Instr.field, hU w', hf, asAgg, part, hA w', hS w', this, Sem.run_bind, Sem.run_pure, Result.andThen, if_true]

/-! ### places -/
theorem V.fieldAddr {x : Operand} {t : TypeId} {b o o' f : Nat} {fs : Array Field} {fd : Field} {k : Nat} (hx : ev Γ L x = some (.val (.pointer (some ⟨b, o, none⟩)))) (hU : ∀ w, (underlying t).run P w = .ok (.struct fs) w) (hf : fs[f]? = some fd) (hS : Sz P fd.type (k + 1)) (ho : o + fd.offset = o') :
    Qp Γ P n L ⟨dd, .fieldAddr t x f, ty, pos, aft, g⟩ (.val (.pointer (some ⟨b, o', none⟩))) := fun S w a ha hg =>
  ⟨_, RdV.val.2 rfl, fun w' => by
    subst ho
    simp only [execOp, ev_val ha hg hx]
    exact run_value_of (by simp [Instr.fieldAt, hU w', hf, Instr.sureAddr, fieldPlace, hS w', add_plain])⟩
theorem V.fieldAddr_rp {x : Operand} {t : TypeId} {o o' f : Nat} {v : Value} {fs : Array Field} {fd : Field} {k : Nat} (hx : ev Γ L x = some (.rp v o)) (hU : ∀ w, (underlying t).run P w = .ok (.struct fs) w) (hf : fs[f]? = some fd) (hS : Sz P fd.type (k + 1)) (ho : o + fd.offset = o') :
    Qp Γ P n L ⟨dd, .fieldAddr t x f, ty, pos, aft, g⟩ (.rp v o') := fun S w a ha hg => by
  have h := ha.eval hg hx
  simp only [RdV, Rd] at h
  obtain ⟨b, o0, n0, c0, h2, h1⟩ := h
  have h1 := List.singleton_inj.1 h1
  subst ho
  refine ⟨.pointer (some ⟨b, o0 + (o + fd.offset), none⟩), by simp only [RdV, Rd]; exact ⟨b, o0, n0, c0, h2, rfl⟩, fun w' => ?_⟩
  rw [← Nat.add_assoc]
  simp only [execOp, h1]
  exact run_value_of (by simp [Instr.fieldAt, hU w', hf, Instr.sureAddr, fieldPlace, hS w', add_plain])
/-- a part of what stands at a stable place -/
theorem Rd.ptr_part {S : Nat → Prop} {w : World} {ds : List D} {v : Value} {d' : D} {i m : Nat} (h : Rd S w (.ptr (.agg ds)) [v]) (hi : i ≤ ds.length) (hd : (ds.drop i).take m = d'.cells) : ∃ b o, v = .pointer (some ⟨b, o, none⟩) ∧ Rd S w (.ptr d') [.pointer (some ⟨b, o + i, none⟩)] := by
  simp only [Rd] at h
  obtain ⟨b, o, cells, T, fr, c1, c2, h1, hb, hw, hc, hr⟩ := h
  refine ⟨b, o, by simpa using h1, ?_⟩
  simp only [Rd]
  refine ⟨b, o + i, cells, T, fr, (c1.drop i).take m, (c1.drop i).drop m ++ c2, rfl, hb, hw, ?_, Rd.of_cs (hd ▸ (hr.drop i).take m)⟩
  rw [← List.append_assoc, List.take_append_drop, ← List.drop_drop, hc, List.drop_append_of_le_length (by rw [hr.length]; exact hi)]
theorem V.fieldAddr_ptr {x : Operand} {t : TypeId} {f : Nat} {ds : List D} {d0 d' : D} {fs : Array Field} {fd : Field} {k : Nat} (hx : ev Γ L x = some (.ptr d0)) (he : d0 = .agg ds) (hU : ∀ w, (underlying t).run P w = .ok (.struct fs) w) (hf : fs[f]? = some fd) (hS : Sz P fd.type (k + 1)) (hle : Nat.ble fd.offset ds.length = true) (hd : (ds.drop fd.offset).take (k + 1) = d'.cells) :
    Qp Γ P n L ⟨dd, .fieldAddr t x f, ty, pos, aft, g⟩ (.ptr d') := fun S w a ha hg => by
  subst he
  have h := ha.eval hg hx
  simp only [RdV] at h
  obtain ⟨b, o, h1, h2⟩ := Rd.ptr_part h (Nat.le_of_ble_eq_true hle) hd
  refine ⟨_, by simpa only [RdV] using h2, fun w' => ?_⟩
  simp only [execOp, h1]
  exact run_value_of (by simp [Instr.fieldAt, hU w', hf, Instr.sureAddr, fieldPlace, hS w', add_plain])
theorem V.arrAddr {x ix : Operand} {t e : TypeId} {b o o' m i k : Nat} (hx : ev Γ L x = some (.val (.pointer (some ⟨b, o, none⟩)))) (hi : ev Γ L ix = some (.val (.int .i64 (i : Int)))) (hU : ∀ w, (underlying t).run P w = .ok (.array m e) w) (hS : Sz P e k) (hm : Nat.blt i m = true) (ho : o + i * k = o') :
    Qp Γ P n L ⟨dd, .indexAddr t x ix, ty, pos, aft, g⟩ (.val (.pointer (some ⟨b, o', none⟩))) := fun S w a ha hg =>
  ⟨_, RdV.val.2 rfl, fun w' => by
    subst ho
    simp only [execOp, ev_val ha hg hx, ev_val ha hg hi]
    exact run_value_of (run_arrIdx hU hS (by simpa [Nat.blt_eq] using hm) w')⟩
theorem V.arrAddr_rp {x ix : Operand} {t e : TypeId} {v : Value} {o o' m i k : Nat} (hx : ev Γ L x = some (.rp v o)) (hi : ev Γ L ix = some (.val (.int .i64 (i : Int)))) (hU : ∀ w, (underlying t).run P w = .ok (.array m e) w) (hS : Sz P e k) (hm : Nat.blt i m = true) (ho : o + i * k = o') :
    Qp Γ P n L ⟨dd, .indexAddr t x ix, ty, pos, aft, g⟩ (.rp v o') := fun S w a ha hg => by
  have h := ha.eval hg hx
  simp only [RdV, Rd] at h
  obtain ⟨b, o0, n0, c0, h2, h1⟩ := h
  have h1 := List.singleton_inj.1 h1
  subst ho
  refine ⟨.pointer (some ⟨b, o0 + (o + i * k), none⟩), by simp only [RdV, Rd]; exact ⟨b, o0, n0, c0, h2, rfl⟩, fun w' => ?_⟩
  rw [← Nat.add_assoc]
  simp only [execOp, h1, ev_val ha hg hi]
  exact run_value_of (run_arrIdx hU hS (by simpa [Nat.blt_eq] using hm) w')
theorem V.arrAddr_ptr {x ix : Operand} {t e : TypeId} {ds : List D} {d0 d' : D} {m i k : Nat} (hx : ev Γ L x = some (.ptr d0)) (he : d0 = .agg ds) (hi : ev Γ L ix = some (.val (.int .i64 (i : Int)))) (hU : ∀ w, (underlying t).run P w = .ok (.array m e) w) (hS : Sz P e k) (hm : Nat.blt i m = true) (hle : Nat.ble (i * k) ds.length = true) (hd : (ds.drop (i * k)).take k = d'.cells) :
    Qp Γ P n L ⟨dd, .indexAddr t x ix, ty, pos, aft, g⟩ (.ptr d') := fun S w a ha hg => by
  subst he
  have h := ha.eval hg hx
  simp only [RdV] at h
  obtain ⟨b, o, h1, h2⟩ := Rd.ptr_part h (Nat.le_of_ble_eq_true hle) hd
  refine ⟨_, by simpa only [RdV] using h2, fun w' => ?_⟩
  simp only [execOp, h1, ev_val ha hg hi]
  exact run_value_of (run_arrIdx hU hS (by simpa [Nat.blt_eq] using hm) w')

/-! ### loads -/
theorem Cs.kept {W : List Nat} {w w' : World} {b o : Nat} {cs : List Value} (h : Cs w b o cs) (hl : Le W w w') (hb : b ∉ W) : Cs w' b o cs := by
  obtain ⟨cells, T, fr, rest, hw, hd⟩ := h
  exact ⟨cells, T, fr, rest, hl.kept hw hb, hd⟩
theorem Rd.ptr_cs {S : Nat → Prop} {w : World} {d : D} {v : Value} (h : Rd S w (.ptr d) [v]) : ∃ b o cs, v = .pointer (some ⟨b, o, none⟩) ∧ S b ∧ Cs w b o cs ∧ Rd S w d cs := by
  simp only [Rd] at h
  obtain ⟨b, o, cells, T, fr, c1, c2, h1, hb, hw, hc, hr⟩ := h
  exact ⟨b, o, c1, by simpa using h1, hb, ⟨cells, T, fr, c2, hw, hc⟩, hr⟩
theorem V.load_ptr {x : Operand} {t : TypeId} {d : D} (hx : ev Γ L x = some (.ptr d)) (hA : Ag P t false) (hl : d.leaf = true) : Qv Γ P n L R ⟨dd, .load t x, ty, pos, aft, g⟩ d := fun S w W a ha hs => by
  have h := ha.eval hs.glob hx
  simp only [RdV] at h
  obtain ⟨b, o, cs, h1, hb, hC, hr⟩ := h.ptr_cs
  obtain ⟨v, rfl, hv⟩ := hr.single hl
  refine ⟨v, (RdV.leaf hl).2 hv, fun w' hw => ?_⟩
  simp only [execOp, h1]
  have hc := (hC.kept hw (fun hm => hs.out b hm hb)).cell (j := 0) (v := v) rfl
  exact run_value_of (by simp [Instr.loadAt, Instr.sureAddr, run_loadVar_one hA (by simpa using hc)])
theorem V.load_ptrN {x : Operand} {t : TypeId} {d0 : D} {ds : List D} {sz : Nat} (hx : ev Γ L x = some (.ptr d0)) (he : d0 = .agg ds) (hA : Ag P t true) (hS : Sz P t sz) (hl : ds.length = sz) : Qv Γ P n L R ⟨dd, .load t x, ty, pos, aft, g⟩ (.agg ds) := fun S w W a ha hs => by
  subst he
  have h := ha.eval hs.glob hx
  simp only [RdV] at h
  obtain ⟨b, o, cs, h1, hb, hC, hr⟩ := h.ptr_cs
  simp only [Rd] at hr
  have hlen := hr.length
  refine ⟨.agg cs.toArray, ⟨cs, rfl, hr⟩, fun w' hw => ?_⟩
  simp only [execOp, h1]
  subst hl
  exact run_value_of (by simp [Instr.loadAt, Instr.sureAddr, run_loadVar_agg hA (hlen ▸ hS) (hC.kept hw (fun hm => hs.out b hm hb))])
theorem V.load_cell {x : Operand} {t T : TypeId} {b o i : Nat} {ds : List D} {d : D} (hx : ev Γ L x = some (.val (.pointer (some ⟨b, o, none⟩)))) (hi : R[i]? = some (.cells b T ds)) (hA : Ag P t false) (hd : ds[o]? = some d) (hl : d.leaf = true) : Qv Γ P n L R ⟨dd, .load t x, ty, pos, aft, g⟩ d := fun S w W a ha hs => by
  have hm : Res.cells b T ds ∈ R := List.mem_of_getElem? hi
  obtain ⟨cs, h1, h2⟩ := hs.ok _ hm
  obtain ⟨v, h3, h4⟩ := h2.at hd
  have hb : b ∉ W := hs.off b (mem_fps_of hm b (by simp [Res.fp]))
  refine ⟨v, (RdV.leaf hl).2 h4, fun w' hw => ?_⟩
  simp only [execOp, ev_val ha hs.glob hx]
  have hc := ((Cs.of_block h1).kept hw hb).cell (j := o) h3
  exact run_value_of (by simp [Instr.loadAt, Instr.sureAddr, run_loadVar_one hA (by simpa using hc)])
theorem V.load_cellN {x : Operand} {t T : TypeId} {b o i sz : Nat} {ds c1 : List D} (hx : ev Γ L x = some (.val (.pointer (some ⟨b, o, none⟩)))) (hi : R[i]? = some (.cells b T ds)) (hA : Ag P t true) (hS : Sz P t sz) (hd : (ds.drop o).take sz = c1) (hl : c1.length = sz) (hle : Nat.ble o ds.length = true) : Qv Γ P n L R ⟨dd, .load t x, ty, pos, aft, g⟩ (.agg c1) := fun S w W a ha hs => by
  have hm : Res.cells b T ds ∈ R := List.mem_of_getElem? hi
  obtain ⟨cs, h1, h2⟩ := hs.ok _ hm
  have h3 : RdCs S w c1 ((cs.drop o).take sz) := hd ▸ (h2.drop o).take sz
  have hb : b ∉ W := hs.off b (mem_fps_of hm b (by simp [Res.fp]))
  have hlen := h3.length
  refine ⟨.agg ((cs.drop o).take sz).toArray, ⟨_, rfl, h3⟩, fun w' hw => ?_⟩
  simp only [execOp, ev_val ha hs.glob hx]
  have hC := ((Cs.of_block h1).kept hw hb).sub (j := o) (sz := sz) rfl (by rw [h2.length]; exact Nat.le_of_ble_eq_true hle)
  rw [Nat.zero_add] at hC
  have hS' : Sz P t ((cs.drop o).take sz).length := by rw [hlen, hl]; exact hS
  exact run_value_of (by simp only [Instr.loadAt, Instr.sureAddr, Sem.run_bind, Sem.run_pure, Result.andThen_ok, run_loadVar_agg hA hS' hC])
/-- an element of a row of the call's own -/
theorem Res.row_at {S : Nat → Prop} {w : World} {v : Value} {e sz k : Nat} {ds : List D} {d : D} (h : Res.ok S w (.row v e sz ds)) (hd : ds[k]? = some d) : ∃ b o c cs, v = .slice (some ⟨b, o, none⟩) ds.length (c + 1) ∧ Cs w b (o + k * sz) cs ∧ cs.length = sz ∧ Rd S w d cs := by
  obtain ⟨cs, ⟨h1, p, c, rfl, h2, h3, h4⟩, h5⟩ := h
  have hlt := (List.getElem?_eq_some_iff.1 hd).1
  rcases h4 with h4 | ⟨b, o, cur, rfl, hc, hb, ho, ht⟩
  · omega
  · have key : ∀ {ds : List D} {cs : List Value} {k : Nat} {d : D}, RdEach S w sz ds cs → ds[k]? = some d → ∃ c1 rest, cs.drop (k * sz) = c1 ++ rest ∧ c1.length = sz ∧ Rd S w d c1 := by
      intro ds
      induction ds with
      | nil => intro cs k d _ hd; simp at hd
      | cons d0 ds ih =>
        intro cs k d h hd
        simp only [RdEach] at h
        obtain ⟨c1, c2, rfl, hl, h1, h2⟩ := h
        cases k with
        | zero =>
          simp only [List.getElem?_cons_zero, Option.some.injEq] at hd
          subst hd
          exact ⟨c1, c2, by simp, hl, h1⟩
        | succ k =>
          obtain ⟨e1, rest, he, hl', hr⟩ := ih (k := k) h2 (by simpa using hd)
          refine ⟨e1, rest, ?_, hl', hr⟩
          rw [← he, Nat.succ_mul, Nat.add_comm, ← List.drop_drop]
          congr 1
          rw [← hl]; simp
    obtain ⟨c1, rest, he, hl, hr⟩ := key h5 hd
    obtain ⟨c, rfl⟩ : ∃ c', c = c' + 1 := ⟨c - 1, by omega⟩
    refine ⟨b, o, c, c1, rfl, ⟨cur, e, _, rest ++ (cur.toList.drop o).drop (ds.length * sz), hb, ?_⟩, hl, hr⟩
    have hle : k * sz ≤ ((cur.toList.drop o).take (ds.length * sz)).length := by rw [ht, h1]; exact Nat.mul_le_mul_right _ (Nat.le_of_lt hlt)
    rw [← List.drop_drop, ← List.append_assoc, ← he, ← ht]
    conv => lhs; rw [← List.take_append_drop (ds.length * sz) (cur.toList.drop o)]
    rw [List.drop_append_of_le_length hle]
end
end Go.Proofs.Ythbgngdoihkodac.Hx
