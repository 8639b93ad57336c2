/- ReplayTexts: Text and Read of package replay give what the reference gives, for every list of choices and text of bulk at most 1048576. This text: package-level variables, errors, arrays. Conditions: none beyond those that the statement itself names. -/
import Derived.Test.YtbaaojaoadjnmaeDoorGxL
import Derived.Laws.StructEq
namespace Go.Proofs.YtbaaojaoadjnmaeDoor.Gx
open Go.RowKit

/-! ### package-level variables that stand as they are laid -/
def VarIs (P : Program) (S : Nat → Prop) (w : World) (n : String) (cs : Array Value) : Prop := ∃ g T fr, P.globalNamed n = some g ∧ S g ∧ w.heap[g]? = some (.cells cs T fr)
theorem VarIs.up {P : Program} {W : List Nat} {S S' : Nat → Prop} {w w' : World} {n : String} {cs : Array Value} (h : VarIs P S w n cs) (u : Up W S w S' w') : VarIs P S' w' n cs := by
  obtain ⟨g, T, fr, h1, h2, h3⟩ := h
  obtain ⟨h4, h5⟩ := u.step g _ h2 h3
  exact ⟨g, T, fr, h1, h4, h5⟩
theorem VarIs.var {P : Program} {S : Nat → Prop} {w : World} {n : String} {cs : Array Value} (h : VarIs P S w n cs) : w.var? P n = some cs := by
  obtain ⟨g, T, fr, h1, h2, h3⟩ := h
  simp [World.var?, h1, h3]
theorem VarIs.of {P : Program} {w : World} {n : String} {cs : Array Value} (h : w.var? P n = some cs) : VarIs P (fun b => b < w.heap.size) w n cs := by
  unfold World.var? at h
  cases hg : P.globalNamed n with
  | none => rw [hg] at h; cases h
  | some g =>
    rw [hg] at h
    simp only [Option.bind_some] at h
    split at h
    · next cs' T fr hw => cases h; exact ⟨g, T, fr, hg, lt_of_block hw, hw⟩
    · cases h

/-! ### errors: nil or not -/
def IsErr (v : Value) (b : Bool) : Prop := (b = false ∧ v = .nilIface) ∨ (b = true ∧ ∃ t p, v = .iface t p)
theorem IsErr.nil : IsErr .nilIface false := .inl ⟨rfl, rfl⟩
theorem IsErr.some {t : TypeId} {p : Value} : IsErr (.iface t p) true := .inr ⟨rfl, t, p, rfl⟩
section
variable {P : Program}
theorem eqE1 {t : TypeId} {ms : Array (String × TypeId)} (hU : P.underlying t = some (.interface ms)) (d : Nat) (w : World) : (Op.equalIn (d + 1) t .nilIface .nilIface).run P w = .ok true w := by simp [Op.equalIn, run_underlying hU]
theorem eqE2 {t t' : TypeId} {p : Value} {ms : Array (String × TypeId)} (hU : P.underlying t = some (.interface ms)) (d : Nat) (w : World) : (Op.equalIn (d + 1) t (.iface t' p) .nilIface).run P w = .ok false w := by simp [Op.equalIn, run_underlying hU]
theorem b_eneq {t : TypeId} {x : Operand} {c v : Value} {b : Bool} {ms : Array (String × TypeId)} (hU : P.underlying t = some (.interface ms)) (h : IsErr v b) : ∀ w, (do eqGuard .neq t x (.const c) v .nilIface; binOp .neq t v .nilIface : Sem Value).run P w = .ok (.bool b) w := fun w => by
  rcases h with ⟨rfl, rfl⟩ | ⟨rfl, t', p, rfl⟩
  · have : (Op.equal t .nilIface .nilIface).run P w = .ok true w := eqE1 hU 9999 w
    unfold binOp; simp [eqGuard, this]
  · have : (Op.equal t (.iface t' p) .nilIface).run P w = .ok false w := eqE2 hU 9999 w
    unfold binOp; simp [eqGuard, this]
theorem b_eeql {t : TypeId} {x : Operand} {c v : Value} {b : Bool} {ms : Array (String × TypeId)} (hU : P.underlying t = some (.interface ms)) (h : IsErr v b) : ∀ w, (do eqGuard .eql t x (.const c) v .nilIface; binOp .eql t v .nilIface : Sem Value).run P w = .ok (.bool (!b)) w := fun w => by
  rcases h with ⟨rfl, rfl⟩ | ⟨rfl, t', p, rfl⟩
  · have : (Op.equal t .nilIface .nilIface).run P w = .ok true w := eqE1 hU 9999 w
    unfold binOp; simp [eqGuard, this]
  · have : (Op.equal t (.iface t' p) .nilIface).run P w = .ok false w := eqE2 hU 9999 w
    unfold binOp; simp [eqGuard, this]

/-! ### two numbers as an array -/
theorem eq2 {t e : TypeId} {k : IntKind} {a b c d : Int} (hU : P.underlying t = some (.array 2 e)) (hE : P.underlying e = some (.int k)) (hA : ∀ w, (isAgg e).run P w = .ok false w) (hS : Sz P e 1) (m : Nat) (w : World) :
    (Op.equalIn (m + 2) t (.agg [.int k a, .int k b].toArray) (.agg [.int k c, .int k d].toArray)).run P w = .ok (a == c && b == d) w := by
  have e1 : ∀ (x y : Int), (Op.equalIn (m + 1) e (.int k x) (.int k y)).run P w = .ok (x == y) w := fun x y => run_equalIn_int w m e k k x y hE
  rw [Op.equalIn]
  simp only [Sem.run_bind, run_underlying hU, Result.andThen_ok, hS w]
  cases h1 : a == c <;> cases h2 : b == d <;> simp [part, hA w, e1, h1, h2, show List.range' 0 2 = [0, 1] from rfl, go_sem]
theorem b_aneq2 {t e : TypeId} {x y : Operand} {k : IntKind} {a b c d : Int} (hU : P.underlying t = some (.array 2 e)) (hE : P.underlying e = some (.int k)) (hA : ∀ w, (isAgg e).run P w = .ok false w) (hS : Sz P e 1) (hg : P.eqGuardType P.depth t = false) :
    ∀ w, (do eqGuard .neq t x y (.agg [.int k a, .int k b].toArray) (.agg [.int k c, .int k d].toArray); binOp .neq t (.agg [.int k a, .int k b].toArray) (.agg [.int k c, .int k d].toArray) : Sem Value).run P w = .ok (.bool (!(a == c && b == d))) w := fun w => by
  have h1 := (show (Op.equal t (.agg [.int k a, .int k b].toArray) (.agg [.int k c, .int k d].toArray)).run P w = .ok (a == c && b == d) w from eq2 hU hE hA hS 9998 w)
  unfold binOp; simp [eqGuard, hg, h1]
end
section
variable {α : Type} {out : α} {F : Option α} {P : Program} {n : Nat} {L : List (Nat × Value)} {w : World} {ops : Array Oper} {rest : List Oper} {Q : Exit → Act → World → Prop} {d : Nat} {ty : TypeId} {pos : String} {aft : Array Edge} {W : List Nat} {dd : Option Nat} {g : Option (Nat × Bool)}
theorem run_arrIdx {t e : TypeId} {b o k m i : Nat} (hU : ∀ w, (underlying t).run P w = .ok (.array m e) w) (hS : Sz P e k) (hi : i < m) (w : World) :
    (Instr.indexAt t (.pointer (some ⟨b, o, none⟩)) (.int .i64 (i : Int))).run P w = .ok (.pointer (some ⟨b, o + i * k, none⟩)) w := by
  simp only [Instr.indexAt, Sem.run_bind, hU w, asIntOf]
  simp [Instr.sureAddr, hU w, hS w, hi, add_plain]
theorem G.arrAddr {x ix : Operand} {t e : TypeId} {b o o' m i k : Nat} (hd : Nat.blt d n = true) (hx : ev L x = some (.pointer (some ⟨b, o, none⟩))) (hi : ev L ix = some (.int .i64 (i : Int))) (hU : ∀ w, (underlying t).run P w = .ok (.array m e) w) (hS : Sz P e k) (hm : Nat.blt i m = true) (ho : o' = o + i * k)
    (h : G out F n ((d, .pointer (some ⟨b, o', none⟩)) :: L) w (wpList P ops Q rest)) : G out F n L w (wpList P ops Q (⟨some d, .indexAddr t x ix, ty, pos, aft, none⟩ :: rest)) :=
  G.value hd (fun a ha => by
    subst ho
    simp only [execOp, ha.eval hx, ha.eval hi]
    exact run_value_of (run_arrIdx hU hS (by simpa [Nat.blt_eq] using hm) w)) h
theorem Q.arrAddr {x ix : Operand} {t e : TypeId} {b o o' m i k : Nat} (hx : ev L x = some (.pointer (some ⟨b, o, none⟩))) (hi : ev L ix = some (.int .i64 (i : Int))) (hU : ∀ w, (underlying t).run P w = .ok (.array m e) w) (hS : Sz P e k) (hm : Nat.blt i m = true) (ho : o' = o + i * k) :
    Qt P n L W w ⟨dd, .indexAddr t x ix, ty, pos, aft, g⟩ (.pointer (some ⟨b, o', none⟩)) := fun w' _ a ha => by
  subst ho
  simp only [execOp, ha.eval hx, ha.eval hi]
  exact run_value_of (run_arrIdx hU hS (by simpa [Nat.blt_eq] using hm) w')
end
section
variable {n : Nat} {L : List (Nat × Value)} {w : World} {P : Program} {W : List Nat} {dd : Option Nat} {ty : TypeId} {pos : String} {aft : Array Edge} {g : Option (Nat × Bool)}
theorem Q.sub_str {x : Operand} {lo hi : Option Operand} {l h : Int} {s r : Str} {t : TypeId} (hx : ev L x = some (bs s)) (hU : ∀ w, (underlying t).run P w = .ok .string w)
    (hlo : match lo with | some o => ev L o = some (.int .i64 l) | none => l = 0) (hhi : match hi with | some o => ev L o = some (.int .i64 h) | none => h = (s.length : Int))
    (hr : sub s l h = some r) : Qt P n L W w ⟨dd, .slice t x lo hi none, ty, pos, aft, g⟩ (bs r) := fun w' _ a ha => by
    obtain ⟨h0, h1, h2, rfl⟩ := sub_some hr
    have e : (⟨s.toArray⟩ : ByteArray).size = s.length := by show s.toArray.size = _; simp
    have e2 : ∀ i j : Nat, (⟨s.toArray⟩ : ByteArray).extract i j = ⟨((s.take j).drop i).toArray⟩ := fun i j => by
      apply ByteArray.ext
      simp only [ByteArray.data_extract]
      apply Array.ext'
      simp only [Array.toList_extract, List.extract_eq_take_drop, List.drop_take]
    simp only [execOp, ha.eval hx]
    refine run_value_of ?_
    cases lo with
    | none =>
      simp only at hlo
      subst hlo
      cases hi with
      | none =>
        simp only at hhi
        subst hhi
        simp [Instr.sliceAt, hU w', Instr.slice, bs, Instr.sliceBounds, e, e2]
      | some o2 =>
        simp only at hhi
        simp [Instr.sliceAt, hU w', Instr.slice, bs, Instr.sliceBounds, e, e2, ha.eval hhi, Instr.sliceBound, asIntOf, h1, h2]
    | some o1 =>
      simp only at hlo
      cases hi with
      | none =>
        simp only at hhi
        subst hhi
        simp [Instr.sliceAt, hU w', Instr.slice, bs, Instr.sliceBounds, e, e2, ha.eval hlo, Instr.sliceBound, asIntOf, h0, h1]
      | some o2 =>
        simp only at hhi
        have h3 : l ≤ (h.toNat : Int) := by omega
        simp [Instr.sliceAt, hU w', Instr.slice, bs, Instr.sliceBounds, e, e2, ha.eval hlo, ha.eval hhi, Instr.sliceBound, asIntOf, h0, h1, h2, h3, show (0 : Int) ≤ h by omega]
        intro hh; exfalso; omega
end
section
variable {α β : Type} {out : α} {F : Option α} {n : Nat} {L : List (Nat × Value)} {w : World} {P : Program} {Q : Exit → Act → World → Prop} {S : Nat → Prop} {K : Act → World → Prop} {ty : TypeId} {pos : String} {aft : Array Edge} {d : Nat}
theorem W.nth_own {enc : β → D} {e' sz B : Nat} {xs : List β} {x ix : Operand} {t e : TypeId} {v : Value} {i : Int} {y : β} (hd : Nat.blt d n = true) (hx : ev L x = some v) (hi : ev L ix = some (.int .i64 i)) (hU : ∀ w, (underlying t).run P w = .ok (.slice e) w) (hS : Sz P e sz) (hr : OwnL enc e' sz B S w v xs) (hy : nth xs i = some y)
    (h : ∀ b o cs, Cs w b o cs → cs.length = sz → Rd S w (enc y) cs → G out F n ((d, .pointer (some ⟨b, o, none⟩)) :: L) w K) :
    G out F n L w (fun a w => (⟨some d, .indexAddr t x ix, ty, pos, aft, none⟩ : Oper).wp P a w K Q) := by
  obtain ⟨h0, h1, h2⟩ := nth_lt hy
  obtain ⟨k, rfl⟩ := Int.eq_ofNat_of_zero_le h0
  have hk : xs[k]? = some y := by simpa using h2
  obtain ⟨g, c, c1, rfl, hC, hl, hR, _⟩ := hr.at hk
  have hlt := (List.getElem?_eq_some_iff.1 hk).1
  refine W.value hd (fun a ha => ?_) (h g (0 + k * sz) c1 hC hl hR)
  simp only [execOp, ha.eval hx, ha.eval hi]
  refine run_value_of ?_
  rw [run_indexAt hU hS (by omega) (by omega), add_plain]; simp
theorem W.load1 {x : Operand} {t : TypeId} {b o j o' : Nat} {cs : List Value} {v : Value} (hd : Nat.blt d n = true) (hx : ev L x = some (.pointer (some ⟨b, o', none⟩))) (hA : Ag P t false) (hC : Cs w b o cs) (ho : o' = o + j) (hj : cs[j]? = some v)
    (h : G out F n ((d, v) :: L) w K) : G out F n L w (fun a w => (⟨some d, .load t x, ty, pos, aft, none⟩ : Oper).wp P a w K Q) :=
  W.value hd (fun a ha => by
    subst ho
    simp only [execOp, ha.eval hx]
    exact run_value_of (by simp [Instr.loadAt, Instr.sureAddr, run_loadVar_one hA (hC.cell hj)])) h
end
theorem ifp {α : Type} {c : Bool} {a b x : α} (h : (if c = true then a else b) = x) (hc : c = true) : a = x := by subst hc; simpa using h
theorem ifn {α : Type} {c : Bool} {a b x : α} (h : (if c = true then a else b) = x) (hc : c = false) : b = x := by subst hc; simpa using h
theorem bnd {α β : Type} {x : Option α} {f : α → Option β} {y : β} (h : x.bind f = some y) : ∃ a, x = some a ∧ f a = some y := Option.bind_eq_some_iff.1 h
end Go.Proofs.YtbaaojaoadjnmaeDoor.Gx
