/- ReplayTexts: Text and Read of package replay give what the reference gives, for every list of choices and text of bulk at most 1048576. This text: elements, calls. Conditions: none beyond those that the statement itself names. -/
import Derived.Test.YtbaaojaoadjnmaeDoorGxD
namespace Go.Proofs.YtbaaojaoadjnmaeDoor.Gx
open Go.RowKit

/-! ### pure words -/
/-- an element, as Go indexes -/
def nth {β : Type} (xs : List β) (i : Int) : Option β := if 0 ≤ i then xs[i.toNat]? else none
theorem nth_lt {β : Type} {xs : List β} {i : Int} {y : β} (h : nth xs i = some y) : 0 ≤ i ∧ i < xs.length ∧ xs[i.toNat]? = some y := by
  unfold nth at h
  split at h
  · have := (List.getElem?_eq_some_iff.1 h).1; exact ⟨‹_›, by omega, h⟩
  · cases h
/-- a part, as Go slices: within the length -/
def sub {β : Type} (xs : List β) (lo hi : Int) : Option (List β) := if 0 ≤ lo ∧ lo ≤ hi ∧ hi ≤ xs.length then some ((xs.take hi.toNat).drop lo.toNat) else none
theorem sub_some {β : Type} {xs ys : List β} {lo hi : Int} (h : sub xs lo hi = some ys) : 0 ≤ lo ∧ lo ≤ hi ∧ hi ≤ xs.length ∧ ys = (xs.take hi.toNat).drop lo.toNat := by
  unfold sub at h
  split at h
  · simp only [Option.some.injEq] at h; exact ⟨by omega, by omega, by omega, h.symm⟩
  · cases h
/-- appended, while the model bears it -/
def app {β : Type} (lim : Nat) (xs ys : List β) : Option (List β) := if xs.length + ys.length ≤ lim then some (xs ++ ys) else none
theorem app_some {β : Type} {lim : Nat} {xs ys zs : List β} (h : app lim xs ys = some zs) : xs.length + ys.length ≤ lim ∧ zs = xs ++ ys := by
  unfold app at h
  split at h
  · simp only [Option.some.injEq] at h; exact ⟨‹_›, h.symm⟩
  · cases h
def catl (a b : List UInt8) : Option (List UInt8) := if a.length + b.length ≤ 9223372036854775807 then some (a ++ b) else none
theorem catl_some {a b c : List UInt8} (h : catl a b = some c) : a.length + b.length ≤ 9223372036854775807 ∧ c = a ++ b := by
  unfold catl at h
  split at h
  · simp only [Option.some.injEq] at h; exact ⟨‹_›, h.symm⟩
  · cases h

/-! ### a row of the call's own, typed -/
structure OwnL {β : Type} (enc : β → D) (e sz B : Nat) (S : Nat → Prop) (w : World) (v : Value) (xs : List β) : Prop where
  born : ∀ b ∈ ob v, B ≤ b
  apart : ∀ b ∈ ob v, ¬ S b
  row : ∃ cs, Own w e sz v xs.length cs ∧ RdX enc sz S w xs cs
section
variable {β : Type} {enc : β → D} {e sz B : Nat} {S S' : Nat → Prop} {w w' : World} {v v' : Value} {xs ys : List β} {W : List Nat}
theorem OwnL.nil : OwnL enc e sz B S w (.slice none 0 0) [] := ⟨by simp [ob_nil], by simp [ob_nil], [], Own.nil _ _ _, RdX.nil⟩
theorem OwnL.lt (h : OwnL enc e sz B S w v xs) : ∀ b ∈ ob v, b < w.heap.size := by
  obtain ⟨cs, ho, _⟩ := h.row; exact ho.lt
theorem OwnL.up (h : OwnL enc e sz B S w v xs) (hu : Up W S w S' w') (hd : ∀ b ∈ ob v, b ∉ W) : OwnL enc e sz B S' w' v xs := by
  obtain ⟨cs, ho, hx⟩ := h.row
  exact ⟨h.born, fun b hb hs => h.apart b hb (hu.old b (ho.lt b hb) hs), cs, ho.kept hu.le hd, hx.up hu⟩
theorem OwnL.up0 (h : OwnL enc e sz B S w v xs) (hu : Up [] S w S' w') : OwnL enc e sz B S' w' v xs := h.up hu (by simp)
theorem OwnL.low {B' : Nat} (h : OwnL enc e sz B S w v xs) (hB : B' ≤ B) : OwnL enc e sz B' S w v xs := ⟨fun b hb => Nat.le_trans hB (h.born b hb), h.apart, h.row⟩
/-- it is not written any more -/
theorem OwnL.read (h : OwnL enc e sz B S w v xs) (hS : ∀ b, S b → S' b) (hv : ∀ b ∈ ob v, S' b) : RdL enc sz S' w v xs := by
  obtain ⟨cs, ho, hx⟩ := h.row
  exact ho.read ⟨RdEach.mono (fun b o hb ho => ⟨hS b hb, ho⟩) hx.1, hx.2⟩ hv
theorem OwnL.form (h : OwnL enc e sz B S w v xs) : ∃ p c, v = .slice p xs.length c ∧ xs.length ≤ c ∧ c ≤ maxLen := by
  obtain ⟨cs, ho, hx⟩ := h.row
  exact ho.form
theorem OwnL.at (h : OwnL enc e sz B S w v xs) {i : Nat} {y : β} (hi : xs[i]? = some y) :
    ∃ g c c1, v = .slice (some ⟨g, 0, none⟩) xs.length c ∧ Cs w g (0 + i * sz) c1 ∧ c1.length = sz ∧ Rd S w (enc y) c1 ∧ g ∈ ob v := by
  obtain ⟨cs, ho, hx⟩ := h.row
  have hlt := (List.getElem?_eq_some_iff.1 hi).1
  obtain ⟨g, c, rfl, hC, hm⟩ := ho.cells (by omega)
  obtain ⟨c1, rest, hd, hl, hr⟩ := RdEach.at (i := i) (d := enc y) hx.1 (by simp [hi])
  refine ⟨g, c, c1, rfl, ?_, hl, hr, hm⟩
  obtain ⟨cells, T, fr, rest', hw, he⟩ := hC
  refine ⟨cells, T, fr, rest ++ rest', hw, ?_⟩
  rw [← List.drop_drop, he, List.drop_append_of_le_length (by rw [hx.2]; exact Nat.mul_le_mul_right _ (Nat.le_of_lt hlt)), hd, List.append_assoc]
/-- the world's whole becomes stable together with an own row: from the call's begin on -/
theorem Up.freeze {S0 : Nat → Prop} {w0 : World} (h : Up W S0 w0 S w) (hb : ∀ b ∈ ob v, w0.heap.size ≤ b) (hl : ∀ b ∈ ob v, b < w.heap.size) : Up W S0 w0 (fun b => S b ∨ b ∈ ob v) w :=
  ⟨h.le, h.out, fun b hs => .inl (h.more b hs), fun b hlt hs => by
    rcases hs with hs | hs
    · exact h.old b hlt hs
    · have := hb b hs; omega, fun b hs => by
    rcases hs with hs | hs
    · exact h.live b hs
    · exact hl b hs⟩
end
theorem Rd.more {S S' : Nat → Prop} {w : World} {d : D} {cs : List Value} (hr : Rd S w d cs) (h : ∀ b, S b → S' b) : Rd S' w d cs := hr.mono fun b o hb ho => ⟨h b hb, ho⟩

/-- several operands -/
def evs (L : List (Nat × Value)) : List Operand → Option (List Value)
  | [] => some []
  | x :: xs => match ev L x, evs L xs with
    | some v, some vs => some (v :: vs)
    | _, _ => none
theorem Fr.evals {n L a} (h : Fr n L a) : ∀ {xs : List Operand} {vs : List Value}, evs L xs = some vs → xs.map a.eval = vs
  | [], vs, hx => by simp only [evs, Option.some.injEq] at hx; subst hx; rfl
  | x :: xs, vs, hx => by
    simp only [evs] at hx
    split at hx
    · rename_i v vs' h1 h2
      simp only [Option.some.injEq] at hx
      subst hx
      simp [h.eval h1, Fr.evals h h2]
    · cases hx

/-- it returns -/
def Rets (R : Value → World → Prop) (e : Ending) (w : World) : Prop := ∃ v, e = .returned v ∧ R v w

section
variable {α β : Type} {out : α} {F : Option α} {n : Nat} {L : List (Nat × Value)} {w : World} {P : Program} {Q : Exit → Act → World → Prop} {S : Nat → Prop}
variable {ops : Array Oper} {rest : List Oper} {ty : TypeId} {pos : String} {aft : Array Edge} {d : Nat}

/-! ### builtins -/
theorem G.builtin {b : Builtin} {xs : List Operand} {ts : Array TypeId} {vs : List Value} {v : Value} {w' : World} (hd : Nat.blt d n = true) (hx : evs L xs = some vs)
    (hr : ∀ cs, (Go.builtin b ts ty cs vs.toArray).run P w = .ok (.value v) w') (h : G out F n ((d, v) :: L) w' (wpList P ops Q rest)) :
    G out F n L w (wpList P ops Q (⟨some d, .call { callee := .builtin b, args := xs.toArray, argTypes := ts }, ty, pos, aft, none⟩ :: rest)) :=
  G.value hd (fun a ha => by
    have := ha.evals hx
    simp only [execOp, resolve, invoke, Sem.run_bind, Sem.run_pure, Result.andThen_ok, List.map_toArray, this, hr]) h

theorem G.len_rd {enc : β → D} {sz : Nat} {xs : List β} {x : Operand} {t e : TypeId} {v : Value} (hd : Nat.blt d n = true) (hx : ev L x = some v) (hU : ∀ w, (underlying t).run P w = .ok (.slice e) w) (hr : RdL enc sz S w v xs)
    (h : G out F n ((d, .int .i64 (xs.length : Int)) :: L) w (wpList P ops Q rest)) : G out F n L w (wpList P ops Q (⟨some d, .call { callee := .builtin .len, args := #[x], argTypes := #[t] }, ty, pos, aft, none⟩ :: rest)) :=
  G.builtin (xs := [x]) (vs := [v]) hd (by simp [evs, hx]) (fun cs => by
    obtain ⟨p, c, rfl, _⟩ := hr.form
    simp [Go.builtin, Builtin.len_, hU w, goInt]) h
theorem G.len_own {enc : β → D} {e' sz B : Nat} {xs : List β} {x : Operand} {t e : TypeId} {v : Value} (hd : Nat.blt d n = true) (hx : ev L x = some v) (hU : ∀ w, (underlying t).run P w = .ok (.slice e) w) (hr : OwnL enc e' sz B S w v xs)
    (h : G out F n ((d, .int .i64 (xs.length : Int)) :: L) w (wpList P ops Q rest)) : G out F n L w (wpList P ops Q (⟨some d, .call { callee := .builtin .len, args := #[x], argTypes := #[t] }, ty, pos, aft, none⟩ :: rest)) :=
  G.builtin (xs := [x]) (vs := [v]) hd (by simp [evs, hx]) (fun cs => by
    obtain ⟨p, c, rfl, _⟩ := hr.form
    simp [Go.builtin, Builtin.len_, hU w, goInt]) h
theorem G.len_str {x : Operand} {t : TypeId} {s : List UInt8} (hd : Nat.blt d n = true) (hx : ev L x = some (bs s)) (hU : ∀ w, (underlying t).run P w = .ok .string w)
    (h : G out F n ((d, .int .i64 (s.length : Int)) :: L) w (wpList P ops Q rest)) : G out F n L w (wpList P ops Q (⟨some d, .call { callee := .builtin .len, args := #[x], argTypes := #[t] }, ty, pos, aft, none⟩ :: rest)) :=
  G.builtin (xs := [x]) (vs := [bs s]) hd (by simp [evs, hx]) (fun cs => by
    have e : (⟨s.toArray⟩ : ByteArray).size = s.length := by show s.toArray.size = _; simp
    simp only [Go.builtin, Builtin.len_, bs, Sem.run_bind, Sem.run_pure, List.getElem?_toArray, List.getElem?_cons_zero, hU w, goInt, Result.andThen_ok, e]) h

/-! ### indexes -/
theorem run_indexAt {t e : TypeId} {p : Addr} {len c sz : Nat} {i : Int} (hU : ∀ w, (underlying t).run P w = .ok (.slice e) w) (hS : Sz P e sz) (h0 : 0 ≤ i) (h1 : i < len) :
    (Instr.indexAt t (.slice (some p) len c) (.int .i64 i)).run P w = .ok (.pointer (some (p.add (i.toNat * sz)))) w := by
  simp [Instr.indexAt, asIntOf, hU w, hS w, h0, h1]
theorem add_plain (b o k : Nat) : (⟨b, o, none⟩ : Addr).add k = ⟨b, o + k, none⟩ := by unfold Addr.add; split <;> simp_all

theorem G.at_rd {enc : β → D} {sz : Nat} {xs : List β} {x ix : Operand} {t e : TypeId} {v : Value} {i : Nat} {y : β} (hd : Nat.blt d n = true) (hx : ev L x = some v) (hi : ev L ix = some (.int .i64 (i : Int))) (hU : ∀ w, (underlying t).run P w = .ok (.slice e) w) (hS : Sz P e sz) (hr : RdL enc sz S w v xs) (hy : xs[i]? = some y)
    (h : ∀ b o cs, Cs w b o cs → cs.length = sz → Rd S w (enc y) cs → G out F n ((d, .pointer (some ⟨b, o, none⟩)) :: L) w (wpList P ops Q rest)) :
    G out F n L w (wpList P ops Q (⟨some d, .indexAddr t x ix, ty, pos, aft, none⟩ :: rest)) := by
  obtain ⟨b, o, c, c1, rfl, hC, hl, hR⟩ := hr.at hy
  have hlt := (List.getElem?_eq_some_iff.1 hy).1
  refine G.value hd (fun a ha => ?_) (h b (o + i * sz) c1 hC hl hR)
  simp only [execOp, ha.eval hx, ha.eval hi]
  refine run_value_of ?_
  rw [run_indexAt hU hS (by omega) (by omega), add_plain]; simp
theorem G.at_own {enc : β → D} {e' sz B : Nat} {xs : List β} {x ix : Operand} {t e : TypeId} {v : Value} {i : Nat} {y : β} (hd : Nat.blt d n = true) (hx : ev L x = some v) (hi : ev L ix = some (.int .i64 (i : Int))) (hU : ∀ w, (underlying t).run P w = .ok (.slice e) w) (hS : Sz P e sz) (hr : OwnL enc e' sz B S w v xs) (hy : xs[i]? = some y)
    (h : ∀ b o cs, Cs w b o cs → cs.length = sz → Rd S w (enc y) cs → G out F n ((d, .pointer (some ⟨b, o, none⟩)) :: L) w (wpList P ops Q rest)) :
    G out F n L w (wpList P ops Q (⟨some d, .indexAddr t x ix, ty, pos, aft, none⟩ :: rest)) := by
  obtain ⟨g, c, c1, rfl, hC, hl, hR, _⟩ := hr.at hy
  have hlt := (List.getElem?_eq_some_iff.1 hy).1
  refine G.value hd (fun a ha => ?_) (h g (0 + i * sz) c1 hC hl hR)
  simp only [execOp, ha.eval hx, ha.eval hi]
  refine run_value_of ?_
  rw [run_indexAt hU hS (by omega) (by omega), add_plain]; simp
theorem G.nth_rd {enc : β → D} {sz : Nat} {xs : List β} {x ix : Operand} {t e : TypeId} {v : Value} {i : Int} {F2 : β → Option α} (hd : Nat.blt d n = true) (hx : ev L x = some v) (hi : ev L ix = some (.int .i64 i)) (hU : ∀ w, (underlying t).run P w = .ok (.slice e) w) (hS : Sz P e sz) (hr : RdL enc sz S w v xs)
    (h : ∀ y b o cs, nth xs i = some y → Cs w b o cs → cs.length = sz → Rd S w (enc y) cs → G out (F2 y) n ((d, .pointer (some ⟨b, o, none⟩)) :: L) w (wpList P ops Q rest)) :
    G out ((nth xs i).bind F2) n L w (wpList P ops Q (⟨some d, .indexAddr t x ix, ty, pos, aft, none⟩ :: rest)) :=
  G.bind fun y hy => by
    obtain ⟨h0, h1, h2⟩ := nth_lt hy
    obtain ⟨k, rfl⟩ := Int.eq_ofNat_of_zero_le h0
    exact G.at_rd hd hx hi hU hS hr (by simpa using h2) fun b o cs => h y b o cs hy
theorem G.nth_own {enc : β → D} {e' sz B : Nat} {xs : List β} {x ix : Operand} {t e : TypeId} {v : Value} {i : Int} {F2 : β → Option α} (hd : Nat.blt d n = true) (hx : ev L x = some v) (hi : ev L ix = some (.int .i64 i)) (hU : ∀ w, (underlying t).run P w = .ok (.slice e) w) (hS : Sz P e sz) (hr : OwnL enc e' sz B S w v xs)
    (h : ∀ y b o cs, nth xs i = some y → Cs w b o cs → cs.length = sz → Rd S w (enc y) cs → G out (F2 y) n ((d, .pointer (some ⟨b, o, none⟩)) :: L) w (wpList P ops Q rest)) :
    G out ((nth xs i).bind F2) n L w (wpList P ops Q (⟨some d, .indexAddr t x ix, ty, pos, aft, none⟩ :: rest)) :=
  G.bind fun y hy => by
    obtain ⟨h0, h1, h2⟩ := nth_lt hy
    obtain ⟨k, rfl⟩ := Int.eq_ofNat_of_zero_le h0
    exact G.at_own hd hx hi hU hS hr (by simpa using h2) fun b o cs => h y b o cs hy
theorem G.nth_str {s : List UInt8} {x ix : Operand} {t : TypeId} {i : Int} {F2 : UInt8 → Option α} (hd : Nat.blt d n = true) (hx : ev L x = some (bs s)) (hi : ev L ix = some (.int .i64 i)) (hU : ∀ w, (underlying t).run P w = .ok .string w)
    (h : ∀ c, nth s i = some c → G out (F2 c) n ((d, .int .u8 (c.toNat : Int)) :: L) w (wpList P ops Q rest)) :
    G out ((nth s i).bind F2) n L w (wpList P ops Q (⟨some d, .index t x ix, ty, pos, aft, none⟩ :: rest)) :=
  G.bind fun c hc => by
    obtain ⟨h0, h1, h2⟩ := nth_lt hc
    refine G.value hd (fun a ha => ?_) (h c hc)
    simp only [execOp, ha.eval hx, ha.eval hi]
    refine run_value_of ?_
    have hg : (⟨s.toArray⟩ : ByteArray)[i.toNat]? = some c := by
      have hlt : i.toNat < s.length := by omega
      have : i.toNat < (⟨s.toArray⟩ : ByteArray).size := by show _ < s.toArray.size; simpa using hlt
      rw [getElem?_pos (⟨s.toArray⟩ : ByteArray) i.toNat this]
      rw [List.getElem?_eq_getElem hlt] at h2
      simpa [ByteArray.getElem_eq_getElem_data] using h2
    simp [Instr.index, asIntOf, hU w, bs, h0, hg]

/-! ### a call -/
theorem G.call {f : FuncId} {xs : List Operand} {ts : Array TypeId} {vs : List Value} {R : Value → World → Prop} (hd : Nat.blt d n = true) (hx : evs L xs = some vs) (hf : ∀ args w, (callFunc f args).run P w = .ok (.enter f args) w)
    (hc : Calls P f vs.toArray w (Rets R)) (h : ∀ v w', R v w' → G out F n ((d, v) :: L) w' (wpList P ops Q rest)) :
    G out F n L w (wpList P ops Q (⟨some d, .call { callee := .value (.func f), args := xs.toArray, argTypes := ts }, ty, pos, aft, none⟩ :: rest)) := fun hF a ha => by
  refine wpList_plain rfl fun K hK => ?_
  have he := ha.evals hx
  have hrun : (execOp a.eval ⟨some d, .call { callee := .value (.func f), args := xs.toArray, argTypes := ts }, ty, pos, aft, none⟩).run P w = .ok (.enter f vs.toArray) w := by
    simp [execOp, resolve, Deferred.ofValue, Act.eval, invoke, he, hf]
  unfold Oper.wp
  rw [hrun, Oper.upon_enter]
  refine hc.mono fun e w' hr => ?_
  obtain ⟨v, rfl, hv⟩ := hr
  exact hK _ _ (h v w' hv hF _ (ha.put v hd))

/-! ### the end of a function -/
theorem G.done1 {fn : Func} {R : Value → World → Prop} {t : Nat} {v : Value} {r : α} (hres : fn.results = #[.tmp t]) (hx : look L t = some v) (h : r = out → R v w) : G out (some r) n L w (bodyPost P fn (Rets R) .ret) := fun hF a ha => by
  refine bodyPost_ret (results_tmp hres a.tmps P w) ha.defers ⟨_, rfl, ?_⟩
  have := ha.at_ _ _ hx
  simp only [Array.getD_eq_getD_getElem?, this, Option.getD_some]
  exact h (by simpa using hF)
theorem G.done2 {fn : Func} {R : Value → World → Prop} {t u : Nat} {v v' : Value} {r : α} (hres : fn.results = #[.tmp t, .tmp u]) (hx : look L t = some v) (hy : look L u = some v') (h : r = out → R (.tuple #[v, v']) w) : G out (some r) n L w (bodyPost P fn (Rets R) .ret) := fun hF a ha => by
  refine bodyPost_ret (results_tmp2 hres a.tmps P w) ha.defers ⟨_, rfl, ?_⟩
  have h1 := ha.at_ _ _ hx
  have h2 := ha.at_ _ _ hy
  simp only [Array.getD_eq_getD_getElem?, h1, h2, Option.getD_some]
  exact h (by simpa using hF)
theorem calls_of_G {f : FuncId} {fn : Func} {c : Code} {vs : List Value} {R : Value → World → Prop} {F : Option α} {nt : Nat} (hf : P.funcs[f]? = some fn) (hb : fn.body = some c) (hn : fn.ntmps = nt) (hl : Nat.ble vs.length nt = true)
    (h : G out F nt (args0 0 vs) w (c.wp P (bodyPost P fn (Rets R)))) (hF : F = some out) : Calls P f vs.toArray w (Rets R) :=
  calls_of_wp hf hb (h hF _ (by subst hn; exact Fr.enter _ _ (Nat.le_of_ble_eq_true hl)))
end
end Go.Proofs.YtbaaojaoadjnmaeDoor.Gx
