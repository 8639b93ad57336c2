/- ReplayTexts: Text and Read of package replay give what the reference gives, for every list of choices and text of bulk at most 1048576. This text: regions that draw their order. Conditions: none beyond those that the statement itself names. -/
import Derived.Test.YtbaaojaoadjnmaeDoorGxK
import Derived.OrdersHeld
namespace Go.Proofs.YtbaaojaoadjnmaeDoor.Gx
open Go.RowKit
section
variable {α β : Type} {out : α} {F : Option α} {n : Nat} {L : List (Nat × Value)} {w : World} {P : Program} {Q : Exit → Act → World → Prop} {S : Nat → Prop} {K : Act → World → Prop}
variable {ops : Array Oper} {rest : List Oper} {op : Op} {ty : TypeId} {pos : String} {aft : Array Edge} {d : Nat}
theorem W.value {v : Value} {w' : World} (hd : Nat.blt d n = true) (hrun : ∀ a, Fr n L a → (execOp a.eval ⟨some d, op, ty, pos, aft, none⟩).run P w = .ok (.value v) w')
    (h : G out F n ((d, v) :: L) w' K) : G out F n L w (fun a w => (⟨some d, op, ty, pos, aft, none⟩ : Oper).wp P a w K Q) := fun hF a ha => by
  show Oper.wp _ _ _ _ _ _
  unfold Oper.wp
  rw [hrun a ha, Oper.upon_value]
  exact h hF _ (ha.put v hd)
theorem W.skipped {w' : World} (hrun : ∀ a, Fr n L a → (execOp a.eval ⟨none, op, ty, pos, aft, none⟩).run P w = .ok .skip w')
    (h : G out F n L w' K) : G out F n L w (fun a w => (⟨none, op, ty, pos, aft, none⟩ : Oper).wp P a w K Q) := fun hF a ha => by
  show Oper.wp _ _ _ _ _ _
  unfold Oper.wp
  rw [hrun a ha, Oper.upon_skip]
  exact h hF _ ha
theorem W.call {f : FuncId} {xs : List Operand} {ts : Array TypeId} {vs : List Value} {R : Value → World → Prop} (hd : Nat.blt d n = true) (hx : evs L xs = some vs) (hf : ∀ args w, (callFunc f args).run P w = .ok (.enter f args) w)
    (hc : Calls P f vs.toArray w (Rets R)) (h : ∀ v w', R v w' → G out F n ((d, v) :: L) w' K) :
    G out F n L w (fun a w => (⟨some d, .call { callee := .value (.func f), args := xs.toArray, argTypes := ts }, ty, pos, aft, none⟩ : Oper).wp P a w K Q) := fun hF a ha => by
  have he := ha.evals hx
  have hrun : (execOp a.eval ⟨some d, .call { callee := .value (.func f), args := xs.toArray, argTypes := ts }, ty, pos, aft, none⟩).run P w = .ok (.enter f vs.toArray) w := by
    simp [execOp, resolve, Deferred.ofValue, Act.eval, invoke, he, hf]
  show Oper.wp _ _ _ _ _ _
  unfold Oper.wp
  rw [hrun, Oper.upon_enter]
  refine hc.mono fun e w' hr => ?_
  obtain ⟨v, rfl, hv⟩ := hr
  exact h v w' hv hF _ (ha.put v hd)

theorem W.builtin {b : Builtin} {xs : List Operand} {ts : Array TypeId} {vs : List Value} {v : Value} {w' : World} (hd : Nat.blt d n = true) (hx : evs L xs = some vs)
    (hr : ∀ cs, (Go.builtin b ts ty cs vs.toArray).run P w = .ok (.value v) w') (h : G out F n ((d, v) :: L) w' K) :
    G out F n L w (fun a w => (⟨some d, .call { callee := .builtin b, args := xs.toArray, argTypes := ts }, ty, pos, aft, none⟩ : Oper).wp P a w K Q) :=
  W.value hd (fun a ha => by
    have := ha.evals hx
    simp only [execOp, resolve, invoke, Sem.run_bind, Sem.run_pure, Result.andThen_ok, List.map_toArray, this, hr]) h

theorem W.box {x : Operand} {t : TypeId} {v : Value} {cs : List Value} (hd : Nat.blt d n = true) (hx : ev L x = some v) (hc : v.cells = cs.toArray)
    (h : ∀ g w', g = w.heap.size → Le [] w w' → w'.heap[g]? = some (.cells cs.toArray t (0, 0)) → G out F n ((d, .pointer (some ⟨g, 0, none⟩)) :: L) w' K) :
    G out F n L w (fun a w => (⟨some d, .box t x, ty, pos, aft, none⟩ : Oper).wp P a w K Q) :=
  W.value (w' := w.alloc (.cells cs.toArray t)) hd (fun a ha => by
    simp only [execOp, ha.eval hx]
    exact run_value_of (by simp [Instr.box, run_newVar, hc])) (h _ _ rfl (Le.alloc _ _) (by rw [heap_alloc_new]))
theorem W.alloc {t : TypeId} {z : Value} {cs : List Value} (hd : Nat.blt d n = true) (hz : ∀ w, (zeroValue t).run P w = .ok z w) (hc : z.cells = cs.toArray)
    (h : ∀ g w', g = w.heap.size → Le [] w w' → w'.heap[g]? = some (.cells cs.toArray t (0, 0)) → G out F n ((d, .pointer (some ⟨g, 0, none⟩)) :: L) w' K) :
    G out F n L w (fun a w => (⟨some d, .alloc t, ty, pos, aft, none⟩ : Oper).wp P a w K Q) :=
  W.value (w' := w.alloc (.cells cs.toArray t)) hd (fun a ha => by
    simp only [execOp]
    exact run_value_of (by simp [Instr.alloc, hz w, run_newVar, hc])) (h _ _ rfl (Le.alloc _ _) (by rw [heap_alloc_new]))

theorem W.store {x y : Operand} {t T : TypeId} {g o : Nat} {cs c1 cs' : List Value} {v : Value} (hx : ev L x = some (.pointer (some ⟨g, o, none⟩))) (hy : ev L y = some v) (hv : v.cells = c1.toArray) (hS : Sz P t c1.length)
    (hB : w.heap[g]? = some (.cells cs.toArray T (0, 0))) (h1 : ∀ u ∈ c1, u.oneCell' = true) (hfit : o + c1.length ≤ cs.length) (hcs : cs.take o ++ c1 ++ cs.drop (o + c1.length) = cs')
    (h : ∀ w', Le [g] w w' → w'.heap[g]? = some (.cells cs'.toArray T (0, 0)) → G out F n L w' K) :
    G out F n L w (fun a w => (⟨none, .store t x y, ty, pos, aft, none⟩ : Oper).wp P a w K Q) :=
  W.skipped (w' := w.setRow g cs'.toArray) (fun a ha => by
    have hst := run_storeCells_at P g o T c1 0 cs.toArray w hB (by simpa using hfit) h1
    simp only [execOp, ha.eval hx, ha.eval hy]
    simp only [Nat.add_zero, List.toList_toArray, hcs] at hst
    simp [Instr.storeAt, Instr.sureAddr, storeVar, hv, hS w, hst]) (h _ (Le.setRow _ _ _) (by
      simp only [World.setRow]
      rw [Array.getElem?_modify, if_pos rfl, hB]; rfl))

theorem W.buildSlice {enc : β → D} {t e sz bytes m B : Nat} {z : List Value} {xs : List Operand} {vs : List Value} {ys : List β} {cs : List Value} {parts : Array (Nat × Operand)} (hd : Nat.blt d n = true) (E : Elt P t e sz bytes z) (hp : parts.toList = enum 0 xs) (hx : evs L xs = some vs) (hm : ys.length = m) (hsz : m * sz ≤ 16777216)
    (hvs : vs.length = m) (hv : ∀ v ∈ vs, v.cells.size = sz) (hc : vs.flatMap (fun v => v.cells.toList) = cs) (hr : RdX enc sz S w ys cs) (hB : B ≤ w.heap.size) (hS : ∀ b, S b → b < w.heap.size)
    (h : ∀ v w', Up [] S w S w' → OwnL enc e sz B S w' v ys → (∀ b ∈ ob v, w.heap.size ≤ b) → G out F n ((d, v) :: L) w' K) :
    G out F n L w (fun a w => (⟨some d, .buildSlice t m parts, ty, pos, aft, none⟩ : Oper).wp P a w K Q) := by
  have hlen : m ≤ maxLen := by
    have h1 : 0 < sz := E.pos
    have : m ≤ m * sz := Nat.le_mul_of_pos_right _ h1
    simp only [maxLen]; omega
  have hU : Up [] S w S (w.alloc (.cells cs.toArray e)) := Up.of_le hS (Le.alloc _ _)
  refine W.value (v := .slice (some ⟨w.heap.size, 0, none⟩) m m) (w' := w.alloc (.cells cs.toArray e)) hd (fun a ha => ?_) (h _ _ hU ⟨?_, ?_, cs, ?_, hr.up hU⟩ ?_)
  · simp only [execOp]
    refine run_value_of ?_
    have hmap : (parts.map fun (p : Nat × Operand) => (p.1, a.eval p.2)) = (enum 0 vs).toArray := by
      apply Array.ext'
      rw [Array.toList_map, hp, enum_map, ha.evals hx]
    rw [hmap, run_buildSlice E hvs hsz hv, hc]
  · intro b hb; simp [ob, Value.ownBlock] at hb; omega
  · intro b hb hs; simp [ob, Value.ownBlock] at hb; have := hS b hs; omega
  · refine ⟨by rw [hr.2], .inr ⟨w.heap.size, m, cs.toArray, by rw [hm], Nat.zero_le _, heap_alloc_new _ _, by omega, hlen, by simp [hr.2, hm], by rw [← hr.2]; simp⟩⟩
  · intro b hb; simp [ob, Value.ownBlock] at hb; omega

theorem W.append {enc : β → D} {t e sz bytes lim B : Nat} {z : List Value} {x y : Operand} {v src : Value} {xs ys : List β} {zs : List β} (hd : Nat.blt d n = true) (E : Elt P t e sz bytes z) (hx : ev L x = some v) (hy : ev L y = some src) (hlim : lim * bytes ≤ 140737488355328) (hlim2 : lim ≤ 9223372036854775807) (hOne : ∀ y : β, One (enc y))
    (ho : OwnL enc e sz B S w v xs) (hs : Src enc sz S w src ys) (hB : B ≤ w.heap.size) (hS : ∀ b, S b → b < w.heap.size)
    (hz : app lim xs ys = some zs) (h : ∀ v' w', Up (ob v) S w S w' → OwnL enc e sz B S w' v' zs → (∀ b ∈ ob v', b ∈ ob v ∨ w.heap.size ≤ b) → G out F n ((d, v') :: L) w' K) :
    G out F n L w (fun a w => (⟨some d, .call { callee := .builtin .append, args := #[x, y], argTypes := #[t, t] }, ty, pos, aft, none⟩ : Oper).wp P a w K Q) :=
  by
    obtain ⟨hle, rfl⟩ := app_some hz
    obtain ⟨cs, hown, hX⟩ := ho.row
    rcases hs with ⟨p, c, rfl, rfl⟩ | ⟨b, o, c, news, rfl, hC, hY⟩
    · have hr : ∀ cc, (Go.builtin .append #[t, t] ty cc #[v, .slice p 0 c]).run P w = .ok (.value v) w := fun cc => by
        simp [Go.builtin, run_append0 (ty := ty) E hown p c]
      refine W.builtin (xs := [x, y]) (vs := [v, .slice p 0 c]) hd (by simp [evs, hx, hy]) hr (h v w (Up.of_le1 hS ho.apart (Le.refl _ _)) (by simpa using ho) (fun b hb => .inl hb))
    · have hl : news.length = ys.length * sz := hY.2
      have hmax : xs.length + ys.length ≤ maxLen := by simp only [maxLen]; omega
      have hby : (xs.length + ys.length) * bytes ≤ 140737488355328 := Nat.le_trans (Nat.mul_le_mul_right _ hle) hlim
      obtain ⟨v', w', hr, ho', hle', hob⟩ := run_append (P := P) (w := w) (ty := ty) E hown (a := ⟨b, o, none⟩) (c := c) hl
        (fun j u hj => by rw [add_plain]; exact hC.cell hj) (RdEach.oneCell (by intro d hd; obtain ⟨y, _, rfl⟩ := List.mem_map.1 hd; exact hOne y) hY.1 (by simpa using hl)) hby hmax
      have hU : Up (ob v) S w S w' := Up.of_le1 hS ho.apart hle'
      refine W.builtin (xs := [x, y]) (vs := [v, .slice (some ⟨b, o, none⟩) ys.length c]) (v := v') (w' := w') hd (by simp [evs, hx, hy]) (fun cc => by simp [Go.builtin, hr]) (h v' w' hU ⟨?_, ?_, cs ++ news, by simpa using ho', (hX.up hU).append (hY.up hU)⟩ hob)
      · intro k hk
        rcases hob k hk with h1 | h1
        · exact ho.born k h1
        · omega
      · intro k hk hs
        rcases hob k hk with h1 | h1
        · exact ho.apart k h1 hs
        · have := hS k hs; omega

/-! ### regions that draw their order -/
/-- one operation yields v, in every world that comes of w by writing the blocks W alone -/
def Qt (P : Program) (n : Nat) (L : List (Nat × Value)) (W : List Nat) (w : World) (o : Oper) (v : Value) : Prop := ∀ w', Le W w w' → ∀ a, Fr n L a → (execOp a.eval o).run P w' = .ok (.value v) w'
variable {W : List Nat} {g : Option (Nat × Bool)} {dd : Option Nat}
theorem Q.move {x : Operand} {v : Value} (hx : ev L x = some v) : Qt P n L W w ⟨dd, .move x, ty, pos, aft, g⟩ v := fun w' _ a ha => by simp [execOp, ha.eval hx]
theorem Q.assign {x : Operand} {v : Value} (hx : ev L x = some v) : Qt P n L W w ⟨dd, .assign x, ty, pos, aft, g⟩ v := fun w' _ a ha => by simp [execOp, ha.eval hx]
theorem Q.bin {o : BinOp} {t t' : TypeId} {x y : Operand} {u v r : Value} (hx : ev L x = some u) (hy : ev L y = some v)
    (hr : ∀ w, (do eqGuard o t x y u v; binOp o t u v : Sem Value).run P w = .ok r w) : Qt P n L W w ⟨dd, .binOp o t x y t', ty, pos, aft, g⟩ r := fun w' _ a ha => by
  simp only [execOp, ha.eval hx, ha.eval hy]; exact run_value_of (hr w')
theorem Q.not {x : Operand} {t : TypeId} {b : Bool} (hx : ev L x = some (.bool b)) : Qt P n L W w ⟨dd, .unOp .not t x, ty, pos, aft, g⟩ (.bool (!b)) := fun w' _ a ha => by simp [execOp, ha.eval hx, Op.unary]
theorem Q.nilCheck {x : Operand} {p : Addr} (hx : ev L x = some (.pointer (some p))) : Qt P n L W w ⟨dd, .nilCheck x, ty, pos, aft, g⟩ (.pointer (some p)) := fun w' _ a ha => by simp [execOp, ha.eval hx]
theorem Cs.kept {w w' : World} {b o : Nat} {cs : List Value} (h : Cs w b o cs) (hl : Le W w w') (hb : b ∉ W) : Cs w' b o cs := by
  obtain ⟨cells, T, fr, rest, hw, hd⟩ := h
  exact ⟨cells, T, fr, rest, hl.kept hw hb, hd⟩
theorem Q.load1 {x : Operand} {t : TypeId} {b o j o' : Nat} {cs : List Value} {v : Value} (hx : ev L x = some (.pointer (some ⟨b, o', none⟩))) (hA : Ag P t false) (hC : Cs w b o cs) (hb : b ∉ W) (ho : o' = o + j) (hj : cs[j]? = some v) :
    Qt P n L W w ⟨dd, .load t x, ty, pos, aft, g⟩ v := fun w' hl a ha => by
  subst ho
  simp only [execOp, ha.eval hx]
  exact run_value_of (by simp [Instr.loadAt, Instr.sureAddr, run_loadVar_one hA ((hC.kept hl hb).cell hj)])
theorem Q.loadN {x : Operand} {t : TypeId} {b o j o' sz : Nat} {cs c1 : List Value} (hx : ev L x = some (.pointer (some ⟨b, o', none⟩))) (hA : Ag P t true) (hS : Sz P t sz) (hC : Cs w b o cs) (hb : b ∉ W) (ho : o' = o + j) (hj : (cs.drop j).take sz = c1) (hl : c1.length = sz) (hle : j ≤ cs.length) :
    Qt P n L W w ⟨dd, .load t x, ty, pos, aft, g⟩ (.agg c1.toArray) := fun w' hw a ha => by
  subst ho
  subst hl
  simp only [execOp, ha.eval hx]
  exact run_value_of (by simp [Instr.loadAt, Instr.sureAddr, run_loadVar_agg hA hS ((hC.kept hw hb).sub hj hle)])
theorem Q.fieldAddr {x : Operand} {t : TypeId} {b o o' f : Nat} {fs : Array Field} {fd : Field} {k : Nat} (hx : ev L x = some (.pointer (some ⟨b, o, none⟩))) (hU : ∀ w, (underlying t).run P w = .ok (.struct fs) w) (hf : fs[f]? = some fd) (hS : Sz P fd.type (k + 1)) (ho : o' = o + fd.offset) :
    Qt P n L W w ⟨dd, .fieldAddr t x f, ty, pos, aft, g⟩ (.pointer (some ⟨b, o', none⟩)) := fun w' _ a ha => by
  subst ho
  have : (⟨b, o, none⟩ : Addr).add fd.offset = ⟨b, o + fd.offset, none⟩ := add_plain _ _ _
  simp only [execOp, ha.eval hx]
  exact run_value_of (by simp [Instr.fieldAt, hU w', hf, Instr.sureAddr, fieldPlace, hS w', this])
theorem Q.len_rd {enc : β → D} {sz : Nat} {xs : List β} {x : Operand} {t e : TypeId} {v : Value} (hx : ev L x = some v) (hU : ∀ w, (underlying t).run P w = .ok (.slice e) w) (hr : RdL enc sz S w v xs) :
    Qt P n L W w ⟨dd, .call { callee := .builtin .len, args := #[x], argTypes := #[t] }, ty, pos, aft, g⟩ (.int .i64 (xs.length : Int)) := fun w' _ a ha => by
  obtain ⟨p, c, rfl, _⟩ := hr.form
  simp [execOp, resolve, invoke, ha.eval hx, Go.builtin, Builtin.len_, hU w', goInt]
theorem Q.len_str {x : Operand} {t : TypeId} {s : List UInt8} (hx : ev L x = some (bs s)) (hU : ∀ w, (underlying t).run P w = .ok .string w) :
    Qt P n L W w ⟨dd, .call { callee := .builtin .len, args := #[x], argTypes := #[t] }, ty, pos, aft, g⟩ (.int .i64 (s.length : Int)) := fun w' _ a ha => by
  have e : (⟨s.toArray⟩ : ByteArray).size = s.length := by show s.toArray.size = _; simp
  have he : a.eval x = bs s := ha.eval hx
  simp only [execOp, resolve, invoke, he, Go.builtin, Builtin.len_, bs, Sem.run_bind, Sem.run_pure, List.map_toArray, List.map_cons, List.map_nil, List.getElem?_toArray, List.getElem?_cons_zero, hU w', goInt, Result.andThen_ok, e]
theorem Q.extract {x : Operand} {i : Nat} {vs : List Value} {v : Value} (hx : ev L x = some (.tuple vs.toArray)) (hi : vs[i]? = some v) : Qt P n L W w ⟨dd, .extract x i, ty, pos, aft, g⟩ v := fun w' _ a ha => by
  simp only [execOp, ha.eval hx]
  exact run_value_of (by simp [Instr.extract, hi])
theorem Q.pick_yes {x y z : Operand} {c : Bool} {u : Value} (hx : ev L x = some (.bool c)) (hc : c = true) (hy : ev L y = some u) : Qt P n L W w ⟨dd, .pick x y z, ty, pos, aft, g⟩ u := fun w' _ a ha => by
  subst hc
  simp [execOp, ha.eval hx, asBool, ha.eval hy]
theorem Q.pick_no {x y z : Operand} {c : Bool} {u : Value} (hx : ev L x = some (.bool c)) (hc : c = false) (hy : ev L z = some u) : Qt P n L W w ⟨dd, .pick x y z, ty, pos, aft, g⟩ u := fun w' _ a ha => by
  subst hc
  simp [execOp, ha.eval hx, asBool, ha.eval hy]
theorem Q.build {t : TypeId} {parts : Array (Nat × Operand)} {pv : List (Nat × Value)} {v : Value} (hp : evp L parts.toList = some pv) (hr : ∀ w, (Instr.build t pv.toArray).run P w = .ok v w) : Qt P n L W w ⟨dd, .build t parts, ty, pos, aft, g⟩ v := fun w' _ a ha => by
  have : (parts.map fun (p : Nat × Operand) => (p.1, a.eval p.2)) = pv.toArray := by
    apply Array.ext'; rw [Array.toList_map]; exact ha.evalp hp
  simp only [execOp]
  exact run_value_of (by rw [this]; exact hr w')
theorem Q.cat {t t' : TypeId} {x y : Operand} {a b c : Str} (hx : ev L x = some (bs a)) (hy : ev L y = some (bs b)) (hc : catl a b = some c) : Qt P n L W w ⟨dd, .binOp .add t x y t', ty, pos, aft, g⟩ (bs c) := by
  obtain ⟨h1, rfl⟩ := catl_some hc
  exact Q.bin hx hy (b_cat h1)
/-- an element's address: its cells at the region's begin -/
theorem Q.nth_rd {enc : β → D} {sz : Nat} {xs : List β} {x ix : Operand} {t e : TypeId} {v : Value} {i : Int} {y : β} (hx : ev L x = some v) (hi : ev L ix = some (.int .i64 i)) (hU : ∀ w, (underlying t).run P w = .ok (.slice e) w) (hS : Sz P e sz) (hr : RdL enc sz S w v xs) (hy : nth xs i = some y)
    {C : Act → World → Prop} (h : ∀ b o cs, S b → Cs w b o cs → cs.length = sz → Rd S w (enc y) cs → (∀ dd ty pos aft g, Qt P n L W w ⟨dd, .indexAddr t x ix, ty, pos, aft, g⟩ (.pointer (some ⟨b, o, none⟩))) → G out F n L w C) : G out F n L w C := by
  obtain ⟨h0, h1, h2⟩ := nth_lt hy
  obtain ⟨k, rfl⟩ := Int.eq_ofNat_of_zero_le h0
  have h2 : xs[k]? = some y := by simpa using h2
  have hr0 := hr
  unfold RdL at hr0
  simp only [Rd] at hr0
  obtain ⟨p, c, hv, _, _, h5⟩ := hr0
  rcases h5 with h5 | ⟨b, o, cells, T, fr, rfl, hb, hw, he⟩
  · have : xs = [] := by simpa using h5
    subst this; simp at h2
  · obtain ⟨c1, rest, hd, hl, hR⟩ := RdEach.at (i := k) (d := enc y) he (by simp [h2])
    obtain rfl : v = .slice (some ⟨b, o, none⟩) xs.length c := by simpa using hv
    refine h b (o + k * sz) c1 hb ⟨cells, T, fr, rest, hw, by rw [← List.drop_drop, hd]⟩ hl hR (fun _ _ _ _ _ w' _ a ha => ?_)
    simp only [execOp, ha.eval hx, ha.eval hi]
    refine run_value_of ?_
    rw [run_indexAt hU hS (by omega) (by omega), add_plain]; simp
theorem Q.at_rd {enc : β → D} {sz : Nat} {xs : List β} {x ix : Operand} {t e : TypeId} {v : Value} {i : Nat} {y : β} (hx : ev L x = some v) (hi : ev L ix = some (.int .i64 (i : Int))) (hU : ∀ w, (underlying t).run P w = .ok (.slice e) w) (hS : Sz P e sz) (hr : RdL enc sz S w v xs) (hy : xs[i]? = some y)
    {C : Act → World → Prop} (h : ∀ b o cs, S b → Cs w b o cs → cs.length = sz → Rd S w (enc y) cs → (∀ dd ty pos aft g, Qt P n L W w ⟨dd, .indexAddr t x ix, ty, pos, aft, g⟩ (.pointer (some ⟨b, o, none⟩))) → G out F n L w C) : G out F n L w C :=
  Q.nth_rd (i := (i : Int)) hx hi hU hS hr (by unfold nth; rw [if_pos (by omega)]; simpa using hy) h

theorem G.draw {id : Nat} {l : List Oper} (W : List Nat) (hm : P.follows .mixedOrders = true) (k : Nat) (hk : l.toArray.size = k) (h : ∀ w1, Le [] w w1 → G out F n L w1 (wpAnyH P .any l.toArray Q (fun w' => Le W w1 w') k (Array.replicate k false))) : G out F n L w ((Code.region id l.toArray true).wp P Q) :=
  fun hF a ha => by subst hk; exact wp_region_held hm (h w.drew (Le.drew w) hF a ha)
theorem W.q {w0 : World} {v : Value} (hd : Nat.blt d n = true) (hq : Qt P n L W w0 ⟨some d, op, ty, pos, aft, none⟩ v) (hS : Le W w0 w) (h : G out F n ((d, v) :: L) w K) : G out F n L w (fun a w => (⟨some d, op, ty, pos, aft, none⟩ : Oper).wp P a w K Q) :=
  _root_.Go.Proofs.YtbaaojaoadjnmaeDoor.Gx.W.value hd (fun a ha => hq w hS a ha) h
theorem all_cons {p : Nat → Prop} {i : Nat} {l : List Nat} (h : p i) (hl : ∀ j ∈ l, p j) : ∀ j ∈ i :: l, p j := List.forall_mem_cons.2 ⟨h, hl⟩
theorem GH.take {w0 : World} (i : Nat) {fuel : Nat} {listed : Array Bool} {v : Value} (hi : ops[i]? = some ⟨some d, op, ty, pos, aft, none⟩) (hd : Nat.blt d n = true) (hs : Region.noSelect ops = true) (hf : Region.free .any ops listed i = true) (hr : (Region.ready .any ops listed).contains i = true)
    (hq : Qt P n L W w0 ⟨some d, op, ty, pos, aft, none⟩ v) (hS : Le W w0 w) (hQ : ∀ c a w, Q (.panic c) (a.put (some d) v) w → Q (.panic c) a w)
    (h : G out F n ((d, v) :: L) w (wpAnyH P .any ops Q (fun w' => Le W w0 w') fuel (listed.setIfInBounds i true))) : G out F n L w (wpAnyH P .any ops Q (fun w' => Le W w0 w') (fuel + 1) listed) := fun hF a ha =>
  wpAnyH_take hi hs hf hr hQ (.inl ⟨rfl, fun w' hw' => hq w' hw' a ha⟩) hS (h hF _ (ha.put v hd))
theorem GH.take_y {w0 : World} (i : Nat) {fuel : Nat} {listed : Array Bool} {v : Value} {gi dg : Nat} {b c : Bool} (hi : ops[i]? = some ⟨some d, op, ty, pos, aft, some (gi, b)⟩) (hd : Nat.blt d n = true) (hs : Region.noSelect ops = true) (hf : Region.free .any ops listed i = true) (hr : (Region.ready .any ops listed).contains i = true)
    (ho : (ops[gi]?).bind (·.dst) = some dg) (hv : look L dg = some (.bool c)) (hc : c = b)
    (hq : Qt P n L W w0 ⟨some d, op, ty, pos, aft, some (gi, b)⟩ v) (hS : Le W w0 w) (hQ : ∀ c a w, Q (.panic c) (a.put (some d) v) w → Q (.panic c) a w)
    (h : G out F n ((d, v) :: L) w (wpAnyH P .any ops Q (fun w' => Le W w0 w') fuel (listed.setIfInBounds i true))) : G out F n L w (wpAnyH P .any ops Q (fun w' => Le W w0 w') (fuel + 1) listed) := fun hF a ha => by
  have hy : yielded ops a.tmps gi = some b := yielded_of ho (by rw [← hc]; exact ha.at_ _ _ hv)
  exact wpAnyH_take hi hs hf hr hQ (.inl ⟨by simp [Region.wanted, hy], fun w' hw' => hq w' hw' a ha⟩) hS (h hF _ (ha.put v hd))
theorem GH.take_n {w0 : World} (i : Nat) {fuel : Nat} {listed : Array Bool} {gi dg : Nat} {b c : Bool} (hi : ops[i]? = some ⟨some d, op, ty, pos, aft, some (gi, b)⟩) (hd : Nat.blt d n = true) (hs : Region.noSelect ops = true) (hf : Region.free .any ops listed i = true) (hr : (Region.ready .any ops listed).contains i = true)
    (ho : (ops[gi]?).bind (·.dst) = some dg) (hv : look L dg = some (.bool c)) (hc : c = !b)
    (hS : Le W w0 w) (hQ : ∀ c a w, Q (.panic c) (a.put (some d) undef) w → Q (.panic c) a w)
    (h : G out F n ((d, undef) :: L) w (wpAnyH P .any ops Q (fun w' => Le W w0 w') fuel (listed.setIfInBounds i true))) : G out F n L w (wpAnyH P .any ops Q (fun w' => Le W w0 w') (fuel + 1) listed) := fun hF a ha => by
  have hy : yielded ops a.tmps gi = some c := yielded_of ho (ha.at_ _ _ hv)
  exact wpAnyH_take hi hs hf hr hQ (.inr ⟨by subst hc; cases b <;> simp [Region.wanted, hy], rfl⟩) hS (h hF _ (ha.put undef hd))
theorem GH.all {w0 : World} (rs : List Nat) {fuel : Nat} {listed : Array Bool} (hr : Region.ready .any ops listed = rs) (hne : rs ≠ [])
    (h : ∀ i ∈ rs, G out F n L w (wpOp P ops Q i (fun a' w' => Le W w0 w' ∧ wpAnyH P .any ops Q (fun w' => Le W w0 w') fuel (listed.setIfInBounds i true) a' w'))) : G out F n L w (wpAnyH P .any ops Q (fun w' => Le W w0 w') (fuel + 1) listed) := fun hF a ha =>
  wpAnyH_all hr hne fun i hi => h i hi hF a ha
theorem GH.run {i : Nat} {o : Oper} (hi : ops[i]? = some o) (hg : o.guard = none) (h : G out F n L w (fun a w => o.wp P a w K Q)) : G out F n L w (wpOp P ops Q i K) := fun hF a ha => by
  unfold wpOp
  rw [hi]
  simp only [Region.wanted, hg, if_true]
  exact .inl (h hF a ha)
theorem GH.and {C' : World → Prop} {K : Act → World → Prop} (hC : C' w) (h : G out F n L w K) : G out F n L w (fun a w => C' w ∧ K a w) := fun hF a ha => ⟨hC, h hF a ha⟩
theorem GH.done {w0 : World} {fuel : Nat} {listed : Array Bool} (hr : Region.ready .any ops listed = []) (h : G out F n L w (Q .normal)) : G out F n L w (wpAnyH P .any ops Q (fun w' => Le W w0 w') fuel listed) := fun hF a ha => wpAnyH_done hr (h hF a ha) fuel
/-- a part is told by J -/
theorem G.cutc {c : Code} (J : Act → World → Prop) (h1 : G () (some ()) n L w (c.wp P (Exit.then J Q))) (h2 : ∀ a w', J a w' → F = some out → Q .normal a w') : G out F n L w (c.wp P Q) := fun hF a ha => by
  refine wp_mono (h1 rfl a ha) fun e a' w' hq => ?_
  cases e with
  | normal => exact h2 a' w' hq hF
  | exit id => exact hq
  | goto l => exact hq
  | ret => exact hq
  | panic c => exact hq
  | outgrown => exact hq
end
end Go.Proofs.YtbaaojaoadjnmaeDoor.Gx
