/- roadstead: ScopeSays. This text: HxF. Conditions: none beyond those that the statement itself names. -/
import Derived.Test.YthbgngdoihkodacHxE
namespace Go.Proofs.Ythbgngdoihkodac.Hx
open Go.RowKit
/-! ### leafs that are one cell -/
inductive One1 (R : List Res) : D → Prop
  | val {v : Value} (h : v.oneCell' = true) : One1 R (.val v)
  | row {v : Value} {e sz i : Nat} {ds : List D} (h : R[i]? = some (.row v e sz ds)) : One1 R (.val v)
  | err {b : Bool} : One1 R (.err b)
  | ptr {d : D} : One1 R (.ptr d)
  | rp {v : Value} {o : Nat} : One1 R (.rp v o)
  | sl {sz : Nat} {xs : List D} : One1 R (.sl sz xs)
theorem One1.leaf {R : List Res} {d : D} (h : One1 R d) : d.leaf = true := by cases h <;> rfl
theorem One1.one {R : List Res} {d : D} {S : Nat → Prop} {w : World} {v : Value} (h : One1 R d) (hok : ∀ r ∈ R, r.ok S w) (hr : Rd S w d [v]) : v.oneCell' = true := by
  cases h with
  | val h => simp only [Rd] at hr; have := List.singleton_inj.1 hr; subst this; exact h
  | row h =>
    simp only [Rd] at hr
    have := List.singleton_inj.1 hr
    subst this
    obtain ⟨cs, hrow, _⟩ := hok _ (List.mem_of_getElem? h)
    obtain ⟨p, c, rfl, _⟩ := hrow.form
    rfl
  | err => simp only [Rd] at hr; obtain ⟨u, h1, h2⟩ := hr; have := List.singleton_inj.1 h1; subst this; rcases h2 with ⟨_, rfl⟩ | ⟨_, t, p, rfl⟩ <;> rfl
  | ptr => simp only [Rd] at hr; obtain ⟨b, o, cells, T, fr, c1, c2, h1, _⟩ := hr; have := List.singleton_inj.1 h1; subst this; rfl
  | rp => simp only [Rd] at hr; obtain ⟨b, o0, n0, c0, _, h1⟩ := hr; have := List.singleton_inj.1 h1; subst this; rfl
  | sl => simp only [Rd] at hr; obtain ⟨p, c, h1, _⟩ := hr; have := List.singleton_inj.1 h1; subst this; rfl
theorem cells_one {v : Value} (h : v.oneCell' = true) : v.cells = [v].toArray := by cases v <;> first | rfl | cases h
/-- all leafs of a datum -/
def OneC (R : List Res) (d : D) : Prop := ∀ c ∈ d.cells, One1 R c
theorem OneC.leaf {R : List Res} {d : D} (h : One1 R d) : OneC R d := by
  have hl := h.leaf
  cases d <;> first | (cases hl; done) | (intro c hc; simp only [D.cells, List.mem_singleton] at hc; subst hc; exact h)
theorem OneC.agg {R : List Res} {ds : List D} (h : ∀ c ∈ ds, One1 R c) : OneC R (.agg ds) := h
theorem One1.mono {R : List Res} {d : D} (h : One1 [] d) : One1 R d := by
  cases h with
  | val h => exact .val h
  | row h => simp at h
  | err => exact .err
  | ptr => exact .ptr
  | rp => exact .rp
  | sl => exact .sl
theorem OneC.one {R : List Res} {S : Nat → Prop} {w : World} (hok : ∀ r ∈ R, r.ok S w) : ∀ {ds : List D} {cs : List Value}, (∀ d ∈ ds, One1 R d) → RdCs S w ds cs → ∀ u ∈ cs, u.oneCell' = true
  | [], cs, h, hr, u, hu => by simp only [RdCs] at hr; subst hr; cases hu
  | d :: ds, cs, h, hr, u, hu => by
    simp only [RdCs] at hr
    obtain ⟨v, cs', rfl, h1, h2⟩ := hr
    rcases List.mem_cons.1 hu with rfl | hu
    · exact (h d (by simp)).one hok h1
    · exact OneC.one hok (fun x hx => h x (by simp [hx])) h2 u hu
/-- a value's cells -/
theorem RdV.cells {R : List Res} {S : Nat → Prop} {w : World} {d : D} {v : Value} (ho : OneC R d) (hok : ∀ r ∈ R, r.ok S w) (h : RdV S w d v) : ∃ cs, v.cells = cs.toArray ∧ RdCs S w d.cells cs ∧ ∀ u ∈ cs, u.oneCell' = true := by
  cases d with
  | agg ds =>
    simp only [RdV] at h
    obtain ⟨cs, rfl, hr⟩ := h
    exact ⟨cs, rfl, hr, OneC.one hok ho hr⟩
  | tup ds => exact absurd (ho (.tup ds) (by simp [D.cells])) (fun h => nomatch h)
  | _ =>
    have hr := (RdV.leaf rfl).1 h
    have h1 := (ho _ (by simp [D.cells])).one hok hr
    exact ⟨[v], cells_one h1, RdCs.one.2 hr, by simpa using h1⟩

section
variable {Γ L : List (Nat × D)} {P : Program} {n : Nat} {R : List Res} {dd : Option Nat} {ty : TypeId} {pos : String} {aft : Array Edge} {g : Option (Nat × Bool)} {β : Type}
/-! ### elements -/
theorem rp_eval {S : Nat → Prop} {w : World} {a : Act} {x : Operand} {o b o0 n0 c0 : Nat} (ha : Fr n S w L a) (hg : Globs Γ S w) (hx : ev Γ L x = some (.rp (.slice (some ⟨b, o0, none⟩) n0 (c0 + 1)) o)) : a.eval x = .pointer (some ⟨b, o0 + o, none⟩) := by
  have h := ha.eval hg hx
  simp only [RdV, Rd] at h
  obtain ⟨b', o1, n1, c1, h2, h1⟩ := h
  have h1 := List.singleton_inj.1 h1
  cases h2
  exact h1
theorem V.load_row {x : Operand} {t e : TypeId} {v : Value} {o i sz k j : Nat} {ds : List D} {d d' : D} (hx : ev Γ L x = some (.rp v o)) (hi : R[i]? = some (.row v e sz ds)) (ho : k * sz + j = o) (hd : ds[k]? = some d) (hj : d.cells[j]? = some d') (hl : d'.leaf = true) (hA : Ag P t false) : Qv Γ P n L R ⟨dd, .load t x, ty, pos, aft, g⟩ d' := fun S w W a ha hs => by
  subst ho
  have hm : Res.row v e sz ds ∈ R := List.mem_of_getElem? hi
  obtain ⟨b, o, c, cs, rfl, hC, hlen, hr⟩ := Res.row_at (hs.ok _ hm) hd
  have h1 := rp_eval ha hs.glob hx
  have hb : b ∉ W := hs.off b (mem_fps_of hm b (by simp [Res.fp, ob]))
  obtain ⟨u, h3, h4⟩ := hr.cs.at hj
  refine ⟨u, (RdV.leaf hl).2 h4, fun w' hw => ?_⟩
  simp only [execOp, h1]
  have hc := (hC.kept hw hb).cell (j := j) h3
  rw [Nat.add_assoc] at hc
  exact run_value_of (by simp [Instr.loadAt, Instr.sureAddr, run_loadVar_one hA hc])
theorem V.load_rowN {x : Operand} {t e : TypeId} {v : Value} {o i sz k j m : Nat} {ds c1 : List D} {d : D} (hx : ev Γ L x = some (.rp v o)) (hi : R[i]? = some (.row v e sz ds)) (ho : k * sz + j = o) (hd : ds[k]? = some d) (hj : (d.cells.drop j).take m = c1) (hl : c1.length = m) (hle : Nat.ble j d.cells.length = true) (hA : Ag P t true) (hS : Sz P t m) : Qv Γ P n L R ⟨dd, .load t x, ty, pos, aft, g⟩ (.agg c1) := fun S w W a ha hs => by
  subst ho
  have hm : Res.row v e sz ds ∈ R := List.mem_of_getElem? hi
  obtain ⟨b, o, c, cs, rfl, hC, hlen, hr⟩ := Res.row_at (hs.ok _ hm) hd
  have h1 := rp_eval ha hs.glob hx
  have hb : b ∉ W := hs.off b (mem_fps_of hm b (by simp [Res.fp, ob]))
  have h3 : RdCs S w c1 ((cs.drop j).take m) := hj ▸ (hr.cs.drop j).take m
  have hlen2 := h3.length
  refine ⟨.agg ((cs.drop j).take m).toArray, ⟨_, rfl, h3⟩, fun w' hw => ?_⟩
  simp only [execOp, h1]
  have hC2 := (hC.kept hw hb).sub (j := j) (sz := m) rfl (by rw [hr.length]; exact Nat.le_of_ble_eq_true hle)
  rw [Nat.add_assoc] at hC2
  have hS' : Sz P t ((cs.drop j).take m).length := by rw [hlen2, hl]; exact hS
  exact run_value_of (by simp only [Instr.loadAt, Instr.sureAddr, Sem.run_bind, Sem.run_pure, Result.andThen_ok, run_loadVar_agg hA hS' hC2])

/-! ### indexes -/
theorem sl_form {S : Nat → Prop} {w : World} {sz : Nat} {xs : List D} {v : Value} (h : RdV S w (.sl sz xs) v) : ∃ p c, v = .slice p xs.length c ∧ xs.length ≤ c ∧ c ≤ maxLen := by
  simp only [RdV, Rd] at h
  obtain ⟨p, c, h1, h2, h3, _⟩ := h
  exact ⟨p, c, List.singleton_inj.1 h1, h2, h3⟩
theorem sl_at {S : Nat → Prop} {w : World} {sz k : Nat} {xs : List D} {v : Value} {d : D} (h : RdV S w (.sl sz xs) v) (hd : xs[k]? = some d) : ∃ b o c, v = .slice (some ⟨b, o, none⟩) xs.length c ∧ Rd S w (.ptr d) [.pointer (some ⟨b, o + k * sz, none⟩)] := by
  simp only [RdV, Rd] at h
  obtain ⟨p, c, h1, h2, h3, h4⟩ := h
  have h1 := List.singleton_inj.1 h1
  rcases h4 with h4 | ⟨b, o, cells, T, fr, rfl, hb, hw, he⟩
  · subst h4; simp at hd
  · have key : ∀ {ds : List D} {cs : List Value} {k : Nat} {d : D}, RdEach S w sz ds cs → ds[k]? = some d → ∃ c1 rest, cs.drop (k * sz) = c1 ++ rest ∧ c1.length = sz ∧ Rd S w d c1 := by
      intro ds
      induction ds with
      | nil => intro cs k d _ hd; simp at hd
      | cons d0 ds ih =>
        intro cs k d h hd
        simp only [RdEach] at h
        obtain ⟨c1, c2, rfl, hl, h1, h2⟩ := h
        cases k with
        | zero =>
          simp only [List.getElem?_cons_zero, Option.some.injEq] at hd
          subst hd
          exact ⟨c1, c2, by simp, hl, h1⟩
        | succ k =>
          obtain ⟨e1, rest, he, hl', hr⟩ := ih (k := k) h2 (by simpa using hd)
          refine ⟨e1, rest, ?_, hl', hr⟩
          rw [← he, Nat.succ_mul, Nat.add_comm, ← List.drop_drop]
          congr 1
          rw [← hl]; simp
    obtain ⟨c1, rest, h5, h6, h7⟩ := key he hd
    refine ⟨b, o, c, h1, ?_⟩
    simp only [Rd]
    exact ⟨b, o + k * sz, cells, T, fr, c1, rest, rfl, hb, hw, by rw [← List.drop_drop, h5], h7⟩
theorem V.at_sl {sz k : Nat} {xs : List D} {x ix : Operand} {t e : TypeId} {d : D} (hx : ev Γ L x = some (.sl sz xs)) (hi : ev Γ L ix = some (.val (.int .i64 (k : Int)))) (hU : ∀ w, (underlying t).run P w = .ok (.slice e) w) (hS : Sz P e sz) (hd : xs[k]? = some d) :
    Qp Γ P n L ⟨dd, .indexAddr t x ix, ty, pos, aft, g⟩ (.ptr d) := fun S w a ha hg => by
  obtain ⟨b, o, c, h1, h2⟩ := sl_at (ha.eval hg hx) hd
  have hlt := (List.getElem?_eq_some_iff.1 hd).1
  refine ⟨_, by simpa only [RdV] using h2, fun w' => ?_⟩
  simp only [execOp, h1, ev_val ha hg hi]
  refine run_value_of ?_
  rw [run_indexAt hU hS (by omega) (by omega), add_plain]; simp
theorem map_at {enc : β → D} {xs : List β} {k : Nat} {y : β} (h : xs[k]? = some y) : (xs.map enc)[k]? = some (enc y) := by simp [h]
theorem nth_at {enc : β → D} {xs : List β} {i : Int} {y : β} (h : nth xs i = some y) : ∃ k : Nat, i = (k : Int) ∧ (xs.map enc)[k]? = some (enc y) := by
  obtain ⟨h0, h1, h2⟩ := nth_lt h
  obtain ⟨k, rfl⟩ := Int.eq_ofNat_of_zero_le h0
  exact ⟨k, rfl, map_at (by simpa using h2)⟩
theorem V.nth_sl {enc : β → D} {sz : Nat} {xs : List β} {x ix : Operand} {t e : TypeId} {i : Int} {y : β} (hx : ev Γ L x = some (eL enc sz xs)) (hi : ev Γ L ix = some (.val (.int .i64 i))) (hU : ∀ w, (underlying t).run P w = .ok (.slice e) w) (hS : Sz P e sz) (hy : nth xs i = some y) :
    Qp Γ P n L ⟨dd, .indexAddr t x ix, ty, pos, aft, g⟩ (.ptr (enc y)) := by
  obtain ⟨k, rfl, hk⟩ := nth_at (enc := enc) hy
  exact V.at_sl hx hi hU hS hk
/-- a place in a row of the call's own -/
theorem V.at_row {sz k i : Nat} {ds : List D} {x ix : Operand} {t e e' : TypeId} {v : Value} (hx : ev Γ L x = some (.val v)) (hi : R[i]? = some (.row v e' sz ds)) (hk : ev Γ L ix = some (.val (.int .i64 (k : Int)))) (hU : ∀ w, (underlying t).run P w = .ok (.slice e) w) (hS : Sz P e sz) (hlt : k < ds.length) :
    Qv Γ P n L R ⟨dd, .indexAddr t x ix, ty, pos, aft, g⟩ (.rp v (k * sz)) := fun S w W a ha hs => by
  have hm : Res.row v e' sz ds ∈ R := List.mem_of_getElem? hi
  obtain ⟨b, o, c, cs, rfl, _⟩ := Res.row_at (hs.ok _ hm) (List.getElem?_eq_getElem hlt)
  refine ⟨.pointer (some ⟨b, o + k * sz, none⟩), by simp only [RdV, Rd]; exact ⟨b, o, _, c, rfl, rfl⟩, fun w' _ => ?_⟩
  simp only [execOp, ev_val ha hs.glob hx, ev_val ha hs.glob hk]
  refine run_value_of ?_
  rw [run_indexAt hU hS (by omega) (by omega), add_plain]; simp
theorem V.nth_row {enc : β → D} {sz j : Nat} {xs : List β} {x ix : Operand} {t e e' : TypeId} {v : Value} {i : Int} {y : β} (hx : ev Γ L x = some (.val v)) (hj : R[j]? = some (.row v e' sz (xs.map enc))) (hi : ev Γ L ix = some (.val (.int .i64 i))) (hU : ∀ w, (underlying t).run P w = .ok (.slice e) w) (hS : Sz P e sz) (hy : nth xs i = some y) :
    Qv Γ P n L R ⟨dd, .indexAddr t x ix, ty, pos, aft, g⟩ (.rp v (i.toNat * sz)) := by
  obtain ⟨k, rfl, hk⟩ := nth_at (enc := enc) hy
  exact V.at_row hx hj hi hU hS (List.getElem?_eq_some_iff.1 hk).1
theorem V.nth_str {s : List UInt8} {x ix : Operand} {t : TypeId} {i : Int} {c : UInt8} (hx : ev Γ L x = some (.val (bs s))) (hi : ev Γ L ix = some (.val (.int .i64 i))) (hU : ∀ w, (underlying t).run P w = .ok .string w) (hc : nth s i = some c) :
    Qp Γ P n L ⟨dd, .index t x ix, ty, pos, aft, g⟩ (eI .u8 (c.toNat : Int)) := fun S w a ha hg => by
  obtain ⟨h0, h1, h2⟩ := nth_lt hc
  refine ⟨_, RdV.val.2 rfl, fun w' => ?_⟩
  simp only [execOp, ev_val ha hg hx, ev_val ha hg hi]
  refine run_value_of ?_
  have hg : (⟨s.toArray⟩ : ByteArray)[i.toNat]? = some c := by
    have hlt : i.toNat < s.length := by omega
    have : i.toNat < (⟨s.toArray⟩ : ByteArray).size := by show _ < s.toArray.size; simpa using hlt
    rw [getElem?_pos (⟨s.toArray⟩ : ByteArray) i.toNat this]
    rw [List.getElem?_eq_getElem hlt] at h2
    simpa [ByteArray.getElem_eq_getElem_data] using h2
  simp [Instr.index, asIntOf, hU w', bs, h0, hg]

/-! ### lengths -/
theorem V.len_sl {enc : β → D} {sz : Nat} {xs : List β} {x : Operand} {t e : TypeId} (hx : Ev Γ L x (eL enc sz xs)) (hU : ∀ w, (underlying t).run P w = .ok (.slice e) w) :
    Qp Γ P n L ⟨dd, .call { callee := .builtin .len, args := #[x], argTypes := #[t] }, ty, pos, aft, g⟩ (eI .i64 (xs.length : Int)) := fun S w a ha hg => by
  obtain ⟨p, c, h1, _⟩ := sl_form (hx.eval ha hg)
  exact ⟨_, RdV.val.2 rfl, fun w' => by simp [execOp, resolve, invoke, h1, Go.builtin, Builtin.len_, hU w', goInt]⟩
theorem V.len_row {enc : β → D} {sz j : Nat} {xs : List β} {x : Operand} {t e e' : TypeId} {v : Value} (hx : ev Γ L x = some (.val v)) (hj : R[j]? = some (.row v e' sz (xs.map enc))) (hU : ∀ w, (underlying t).run P w = .ok (.slice e) w) :
    Qv Γ P n L R ⟨dd, .call { callee := .builtin .len, args := #[x], argTypes := #[t] }, ty, pos, aft, g⟩ (eI .i64 (xs.length : Int)) := fun S w W a ha hs => by
  obtain ⟨cs, hrow, _⟩ := hs.ok _ (List.mem_of_getElem? hj)
  obtain ⟨p, c, rfl, _⟩ := hrow.form
  have h1 := ev_val ha hs.glob hx
  exact ⟨_, RdV.val.2 rfl, fun w' _ => by simp [execOp, resolve, invoke, h1, Go.builtin, Builtin.len_, hU w', goInt]⟩
theorem V.len_str {x : Operand} {t : TypeId} {s : Str} (hx : ev Γ L x = some (.val (bs s))) (hU : ∀ w, (underlying t).run P w = .ok .string w) :
    Qp Γ P n L ⟨dd, .call { callee := .builtin .len, args := #[x], argTypes := #[t] }, ty, pos, aft, g⟩ (eI .i64 (s.length : Int)) := fun S w a ha hg => by
  have e : (⟨s.toArray⟩ : ByteArray).size = s.length := by show s.toArray.size = _; simp
  have he : a.eval x = bs s := ev_val ha hg hx
  exact ⟨_, RdV.val.2 rfl, fun w' => by
    simp only [execOp, resolve, invoke, he, Go.builtin, Builtin.len_, bs, Sem.run_bind, Sem.run_pure, List.map_toArray, List.map_cons, List.map_nil, List.getElem?_toArray, List.getElem?_cons_zero, hU w', goInt, Result.andThen_ok, e]⟩

/-! ### parts -/
theorem V.sub_str {x : Operand} {lo hi : Option Operand} {l h : Int} {s r : Str} {t : TypeId} (hx : ev Γ L x = some (.val (bs s))) (hU : ∀ w, (underlying t).run P w = .ok .string w)
    (hlo : match lo with | some o => ev Γ L o = some (.val (.int .i64 l)) | none => l = 0) (hhi : match hi with | some o => ev Γ L o = some (.val (.int .i64 h)) | none => h = (s.length : Int))
    (hr : sub s l h = some r) : Qp Γ P n L ⟨dd, .slice t x lo hi none, ty, pos, aft, g⟩ (eS r) := fun S w a ha hg => by
    obtain ⟨h0, h1, h2, rfl⟩ := sub_some hr
    have e : (⟨s.toArray⟩ : ByteArray).size = s.length := by show s.toArray.size = _; simp
    have e2 : ∀ i j : Nat, (⟨s.toArray⟩ : ByteArray).extract i j = ⟨((s.take j).drop i).toArray⟩ := fun i j => by
      apply ByteArray.ext
      simp only [ByteArray.data_extract]
      apply Array.ext'
      simp only [Array.toList_extract, List.extract_eq_take_drop, List.drop_take]
    refine ⟨_, RdV.val.2 rfl, fun w' => ?_⟩
    simp only [execOp, ev_val ha hg hx]
    refine run_value_of ?_
    cases lo with
    | none =>
      simp only at hlo
      subst hlo
      cases hi with
      | none =>
        simp only at hhi
        subst hhi
        simp [Instr.sliceAt, hU w', Instr.slice, bs, Instr.sliceBounds, e, e2]
      | some o2 =>
        simp only at hhi
        simp [Instr.sliceAt, hU w', Instr.slice, bs, Instr.sliceBounds, e, e2, ev_val ha hg hhi, Instr.sliceBound, asIntOf, h1, h2]
    | some o1 =>
      simp only at hlo
      cases hi with
      | none =>
        simp only at hhi
        subst hhi
        simp [Instr.sliceAt, hU w', Instr.slice, bs, Instr.sliceBounds, e, e2, ev_val ha hg hlo, Instr.sliceBound, asIntOf, h0, h1]
      | some o2 =>
        simp only at hhi
        have h3 : l ≤ (h.toNat : Int) := by omega
        simp [Instr.sliceAt, hU w', Instr.slice, bs, Instr.sliceBounds, e, e2, ev_val ha hg hlo, ev_val ha hg hhi, Instr.sliceBound, asIntOf, h0, h1, h2, h3, show (0 : Int) ≤ h by omega]
        intro hh; exfalso; omega
theorem RdEach.drop {A : Nat → Prop} {w : World} {sz : Nat} : ∀ (k : Nat) {ds : List D} {cs : List Value}, RdEach A w sz ds cs → RdEach A w sz (ds.drop k) (cs.drop (k * sz))
  | 0, ds, cs, h => by simpa using h
  | k + 1, [], cs, h => by simp [RdEach]
  | k + 1, d :: ds, cs, h => by
    simp only [RdEach] at h
    obtain ⟨c1, c2, rfl, hs, h1, h2⟩ := h
    have := RdEach.drop k h2
    rw [List.drop_succ_cons, Nat.succ_mul, Nat.add_comm, ← List.drop_drop]
    rw [show (c1 ++ c2).drop sz = c2 by rw [← hs]; simp]
    exact this
theorem RdEach.take {A : Nat → Prop} {w : World} {sz : Nat} : ∀ (k : Nat) {ds : List D} {cs : List Value}, RdEach A w sz ds cs → RdEach A w sz (ds.take k) cs
  | 0, ds, cs, h => by simp [RdEach]
  | k + 1, [], cs, h => by simp [RdEach]
  | k + 1, d :: ds, cs, h => by
    simp only [RdEach, List.take_succ_cons] at h ⊢
    obtain ⟨c1, c2, rfl, hs, h1, h2⟩ := h
    exact ⟨c1, c2, rfl, hs, h1, RdEach.take k h2⟩
/-- the bounds of a slice operation -/
def Bd (Γ L : List (Nat × D)) (o : Option Operand) (dflt : Int) (i : Int) : Prop := match o with | some o => ev Γ L o = some (.val (.int .i64 i)) | none => i = dflt
theorem run_slice {t e : TypeId} {sz len c i j : Nat} {p : Option Addr} {lo hi : Option Operand} {a : Act} {S : Nat → Prop} {w : World} (hU : ∀ w, (underlying t).run P w = .ok (.slice e) w) (hS : Sz P e sz) (ha : Fr n S w L a) (hg : Globs Γ S w)
    (hlo : Bd Γ L lo 0 i) (hhi : Bd Γ L hi (len : Int) j) (hij : i ≤ j) (hjc : j ≤ c) (hlen : len ≤ c) {x : Operand} (hx : a.eval x = .slice p len c) (w' : World) :
    (execOp a.eval ⟨dd, .slice t x lo hi none, ty, pos, aft, g⟩).run P w' = .ok (.value (.slice (if c = i then p else p.map (·.add (i * sz))) (j - i) (c - i))) w' := by
  simp only [execOp, hx]
  refine run_value_of ?_
  unfold Bd at hlo hhi
  cases lo with
  | none =>
    simp only [Int.natCast_eq_zero] at hlo
    subst hlo
    cases hi with
    | none =>
      simp only [Int.natCast_inj] at hhi
      subst hhi
      simp [Instr.sliceAt, hU w', Instr.slice, Instr.sliceBounds, hS w']
    | some o2 =>
      simp only at hhi
      simp [Instr.sliceAt, hU w', Instr.slice, Instr.sliceBounds, hS w', ev_val ha hg hhi, Instr.sliceBound, asIntOf, hjc]
  | some o1 =>
    simp only at hlo
    cases hi with
    | none =>
      simp only [Int.natCast_inj] at hhi
      subst hhi
      simp [Instr.sliceAt, hU w', Instr.slice, Instr.sliceBounds, hS w', ev_val ha hg hlo, Instr.sliceBound, asIntOf, hij]
    | some o2 =>
      simp only at hhi
      simp [Instr.sliceAt, hU w', Instr.slice, Instr.sliceBounds, hS w', ev_val ha hg hlo, ev_val ha hg hhi, Instr.sliceBound, asIntOf, hij, hjc]
theorem V.sub_sl {enc : β → D} {sz : Nat} {xs r : List β} {x : Operand} {lo hi : Option Operand} {l h : Int} {t e : TypeId} (hx : Ev Γ L x (eL enc sz xs)) (hU : ∀ w, (underlying t).run P w = .ok (.slice e) w) (hS : Sz P e sz)
    (hlo : Bd Γ L lo 0 l) (hhi : Bd Γ L hi (xs.length : Int) h) (hr' : sub xs l h = some r) : Qp Γ P n L ⟨dd, .slice t x lo hi none, ty, pos, aft, g⟩ (eL enc sz r) := fun S w a ha hg => by
    obtain ⟨h0, h1, h2, rfl⟩ := sub_some hr'
    obtain ⟨i, rfl⟩ := Int.eq_ofNat_of_zero_le h0
    obtain ⟨j, rfl⟩ := Int.eq_ofNat_of_zero_le (Int.le_trans h0 h1)
    have hij : i ≤ j := by omega
    have hj : j ≤ xs.length := by omega
    have hr := hx.eval ha hg
    simp only [eL, RdV, Rd, List.length_map] at hr
    obtain ⟨p, c, hv, h3, h4, h5⟩ := hr
    have hv := List.singleton_inj.1 hv
    have hjc : j ≤ c := by omega
    refine ⟨.slice (if c = i then p else p.map (·.add (i * sz))) (j - i) (c - i), ?_, fun w' => run_slice hU hS ha hg hlo hhi hij hjc h3 hv w'⟩
    simp only [Int.toNat_natCast, eL, RdV, Rd, List.length_map]
    have hlen : ((xs.take j).drop i).length = j - i := by simp; omega
    rw [hlen]
    refine ⟨_, c - i, rfl, by omega, by omega, ?_⟩
    rcases h5 with h5 | ⟨b, o, cells, T, fr, rfl, hb, hw, he⟩
    · left
      have : xs = [] := by simpa using h5
      subst this; simp
    · by_cases hz : j = i
      · left
        subst hz
        simp
      · right
        have hci : ¬ c = i := by omega
        refine ⟨b, o + i * sz, cells, T, fr, ?_, hb, hw, ?_⟩
        · rw [if_neg hci]; simp [add_plain]
        · have h6 := RdEach.drop i (RdEach.take j he)
          rw [List.drop_drop] at h6
          simpa [List.map_drop, List.map_take] using h6
end
end Go.Proofs.Ythbgngdoihkodac.Hx
