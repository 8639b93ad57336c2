/- roadstead: ScopeSays. This text: HxL. Conditions: none beyond those that the statement itself names. -/
import Derived.Test.YthbgngdoihkodacHxK
namespace Go.Proofs.Ythbgngdoihkodac.Hx
open Go.RowKit
section
variable {Γ L : List (Nat × D)} {P : Program} {n : Nat} {R : List Res} {dd : Option Nat} {ty : TypeId} {pos : String} {aft : Array Edge} {g : Option (Nat × Bool)} {β : Type} {Q : Exit → Act → World → Prop} {enc : β → D}
/-! ### rows of typed elements -/
theorem nth_get {xs : List β} {i : Int} {y : β} (h : nth xs i = some y) : xs[i.toNat]? = some y := (nth_lt h).2.2
theorem V.rowT1 {x : Operand} {t e : TypeId} {v : Value} {o i sz j : Nat} {xs : List β} {y : β} (k : Nat) {d' : D} (hx : ev Γ L x = some (.rp v o)) (hi : R[i]? = some (.row v e sz (xs.map enc))) (hy : xs[k]? = some y) (ho : k * sz + j = o) (hj : (enc y).cells[j]? = some d') (hl : d'.leaf = true) (hA : Ag P t false) : Qv Γ P n L R ⟨dd, .load t x, ty, pos, aft, g⟩ d' :=
  V.load_row hx hi ho (map_at hy) hj hl hA
theorem V.rowTN {x : Operand} {t e : TypeId} {v : Value} {o i sz j m : Nat} {xs : List β} {y : β} (k : Nat) {c c1 : List D} (hx : ev Γ L x = some (.rp v o)) (hi : R[i]? = some (.row v e sz (xs.map enc))) (hy : xs[k]? = some y) (ho : k * sz + j = o) (hc : (enc y).cells = c) (hj : (c.drop j).take m = c1) (hl : c1.length = m) (hle : Nat.ble j c.length = true) (hA : Ag P t true) (hS : Sz P t m) : Qv Γ P n L R ⟨dd, .load t x, ty, pos, aft, g⟩ (.agg c1) :=
  V.load_rowN hx hi ho (map_at hy) (by rw [hc]; exact hj) hl (by rw [hc]; exact hle) hA hS
theorem V.atT_row {sz k i : Nat} {xs : List β} {x ix : Operand} {t e e' : TypeId} {v : Value} {y : β} (hx : ev Γ L x = some (.val v)) (hi : R[i]? = some (.row v e' sz (xs.map enc))) (hk : ev Γ L ix = some (.val (.int .i64 (k : Int)))) (hU : ∀ w, (underlying t).run P w = .ok (.slice e) w) (hS : Sz P e sz) (hy : xs[k]? = some y) :
    Qv Γ P n L R ⟨dd, .indexAddr t x ix, ty, pos, aft, g⟩ (.rp v (k * sz)) := V.at_row hx hi hk hU hS (by simpa using (List.getElem?_eq_some_iff.1 hy).1)
theorem O.rowT {x y : Operand} {t e : TypeId} {v : Value} {o i sz j m : Nat} {xs : List β} (k : Nat) {y0 y1 : β} {c0 c1 cd : List D} {d : D} (hx : ev Γ L x = some (.rp v o)) (hy : Ev Γ L y d) (hi : R[i]? = some (.row v e sz (xs.map enc))) (hk : xs[k]? = some y0) (ho : k * sz + j = o) (h1 : OneC R d) (hS : Sz P t m) (hcd : d.cells = cd) (hl : cd.length = m) (hfit : Nat.ble (j + m) sz = true) (hc0 : (enc y0).cells = c0) (hl0 : c0.length = sz) (hc1 : (enc y1).cells = c1) (hput : putAt c0 j cd = c1) :
    Op1 Γ P n L R ⟨none, .store t x y, ty, pos, aft, none⟩ Q (fun _ : Unit => .val undef) (fun _ => R.set i (.row v e sz ((xs.set k y1).map enc))) := by
  rw [List.map_set]
  exact O.store_row hx hy hi ho (map_at hk) h1 hS (by rw [hcd]; exact hl) (Nat.le_of_ble_eq_true hfit) (by rw [hc0]; exact hl0) (by rw [hc0, hc1, hcd]; exact hput)
/-- n elements that are zero -/
def zeros (z : β) (m : Int) : Option (List β) := if 0 ≤ m ∧ m ≤ 1099511627776 then some (List.replicate m.toNat z) else none
theorem O.makeSlice {t e sz bytes : Nat} {z : List Value} {x y : Operand} {zz : β} {m : Int} {ys : List β} (E : Elt P t e sz bytes z) (hb : bytes ≤ 256) (hx : ev Γ L x = some (.val (.int .i64 m))) (hy : ev Γ L y = some (.val (.int .i64 m))) (hz : ∀ S w, Rd S w (enc zz) z) (hm : zeros zz m = some ys) :
    Op1 Γ P n L R ⟨dd, .makeSlice t x y, ty, pos, aft, none⟩ Q (fun v : Value => .val v) (fun v => .row v e sz (ys.map enc) :: R) := Op1.run fun B a S w ha hs => by
  unfold zeros at hm
  split at hm
  · rename_i hmm
    simp only [Option.some.injEq] at hm
    subst hm
    obtain ⟨k, rfl⟩ := Int.eq_ofNat_of_zero_le hmm.1
    obtain ⟨i, zv, hi, hzv, hs0, hb0, hzc⟩ := E.info
    have hk : k ≤ 1099511627776 := by omega
    have hk63 : k ≤ maxLen := by simp only [maxLen]; omega
    have hby : (i.bytes : Int) * (k : Int) ≤ 281474976710656 := by
      rw [hb0]
      have h1 : bytes * k ≤ 256 * 1099511627776 := Nat.mul_le_mul hb hk
      have h2 : ((bytes * k : Nat) : Int) ≤ ((256 * 1099511627776 : Nat) : Int) := Int.ofNat_le.2 h1
      rw [Int.natCast_mul] at h2
      refine Int.le_trans h2 (by decide)
    have hr := run_make (P := P) w t e i zv E.sl hi hzv .i64 .i64 (k : Int) (k : Int) (by omega) (Int.le_refl _) hby (by simp only [maxLen] at hk63; omega)
    simp only [Int.toNat_natCast] at hr
    have hsz : (madeCells zv.cells (k * i.size)).size = k * i.size := size_madeCells _ _
    have hpos := E.pos
    have hlz : zv.cells.size = sz := by rw [hzc]; simp [E.len]
    -- each element is zero
    have hcell : ∀ j, j < k * sz → (madeCells zv.cells (k * i.size)).toList[j]? = z[j % sz]? := by
      intro j hj
      rw [hs0]
      have hj2 : j % sz < sz := Nat.mod_lt _ hpos
      simp [madeCells, hzc, E.len, hj, hj2, List.getElem?_eq_getElem, Array.getElem!_eq_getD, Array.getD_eq_getD_getElem?]
    have hlist : ∀ q, q * sz ≤ k * sz → (madeCells zv.cells (k * i.size)).toList.take (q * sz) = (List.replicate q z).flatten := by
      intro q hq
      apply List.ext_getElem?
      intro j
      by_cases hj : j < q * sz
      · rw [List.getElem?_take_of_lt hj, hcell j (by omega)]
        clear hq hcell
        induction q generalizing j with
        | zero => simp at hj
        | succ q ih =>
          rw [List.replicate_succ, List.flatten_cons]
          by_cases hjs : j < sz
          · rw [List.getElem?_append_left (by rw [E.len]; exact hjs), Nat.mod_eq_of_lt hjs]
          · rw [List.getElem?_append_right (by rw [E.len]; omega), E.len]
            have := ih (j - sz) (by rw [Nat.succ_mul] at hj; omega)
            rw [← this]
            congr 1
            rw [Nat.mod_eq_sub_mod (by omega)]
      · rw [List.getElem?_eq_none (by simp; omega), List.getElem?_eq_none]
        simp [E.len]; omega
    have hE : ∀ q, RdEach S w sz (List.replicate q (enc zz)) (List.replicate q z).flatten := by
      intro q
      induction q with
      | zero => simp [RdEach]
      | succ q ih =>
        rw [List.replicate_succ, List.replicate_succ, List.flatten_cons]
        simp only [RdEach]
        exact ⟨z, _, rfl, E.len, hz S w, ih⟩
    have hle : Le [] w (w.alloc (.cells (madeCells zv.cells (k * i.size)) e)) := Le.alloc _ _
    have hfull : (madeCells zv.cells (k * i.size)).toList = (List.replicate k z).flatten := by
      have := hlist k (Nat.le_refl _)
      rw [List.take_of_length_le (by rw [Array.length_toList, hsz, hs0]; exact Nat.le_refl _)] at this
      exact this
    refine ⟨.slice (some ⟨w.heap.size, 0, none⟩) k k, _, w.alloc (.cells (madeCells zv.cells (k * i.size)) e), ?_, le_none hle, RdV.val.2 rfl, hs.add hle ⟨(List.replicate k z).flatten, ⟨by simp [E.len], some ⟨w.heap.size, 0, none⟩, k, by simp, by simp, hk63, ?_⟩, ?_⟩ (ob_nodup _) ?_⟩
    · simp only [execOp, ev_val ha hs.glob hx, ev_val ha hs.glob hy]
      exact run_value_of hr
    · rcases Nat.eq_zero_or_pos k with h | h
      · exact .inl h
      · refine .inr ⟨w.heap.size, 0, _, rfl, h, heap_alloc_new _ _, by rw [hsz, hs0]; omega, ?_⟩
        rw [List.drop_zero, hfull, List.take_of_length_le (by simp [E.len])]
    · simp only [Int.toNat_natCast, List.map_replicate]
      exact (hE k).up (Up.of_le (W := []) hs.live (by simp) hle)
    · intro b hb
      simp only [Res.fp] at hb
      unfold ob at hb
      split at hb
      · rename_i h; cases h; simp at hb; omega
      · cases hb
  · cases hm
/-! ### text as bytes, numbers as they are -/
theorem V.shift {o : BinOp} {t t' : TypeId} {x y : Operand} {u v r : Value} (hx : ev Γ L x = some (.val u)) (hy : ev Γ L y = some (.val v))
    (hr : ∀ w, (do eqGuard o t x y u v; binOp o t u v : Sem Value).run P w = .ok r w) : Qp Γ P n L ⟨dd, .binOp o t x y t', ty, pos, aft, g⟩ (.val r) := V.bin hx hy hr
end
end Go.Proofs.Ythbgngdoihkodac.Hx
