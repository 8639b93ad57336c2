/- ReplayTexts: Text and Read of package replay give what the reference gives, for every list of choices and text of bulk at most 1048576. This text: arguments that are read, as typed data. Conditions: none beyond those that the statement itself names. -/
import Derived.Test.YtbaaojaoadjnmaeDoorGxN
import Derived.Deep.Slices
import Derived.ChangeArms
namespace Go.Proofs.YtbaaojaoadjnmaeDoor.Gx
open Go.RowKit Go.ChangeShapes Go.WideShapes

/-! ### arguments that are read, as typed data -/
structure Bulk (B : (H : Type) → DataW H → Nat) : Prop where
  one : ∀ (H : Type) (d : DataW H), 1 ≤ B H d
  str : ∀ (H : Type) (l : List UInt8), B H (.lit (.string l)) = l.length + 1
  slice : ∀ (H : Type) (l r : List (DataW H)), (l.map (B H)).sum + 1 ≤ B H (.slice l r)
  agg : ∀ (H : Type) (l : List (DataW H)), (l.map (B H)).sum + 1 ≤ B H (.agg l)

/-- a value of type t is read as a typed one: its reading, what holds of it, and its bulk -/
def Opens (P : Program) (B : (H : Type) → DataW H → Nat) (t : TypeId) (sz : Nat) {T : Type} (enc : T → D) (ok : T → Prop) (m : T → Nat) : Prop :=
  ∀ {H : Type} {e : TypeId × Value → H} {w : World} {fuel : Nat} {cs : List Value} {x : DataW H × List MemPlace}, DataW.trod e P w 0 (fun _ => true) true fuel t cs = some x →
    ∃ y : T, Rd (fun b => b < w.heap.size) w (enc y) cs ∧ ok y ∧ m y ≤ B H x.1 ∧ cs.length = sz

section
variable {B : (H : Type) → DataW H → Nat}
theorem list_of {α : Type} {R : Nat → α → Prop} : ∀ {n : Nat}, (∀ i, i < n → ∃ y, R i y) → ∃ l : List α, l.length = n ∧ ∀ i y, l[i]? = some y → R i y
  | 0, _ => ⟨[], rfl, fun i y h => by simp at h⟩
  | n + 1, h => by
    obtain ⟨l, hl, hr⟩ := list_of (R := R) (n := n) (fun i hi => h i (by omega))
    obtain ⟨y, hy⟩ := h n (by omega)
    refine ⟨l ++ [y], by simp [hl], fun i z hz => ?_⟩
    by_cases hi : i < n
    · rw [List.getElem?_append_left (by omega)] at hz; exact hr i z hz
    · have : i = n := by
        have := (List.getElem?_eq_some_iff.1 hz).1
        simp [hl] at this; omega
      subst this
      rw [List.getElem?_append_right (by omega), hl, Nat.sub_self] at hz
      cases hz; exact hy
theorem each_of {T : Type} {enc : T → D} {S : Nat → Prop} {w : World} {sz : Nat} : ∀ {ys : List T} {cs : List Value} , (∀ i y, ys[i]? = some y → ∃ c1 rest, cs.drop (i * sz) = c1 ++ rest ∧ c1.length = sz ∧ Rd S w (enc y) c1) → RdEach S w sz (ys.map enc) cs
  | [], cs, _ => by simp [RdEach]
  | y :: ys, cs, h => by
    obtain ⟨c1, rest, h1, h2, h3⟩ := h 0 y rfl
    rw [Nat.zero_mul, List.drop_zero] at h1
    simp only [List.map_cons, RdEach]
    refine ⟨c1, rest, h1, h2, h3, each_of fun i z hz => ?_⟩
    obtain ⟨c2, r2, h4, h5, h6⟩ := h (i + 1) z (by simpa using hz)
    refine ⟨c2, r2, ?_, h5, h6⟩
    rw [← h4, h1, Nat.add_mul, Nat.one_mul, ← h2, Nat.add_comm, List.drop_append]
    simp
theorem sum_le {T : Type} {H : Type} {m : T → Nat} {D : Nat → DataW H} : ∀ {ys : List T} {k : Nat}, (∀ i y, ys[i]? = some y → m y ≤ B H (D (k + i))) → (ys.map m).sum ≤ (((List.range' k ys.length).map D).map (B H)).sum
  | [], _, _ => by simp
  | y :: ys, k, h => by
    have h0 := h 0 y rfl
    have := sum_le (ys := ys) (k := k + 1) (m := m) (D := D) fun i z hz => by
      have := h (i + 1) z (by simpa using hz)
      rwa [show k + (i + 1) = k + 1 + i by omega] at this
    simp only [List.map_cons, List.sum_cons, List.length_cons, List.range'_succ]
    simp only [Nat.add_zero] at h0
    omega
end
section
variable {P : Program} {B : (H : Type) → DataW H → Nat} (hB : Bulk B) {t : TypeId}
include hB
theorem Opens.int {k : IntKind} (ht : P.underlying t = some (.int k)) : Opens P B t 1 (eI k) (fun n => (Lit.int k n).wf = true) (fun _ => 1) := by
  intro H e w fuel cs x h
  obtain ⟨n, rfl, rfl, hw⟩ := DataW.trod_int ht h
  exact ⟨n, by simp [eI, Rd], hw, hB.one _ _, rfl⟩
theorem Opens.bool (ht : P.underlying t = some .bool) : Opens P B t 1 eB (fun _ => True) (fun _ => 1) := by
  intro H e w fuel cs x h
  obtain ⟨b, rfl, rfl⟩ := DataW.trod_bool ht h
  exact ⟨b, by simp [eB, Rd], trivial, hB.one _ _, rfl⟩
theorem Opens.str (ht : P.underlying t = some .string) : Opens P B t 1 eS (fun _ => True) (fun s => s.length + 1) := by
  intro H e w fuel cs x h
  obtain ⟨s, rfl, rfl, hs⟩ := DataW.trod_string ht h
  exact ⟨s.data.toList, by simp [eS, Rd, bs], trivial, by rw [hB.str]; exact Nat.le_refl _, rfl⟩
theorem Opens.list {el : TypeId} {T : Type} {enc : T → D} {ok : T → Prop} {m : T → Nat} {sz : Nat} (ht : P.underlying t = some (.slice el)) (hc : P.cellsOf el = sz) (hz : 0 < sz) (h : Opens P B el sz enc ok m) :
    Opens P B t 1 (eL enc sz) (fun xs => ∀ x ∈ xs, ok x) (fun xs => (xs.map m).sum + 1) := by
  intro H e w fuel cs x hx
  rcases Deep.open_slice ht hx with ⟨rfl, rfl⟩ | ⟨a, len, cap, k, n, D, Pl, rfl, hb, hl, hm, hk, rfl, hel⟩
  · exact ⟨[], by simp only [eL, List.map_nil, Rd]; exact ⟨none, 0, rfl, Nat.le_refl _, by decide, .inl trivial⟩, fun x hx => absurd hx (by simp), by simpa using hB.one _ _, rfl⟩
  simp only [if_true] at hk
  subst hk
  obtain ⟨ys, hys, hR⟩ := list_of (α := T) (n := len) (R := fun i y => ∃ cs', w.cells? 0 (a.add (i * sz)) sz = some cs' ∧ Rd (fun b => b < w.heap.size) w (enc y) cs' ∧ ok y ∧ m y ≤ B H (D i) ∧ cs'.length = sz) (fun i hi => by
    obtain ⟨cs', h1, h2⟩ := hel i (by omega)
    rw [hc] at h1
    obtain ⟨y, h3, h4, h5, h6⟩ := h h2
    exact ⟨y, cs', h1, h3, h4, h5, h6⟩)
  have hsum : (ys.map m).sum ≤ (((List.range len).map D).map (B H)).sum := by
    have := sum_le (B := B) (m := m) (D := D) (ys := ys) (k := 0) (fun i y hy => by
      obtain ⟨_, _, _, _, h5, _⟩ := hR i y hy
      simpa using h5)
    rwa [hys, ← List.range_eq_range'] at this
  refine ⟨ys, ?_, fun y hy => ?_, ?_, rfl⟩
  · simp only [eL, Rd, List.length_map, hys]
    refine ⟨_, _, rfl, hl, hm, ?_⟩
    cases ys with
    | nil => exact .inl rfl
    | cons y0 ys =>
      obtain ⟨cs0, h1, _, _, _, hl0⟩ := hR 0 y0 rfl
      obtain ⟨_, _, hcell⟩ := World.cells?_some h1
      have h0 := hcell 0 hz
      rw [Nat.zero_mul, Addr.add, if_pos rfl, Addr.add, if_pos rfl] at h0
      rw [List.getElem?_eq_getElem (by omega)] at h0
      obtain ⟨b, o, sp⟩ := a
      simp only [World.cell?] at h0
      cases hw : w.heap[b]? with
      | none => rw [hw] at h0; cases h0
      | some ob =>
        rw [hw] at h0
        cases ob with
        | cells cells T fr =>
          cases sp with
          | some s => simp at h0
          | none =>
            refine .inr ⟨b, o, cells, T, fr, rfl, lt_of_block hw, hw, each_of fun i y hy => ?_⟩
            obtain ⟨cs', h1, h2, h3, h4, h5⟩ := hR i y hy
            obtain ⟨_, _, hcell⟩ := World.cells?_some h1
            refine ⟨cs', (cells.toList.drop (o + i * sz)).drop sz, ?_, h5, h2⟩
            have hlen : ∀ j, j < sz → cells.toList[o + i * sz + j]? = cs'[j]? := fun j hj => by
              have := hcell j hj
              rw [add_plain, add_plain] at this
              simp only [World.cell?, hw] at this
              simpa using this
            rw [List.drop_drop]
            apply List.ext_getElem?
            intro j
            rw [List.getElem?_drop]
            by_cases hj : j < sz
            · rw [List.getElem?_append_left (by omega), ← hlen j hj, Nat.add_assoc]
            · rw [List.getElem?_append_right (by omega), h5, List.getElem?_drop]
              rw [List.getElem?_drop]
              congr 1; generalize i * sz = q; omega
        | _ => simp at h0
  · obtain ⟨i, hi⟩ := List.getElem?_of_mem hy
    exact (hR i y hi).elim fun _ h => h.2.2.1
  · exact Nat.le_trans (Nat.add_le_add_right hsum 1) (hB.slice _ _ _)
theorem Opens.struct2 {T0 T1 T : Type} {f0 f1 : Field} {s0 s1 : Nat} {e0 : T0 → D} {e1 : T1 → D} {k0 : T0 → Prop} {k1 : T1 → Prop} {m0 : T0 → Nat} {m1 : T1 → Nat} {enc : T → D} {ok : T → Prop} {m : T → Nat} (mk : T0 → T1 → T)
    (ht : P.underlying t = some (.struct #[f0, f1])) (hc : P.cellsOf t = s0 + s1) (o0 : f0.offset = 0) (o1 : f1.offset = s0) (c0 : P.cellsOf f0.type = s0) (c1 : P.cellsOf f1.type = s1)
    (h0 : Opens P B f0.type s0 e0 k0 m0) (h1 : Opens P B f1.type s1 e1 k1 m1) (he : ∀ a b, enc (mk a b) = .agg [e0 a, e1 b]) (hok : ∀ a b, k0 a → k1 b → ok (mk a b)) (hm : ∀ a b, m (mk a b) ≤ m0 a + m1 b + 1) :
    Opens P B t (s0 + s1) enc ok m := by
  intro H e w fuel cs x h
  obtain ⟨xs, n, _, rfl, hl, hx, hf⟩ := DataW.trod_struct ht h
  have g0 := hf 0 f0 rfl
  have g1 := hf 1 f1 rfl
  rw [o0, c0, List.drop_zero] at g0
  rw [o1, c1] at g1
  have hx2 : xs.length = 2 := hx
  match xs, hx2, g0, g1 with
  | [x0, x1], _, g0, g1 =>
    obtain ⟨y0, r0, q0, b0, l0⟩ := h0 g0
    obtain ⟨y1, r1, q1, b1, l1⟩ := h1 g1
    refine ⟨mk y0 y1, ?_, hok _ _ q0 q1, Nat.le_trans (hm _ _) ?_, by rw [hl, hc]⟩
    · rw [he]
      simp only [Rd, RdAll]
      have hd : (cs.drop s0).take s1 = cs.drop s0 := List.take_of_length_le (by simp; omega)
      rw [hd] at r1
      exact ⟨cs.take s0, cs.drop s0, (List.take_append_drop _ _).symm, r0, cs.drop s0, [], by simp, r1, rfl⟩
    · refine Nat.le_trans ?_ (hB.agg _ _)
      simp only [List.map_cons, List.map_nil, List.sum_cons, List.sum_nil]
      omega
theorem Opens.struct3 {T0 T1 T2 T : Type} {f0 f1 f2 : Field} {s0 s1 s2 : Nat} {e0 : T0 → D} {e1 : T1 → D} {e2 : T2 → D} {k0 : T0 → Prop} {k1 : T1 → Prop} {k2 : T2 → Prop} {m0 : T0 → Nat} {m1 : T1 → Nat} {m2 : T2 → Nat} {enc : T → D} {ok : T → Prop} {m : T → Nat} (mk : T0 → T1 → T2 → T)
    (ht : P.underlying t = some (.struct #[f0, f1, f2])) (hc : P.cellsOf t = s0 + s1 + s2) (o0 : f0.offset = 0) (o1 : f1.offset = s0) (o2 : f2.offset = s0 + s1) (c0 : P.cellsOf f0.type = s0) (c1 : P.cellsOf f1.type = s1) (c2 : P.cellsOf f2.type = s2)
    (h0 : Opens P B f0.type s0 e0 k0 m0) (h1 : Opens P B f1.type s1 e1 k1 m1) (h2 : Opens P B f2.type s2 e2 k2 m2) (he : ∀ a b c, enc (mk a b c) = .agg [e0 a, e1 b, e2 c]) (hok : ∀ a b c, k0 a → k1 b → k2 c → ok (mk a b c)) (hm : ∀ a b c, m (mk a b c) ≤ m0 a + m1 b + m2 c + 1) :
    Opens P B t (s0 + s1 + s2) enc ok m := by
  intro H e w fuel cs x h
  obtain ⟨xs, n, _, rfl, hl, hx, hf⟩ := DataW.trod_struct ht h
  have g0 := hf 0 f0 rfl
  have g1 := hf 1 f1 rfl
  have g2 := hf 2 f2 rfl
  rw [o0, c0, List.drop_zero] at g0
  rw [o1, c1] at g1
  rw [o2, c2] at g2
  have hx3 : xs.length = 3 := hx
  match xs, hx3, g0, g1, g2 with
  | [x0, x1, x2], _, g0, g1, g2 =>
    obtain ⟨y0, r0, q0, b0, l0⟩ := h0 g0
    obtain ⟨y1, r1, q1, b1, l1⟩ := h1 g1
    obtain ⟨y2, r2, q2, b2, l2⟩ := h2 g2
    refine ⟨mk y0 y1 y2, ?_, hok _ _ _ q0 q1 q2, Nat.le_trans (hm _ _ _) ?_, by rw [hl, hc]⟩
    · rw [he]
      simp only [Rd, RdAll]
      have hd : (cs.drop (s0 + s1)).take s2 = cs.drop (s0 + s1) := List.take_of_length_le (by simp; omega)
      rw [hd] at r2
      refine ⟨cs.take s0, cs.drop s0, (List.take_append_drop _ _).symm, r0, (cs.drop s0).take s1, cs.drop (s0 + s1), ?_, r1, cs.drop (s0 + s1), [], by simp, r2, rfl⟩
      rw [← List.drop_drop, List.take_append_drop]
    · refine Nat.le_trans ?_ (hB.agg _ _)
      simp only [List.map_cons, List.map_nil, List.sum_cons, List.sum_nil]
      omega
end
end Go.Proofs.YtbaaojaoadjnmaeDoor.Gx
