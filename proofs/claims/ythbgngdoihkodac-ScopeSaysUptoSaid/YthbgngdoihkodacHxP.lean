/- roadstead: ScopeSays. This text: HxP. Conditions: none beyond those that the statement itself names. -/
import Derived.Test.YthbgngdoihkodacHxM
import Derived.Deep.Slices
import Derived.ChangeArms
namespace Go.Proofs.Ythbgngdoihkodac.Hx
open Go.RowKit Go.ChangeShapes Go.WideShapes

/-! ### arguments that are read, as typed data -/
structure Bulk (B : (H : Type) → DataW H → Nat) : Prop where
  one : ∀ (H : Type) (d : DataW H), 1 ≤ B H d
  str : ∀ (H : Type) (l : List UInt8), B H (.lit (.string l)) = l.length + 1
  slice : ∀ (H : Type) (l r : List (DataW H)), (l.map (B H)).sum + 1 ≤ B H (.slice l r)
  agg : ∀ (H : Type) (l : List (DataW H)), (l.map (B H)).sum + 1 ≤ B H (.agg l)

/-- a value of type t, of bulk at most N, is read as a typed one: its reading, what holds of it, its size, which is at most the bulk -/
def OpensN (P : Program) (B : (H : Type) → DataW H → Nat) (N : Nat) (t : TypeId) (sz : Nat) {T : Type} (enc : T → D) (ok : T → Prop) (m : T → Nat) : Prop :=
  ∀ {H : Type} {e : TypeId × Value → H} {w : World} {fuel : Nat} {cs : List Value} {x : DataW H × List MemPlace}, B H x.1 ≤ N → DataW.trod e P w 0 (fun _ => true) true fuel t cs = some x →
    ∃ y : T, Rd (fun b => b < w.heap.size) w (enc y) cs ∧ ok y ∧ m y ≤ B H x.1 ∧ cs.length = sz
def Opens (P : Program) (B : (H : Type) → DataW H → Nat) (t : TypeId) (sz : Nat) {T : Type} (enc : T → D) (ok : T → Prop) (m : T → Nat) : Prop := ∀ N, OpensN P B N t sz enc ok m
/-- fields, from a place on -/
def OpensF (P : Program) (B : (H : Type) → DataW H → Nat) (N : Nat) (fs : List Field) (o sz : Nat) {T : Type} (enc : T → List D) (ok : T → Prop) (m : T → Nat) : Prop :=
  ∀ {H : Type} {e : TypeId × Value → H} {w : World} {fuel : Nat} {cs : List Value} {xs : List (DataW H × List MemPlace)}, ((xs.map (·.1)).map (B H)).sum ≤ N → xs.length = fs.length →
    (∀ (i : Nat) (f : Field), fs[i]? = some f → DataW.trod e P w 0 (fun _ => true) true fuel f.type ((cs.drop f.offset).take (P.cellsOf f.type)) = xs[i]?) → cs.length = o + sz →
    ∃ y : T, RdCs (fun b => b < w.heap.size) w (enc y) (cs.drop o) ∧ ok y ∧ m y ≤ ((xs.map (·.1)).map (B H)).sum

section
variable {B : (H : Type) → DataW H → Nat}
theorem list_of {α : Type} {R : Nat → α → Prop} : ∀ {n : Nat}, (∀ i, i < n → ∃ y, R i y) → ∃ l : List α, l.length = n ∧ ∀ i y, l[i]? = some y → R i y
  | 0, _ => ⟨[], rfl, fun i y h => by simp at h⟩
  | n + 1, h => by
    obtain ⟨l, hl, hr⟩ := list_of (R := R) (n := n) (fun i hi => h i (by omega))
    obtain ⟨y, hy⟩ := h n (by omega)
    refine ⟨l ++ [y], by simp [hl], fun i z hz => ?_⟩
    by_cases hi : i < n
    · rw [List.getElem?_append_left (by omega)] at hz; exact hr i z hz
    · have : i = n := by
        have := (List.getElem?_eq_some_iff.1 hz).1
        simp [hl] at this; omega
      subst this
      rw [List.getElem?_append_right (by omega), hl, Nat.sub_self] at hz
      cases hz; exact hy
theorem each_of {T : Type} {enc : T → D} {S : Nat → Prop} {w : World} {sz : Nat} : ∀ {ys : List T} {cs : List Value} , (∀ i y, ys[i]? = some y → ∃ c1 rest, cs.drop (i * sz) = c1 ++ rest ∧ c1.length = sz ∧ Rd S w (enc y) c1) → RdEach S w sz (ys.map enc) cs
  | [], cs, _ => by simp [RdEach]
  | y :: ys, cs, h => by
    obtain ⟨c1, rest, h1, h2, h3⟩ := h 0 y rfl
    rw [Nat.zero_mul, List.drop_zero] at h1
    simp only [List.map_cons, RdEach]
    refine ⟨c1, rest, h1, h2, h3, each_of fun i z hz => ?_⟩
    obtain ⟨c2, r2, h4, h5, h6⟩ := h (i + 1) z (by simpa using hz)
    refine ⟨c2, r2, ?_, h5, h6⟩
    rw [← h4, h1, Nat.add_mul, Nat.one_mul, ← h2, Nat.add_comm, List.drop_append]
    simp
theorem sum_le {T : Type} {H : Type} {m : T → Nat} {D : Nat → DataW H} : ∀ {ys : List T} {k : Nat}, (∀ i y, ys[i]? = some y → m y ≤ B H (D (k + i))) → (ys.map m).sum ≤ (((List.range' k ys.length).map D).map (B H)).sum
  | [], _, _ => by simp
  | y :: ys, k, h => by
    have h0 := h 0 y rfl
    have := sum_le (ys := ys) (k := k + 1) (m := m) (D := D) fun i z hz => by
      have := h (i + 1) z (by simpa using hz)
      rwa [show k + (i + 1) = k + 1 + i by omega] at this
    simp only [List.map_cons, List.sum_cons, List.length_cons, List.range'_succ]
    simp only [Nat.add_zero] at h0
    omega
theorem mem_sum {α : Type} {f : α → Nat} : ∀ {l : List α} {y : α}, y ∈ l → f y ≤ (l.map f).sum
  | x :: l, y, h => by
    rcases List.mem_cons.1 h with rfl | h
    · simp
    · have := mem_sum (f := f) h; simp; omega
end
section
variable {P : Program} {B : (H : Type) → DataW H → Nat} {t : TypeId} {N : Nat}
theorem OpensN.int (hB : Bulk B) {k : IntKind} (ht : P.underlying t = some (.int k)) : OpensN P B N t 1 (eI k) (fun n => (Lit.int k n).wf = true) (fun _ => 1) := by
  intro H e w fuel cs x _ h
  obtain ⟨n, rfl, rfl, hw⟩ := DataW.trod_int ht h
  exact ⟨n, by simp [eI, Rd], hw, hB.one _ _, rfl⟩
theorem OpensN.bool (hB : Bulk B) (ht : P.underlying t = some .bool) : OpensN P B N t 1 eB (fun _ => True) (fun _ => 1) := by
  intro H e w fuel cs x _ h
  obtain ⟨b, rfl, rfl⟩ := DataW.trod_bool ht h
  exact ⟨b, by simp [eB, Rd], trivial, hB.one _ _, rfl⟩
theorem OpensN.str (hB : Bulk B) (ht : P.underlying t = some .string) : OpensN P B N t 1 eS (fun _ => True) (fun s => s.length + 1) := by
  intro H e w fuel cs x _ h
  obtain ⟨s, rfl, rfl, hs⟩ := DataW.trod_string ht h
  exact ⟨s.data.toList, by simp [eS, Rd, bs], trivial, by rw [hB.str]; exact Nat.le_refl _, rfl⟩
theorem OpensN.list (hB : Bulk B) {el : TypeId} {T : Type} {enc : T → D} {ok : T → Prop} {m : T → Nat} {sz : Nat} (ht : P.underlying t = some (.slice el)) (hc : P.cellsOf el = sz) (hz : 0 < sz) (h : ∀ n, n < N → OpensN P B n el sz enc ok m) :
    OpensN P B N t 1 (eL enc sz) (fun xs => ∀ x ∈ xs, ok x) (fun xs => (xs.map m).sum + 1) := by
  intro H e w fuel cs x hN hx
  rcases Deep.open_slice ht hx with ⟨rfl, rfl⟩ | ⟨a, len, cap, k, n, D, Pl, rfl, hb, hl, hm, hk, rfl, hel⟩
  · exact ⟨[], by simp only [eL, List.map_nil, Rd]; exact ⟨none, 0, rfl, Nat.le_refl _, by decide, .inl trivial⟩, fun x hx => absurd hx (by simp), by simpa using hB.one _ _, rfl⟩
  simp only [if_true] at hk
  subst hk
  have hS := hB.slice H ((List.range len).map D) ((List.range (k - len)).map fun j => D (len + j))
  simp only at hN
  obtain ⟨ys, hys, hR⟩ := list_of (α := T) (n := len) (R := fun i y => ∃ cs', w.cells? 0 (a.add (i * sz)) sz = some cs' ∧ Rd (fun b => b < w.heap.size) w (enc y) cs' ∧ ok y ∧ m y ≤ B H (D i) ∧ cs'.length = sz) (fun i hi => by
    obtain ⟨cs', h1, h2⟩ := hel i (by omega)
    rw [hc] at h1
    have hi2 : B H (D i) ≤ (((List.range len).map D).map (B H)).sum := mem_sum (List.mem_map.2 ⟨i, List.mem_range.2 hi, rfl⟩)
    obtain ⟨y, h3, h4, h5, h6⟩ := h (B H (D i)) (by omega) (Nat.le_refl _) h2
    exact ⟨y, cs', h1, h3, h4, h5, h6⟩)
  have hsum : (ys.map m).sum ≤ (((List.range len).map D).map (B H)).sum := by
    have := sum_le (B := B) (m := m) (D := D) (ys := ys) (k := 0) (fun i y hy => by
      obtain ⟨_, _, _, _, h5, _⟩ := hR i y hy
      simpa using h5)
    rwa [hys, ← List.range_eq_range'] at this
  refine ⟨ys, ?_, fun y hy => ?_, ?_, rfl⟩
  · simp only [eL, Rd, List.length_map, hys]
    refine ⟨_, _, rfl, hl, hm, ?_⟩
    cases ys with
    | nil => exact .inl rfl
    | cons y0 ys =>
      obtain ⟨cs0, h1, _, _, _, hl0⟩ := hR 0 y0 rfl
      obtain ⟨_, _, hcell⟩ := World.cells?_some h1
      have h0 := hcell 0 hz
      rw [Nat.zero_mul, Addr.add, if_pos rfl, Addr.add, if_pos rfl] at h0
      rw [List.getElem?_eq_getElem (by omega)] at h0
      obtain ⟨b, o, sp⟩ := a
      simp only [World.cell?] at h0
      cases hw : w.heap[b]? with
      | none => rw [hw] at h0; cases h0
      | some ob =>
        rw [hw] at h0
        cases ob with
        | cells cells T fr =>
          cases sp with
          | some s => simp at h0
          | none =>
            refine .inr ⟨b, o, cells, T, fr, rfl, lt_of_block hw, hw, each_of fun i y hy => ?_⟩
            obtain ⟨cs', h1, h2, h3, h4, h5⟩ := hR i y hy
            obtain ⟨_, _, hcell⟩ := World.cells?_some h1
            refine ⟨cs', (cells.toList.drop (o + i * sz)).drop sz, ?_, h5, h2⟩
            have hlen : ∀ j, j < sz → cells.toList[o + i * sz + j]? = cs'[j]? := fun j hj => by
              have := hcell j hj
              rw [add_plain, add_plain] at this
              simp only [World.cell?, hw] at this
              simpa using this
            rw [List.drop_drop]
            apply List.ext_getElem?
            intro j
            rw [List.getElem?_drop]
            by_cases hj : j < sz
            · rw [List.getElem?_append_left (by omega), ← hlen j hj, Nat.add_assoc]
            · rw [List.getElem?_append_right (by omega), h5, List.getElem?_drop]
              rw [List.getElem?_drop]
              congr 1; generalize i * sz = q; omega
        | _ => simp at h0
  · obtain ⟨i, hi⟩ := List.getElem?_of_mem hy
    exact (hR i y hi).elim fun _ h => h.2.2.1
  · exact Nat.le_trans (Nat.add_le_add_right hsum 1) hS
theorem OpensF.nil {o : Nat} : OpensF P B N [] o 0 (fun _ : Unit => []) (fun _ => True) (fun _ => 0) := by
  intro H e w fuel cs xs _ hl hf hc
  exact ⟨(), by simp only [RdCs]; exact List.drop_eq_nil_of_le (by omega), trivial, Nat.zero_le _⟩
theorem OpensF.cons {T0 T1 : Type} {f : Field} {fs : List Field} {o s sz : Nat} {e0 : T0 → D} {e1 : T1 → List D} {k0 : T0 → Prop} {k1 : T1 → Prop} {m0 : T0 → Nat} {m1 : T1 → Nat} (ho : f.offset = o) (hs : P.cellsOf f.type = s)
    (h0 : OpensN P B N f.type s e0 k0 m0) (h1 : OpensF P B N fs (o + s) sz e1 k1 m1) : OpensF P B N (f :: fs) o (s + sz) (fun y : T0 × T1 => (e0 y.1).cells ++ e1 y.2) (fun y => k0 y.1 ∧ k1 y.2) (fun y => m0 y.1 + m1 y.2) := by
  intro H e w fuel cs xs hN hl hf hc
  match xs, hl with
  | x :: xs, hl =>
    simp only [List.map_cons, List.sum_cons] at hN
    have g := hf 0 f rfl
    rw [ho, hs] at g
    obtain ⟨y0, r0, q0, b0, l0⟩ := h0 (by omega) g
    obtain ⟨y1, r1, q1, b1⟩ := h1 (fuel := fuel) (e := e) (w := w) (cs := cs) (xs := xs) (by omega) (by simpa using hl) (fun i f' hi => hf (i + 1) f' (by simpa using hi)) (by omega)
    refine ⟨(y0, y1), ?_, ⟨q0, q1⟩, ?_⟩
    · rw [RdCs.append]
      refine ⟨(cs.drop o).take s, cs.drop (o + s), ?_, r0.cs, r1⟩
      rw [← List.drop_drop, List.take_append_drop]
    · simp only [List.map_cons, List.sum_cons]; omega
theorem OpensN.struct (hB : Bulk B) {T0 T : Type} {fs : List Field} {sz : Nat} {e0 : T0 → List D} {k0 : T0 → Prop} {m0 : T0 → Nat} {enc : T → D} {ok : T → Prop} {m : T → Nat} (mk : T0 → T) (ht : P.underlying t = some (.struct fs.toArray)) (hc : P.cellsOf t = sz)
    (h : ∀ n, n < N → OpensF P B n fs 0 sz e0 k0 m0) (he : ∀ y, (enc (mk y)).cells = e0 y) (hok : ∀ y, k0 y → ok (mk y)) (hm : ∀ y, m (mk y) ≤ m0 y + 1) : OpensN P B N t sz enc ok m := by
  intro H e w fuel cs x hN h1
  obtain ⟨xs, n, _, rfl, hl, hx, hf⟩ := DataW.trod_struct ht h1
  have hS := hB.agg H (xs.map (·.1))
  simp only at hN
  obtain ⟨y, r, q, b⟩ := h ((xs.map (·.1)).map (B H)).sum (by omega) (fuel := n) (e := e) (w := w) (cs := cs) (xs := xs) (Nat.le_refl _) (by simpa using hx) (fun i f hi => hf i f (by simpa using hi)) (by rw [hl, hc]; omega)
  refine ⟨mk y, Rd.of_cs (by rw [he]; simpa using r), hok _ q, ?_, by rw [hl, hc]⟩
  exact Nat.le_trans (hm y) (by show m0 y + 1 ≤ B H (.agg (xs.map (·.1))); omega)
theorem OpensN.mono {sz : Nat} {T : Type} {enc : T → D} {ok ok' : T → Prop} {m m' : T → Nat} (h : OpensN P B N t sz enc ok m) (hk : ∀ y, ok y → ok' y) (hm : ∀ y, m' y ≤ m y) : OpensN P B N t sz enc ok' m' := fun {H e w fuel cs x} hN hx => by
  obtain ⟨y, r, q, b, l⟩ := h hN hx
  exact ⟨y, r, hk _ q, Nat.le_trans (hm y) b, l⟩
end
end Go.Proofs.Ythbgngdoihkodac.Hx
