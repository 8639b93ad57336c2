/- roadstead: ScopeSays. This text: HxS. Conditions: none beyond those that the statement itself names. -/
import Derived.Test.YthbgngdoihkodacHxM
import Derived.Shelf.Sort.Plain
import Derived.Shelf.Slices.CompactS
import Derived.Shelf.Slices.In.SortNone
import Derived.Lib.RowBridge
namespace Go.Proofs.Ythbgngdoihkodac.Hx
open Go.RowKit Go.Shelf Go.Sort Go.Proofs
theorem RdEach.strs {S : Nat → Prop} {w : World} : ∀ {ss : List Str} {cs : List Value}, RdEach S w 1 (ss.map eS) cs → cs.length = ss.length * 1 → cs = ss.map bs
  | [], cs, h, hl => List.eq_nil_of_length_eq_zero (by simpa using hl)
  | s :: ss, cs, h, hl => by
    simp only [List.map_cons, RdEach] at h
    obtain ⟨c1, c2, rfl, h1, h2, h3⟩ := h
    simp only [eS, Rd] at h2
    subst h2
    have := RdEach.strs (ss := ss) (cs := c2) h3 (by simp at hl ⊢; omega)
    rw [this]; rfl
theorem RdEach.of_strs {S : Nat → Prop} {w : World} : ∀ (ss : List Str), RdEach S w 1 (ss.map eS) (ss.map bs)
  | [] => by simp [RdEach]
  | s :: ss => by
    simp only [List.map_cons, RdEach]
    exact ⟨[bs s], _, rfl, rfl, by simp [eS, Rd], RdEach.of_strs ss⟩
/-- a row of texts is put down anew -/
theorem put_row {w : World} {g o e : Nat} {cur : Array Value} (hb : w.heap[g]? = some (.cells cur e)) {d : List Str} (hd : o + d.length ≤ cur.size) (q : Nat) (os : Array Obj) :
    Le [g] w (grow (putRow encStr (Sort.ahead w q) g o d.toArray) os) ∧ ∃ cur' : Array Value, (grow (putRow encStr (Sort.ahead w q) g o d.toArray) os).heap[g]? = some (.cells cur' e) ∧ cur'.size = cur.size ∧ (cur'.toList.drop o).take d.length = d.map bs := by
  have hlt : g < w.heap.size := lt_of_block hb
  have hg : (grow (putRow encStr (Sort.ahead w q) g o d.toArray) os).heap[g]? = some (.cells (putCells encStr o d.toArray cur) e) := by
    simp only [grow, putRow, mapBlock, Sort.ahead]
    rw [Array.getElem?_append_left (by simpa using hlt), Array.getElem?_modify, if_pos rfl, hb]
    rfl
  refine ⟨⟨rfl, rfl, rfl, by simp [grow, putRow, mapBlock, Sort.ahead], fun k hk hn => ?_⟩, _, hg, by simp [putCells], ?_⟩
  · have hne : g ≠ k := fun e => hn (by simp [e])
    simp only [grow, putRow, mapBlock, Sort.ahead]
    rw [Array.getElem?_append_left (by simpa using hk), Array.getElem?_modify, if_neg hne]
  · apply List.ext_getElem?
    intro j
    by_cases hj : j < d.length
    · rw [List.getElem?_take_of_lt hj, List.getElem?_drop]
      have h1 : o + j < cur.size := by omega
      simp [putCells, h1, hj, bs, encStr]
    · rw [List.getElem?_eq_none (by simp; omega), List.getElem?_eq_none (by simp; omega)]
theorem row_holds {S : Nat → Prop} {w : World} {v : Value} {e : Nat} {ss : List Str} (h : Res.ok S w (.row v e 1 (ss.map eS))) : (∃ p, v = .slice p 0 0 ∧ ss = []) ∨
    ∃ g o c cur, v = .slice (some ⟨g, o, none⟩) ss.length (c + 1) ∧ ss.length ≤ c + 1 ∧ c + 1 ≤ maxLen ∧ w.heap[g]? = some (.cells cur e) ∧ o + (c + 1) ≤ cur.size ∧ Holds encStr w g o ss.toArray := by
  obtain ⟨cs, ⟨h1, p, c, rfl, h2, h3, h4⟩, h5⟩ := h
  simp only [List.length_map] at *
  have hcs := h5.strs h1
  subst hcs
  rcases h4 with rfl | ⟨g, o, cur, rfl, hc, hb, ho, ht⟩
  · have : ss = [] := List.eq_nil_of_length_eq_zero (by omega)
    subst this
    exact .inl ⟨p, rfl, rfl⟩
  · obtain ⟨c, rfl⟩ : ∃ c', c = c' + 1 := ⟨c - 1, by omega⟩
    refine .inr ⟨g, o, c, cur, rfl, h2, h3, hb, by simpa using ho, fun j hj => ?_⟩
    have hj' : j < ss.length := by simpa using hj
    have hC : Cs w g o (ss.map bs) := ⟨cur, e, _, (cur.toList.drop o).drop (ss.length * 1), hb, by rw [← ht, List.take_append_drop]⟩
    refine ⟨?_, by simp [World.frozen?, hb]⟩
    have := hC.cell (j := j) (v := bs ss[j]) (by simp [hj'])
    rw [this]; simp [hj', bs, encStr]
section
variable {Γ : List (Nat × D)} {P : Program} {ρ : Ren}
def sortF (ss : List Str) : Option (List Str) := if ss.length < 4611686018427387904 then some (ss.mergeSort fun x y => decide (x ≤ y)) else none
theorem sort_ct (L : Lays.n190 P ρ) {e : Nat} {v : Value} {ss out : List Str} (h : sortF ss = some out) : Ct Γ P (ρ.f 190) [.val v] [.row v e 1 (ss.map eS)] (fun _ : Unit => .tup []) (fun _ => [.row v e 1 (out.map eS)]) := fun S w vs hv hs => by
  unfold sortF at h
  split at h
  · rename_i hlen
    simp only [Option.some.injEq] at h
    subst h
    simp only [RdVs] at hv
    obtain ⟨u, vs', rfl, hu, rfl⟩ := hv
    rw [RdV.val] at hu; subst hu
    have hok := hs.ok _ (List.mem_singleton.2 rfl)
    have htup : ∀ S w, RdV S w (.tup []) (.tuple #[]) := fun S w => by simp only [RdV, RdVs]; exact ⟨[], rfl, rfl⟩
    rcases row_holds hok with ⟨p, rfl, rfl⟩ | ⟨g, o, c, cur, rfl, h1, h2, hb, ho, hH⟩
    · refine (Any.slices_Sort_string_none L p 0 w).mono ?_
      rintro e' w' ⟨rfl, rfl⟩
      exact ⟨_, rfl, (), S, htup _ _, by simpa using hs⟩
    · refine (Any.slices_Sort_string L g o (c + 1) ss w hH (lt_of_block hb) hlen).mono ?_
      rintro e' w' ⟨rfl, q, os, rfl⟩
      have hsl : (ss.mergeSort fun x y => decide (x ≤ y)).length = ss.length := List.length_mergeSort _
      obtain ⟨hle, cur', hb', hsz, hcells⟩ := put_row (o := o) hb (d := ss.mergeSort fun x y => decide (x ≤ y)) (by rw [hsl]; omega) q os
      have hsz2 : o + (c + 1) * 1 ≤ cur'.size := by rw [hsz]; omega
      refine ⟨_, rfl, (), S, htup _ _, ?_⟩
      have := hs.set (i := 0) (r' := .row (.slice (some ⟨g, o, none⟩) ss.length (c + 1)) e 1 ((ss.mergeSort fun x y => decide (x ≤ y)).map eS)) rfl hle
        ⟨_, ⟨by simp [hsl], some ⟨g, o, none⟩, c + 1, by simp [hsl], by simpa [hsl] using h1, h2, .inr ⟨g, o, cur', rfl, by omega, hb', hsz2, by simpa using hcells⟩⟩, RdEach.of_strs _⟩ (ob_nodup (.slice (some ⟨g, o, none⟩) ss.length (c + 1))) (fun b hb => .inl hb)
      simpa using this
  · cases h
theorem compact_ct (L : Lays.n194 P ρ) {e : Nat} {v : Value} {ss out : List Str} (h : some (Lib.compact ss) = some out) : Ct Γ P (ρ.f 194) [.val v] [.row v e 1 (ss.map eS)] (fun x : Value => .val x) (fun x => [.row x e 1 (out.map eS)]) := fun S w vs hv hs => by
  simp only [Option.some.injEq] at h
  subst h
  simp only [RdVs] at hv
  obtain ⟨u, vs', rfl, hu, rfl⟩ := hv
  rw [RdV.val] at hu; subst hu
  have hok := hs.ok _ (List.mem_singleton.2 rfl)
  rcases row_holds hok with ⟨p, rfl, rfl⟩ | ⟨g, o, c, cur, rfl, h1, h2, hb, ho, hH⟩
  · refine (Any.slices_Compact_string_empty L p 0 w).mono ?_
    rintro e' w' ⟨rfl, rfl⟩
    exact ⟨_, rfl, _, S, RdV.val.2 rfl, by simpa [Lib.compact, Lib.compactUpTo] using hs⟩
  · refine (Any.slices_Compact_string L g o (c + 1) ss w hH (by simp only [maxLen] at h2; omega) h1).mono ?_
    rintro e' w' ⟨rfl, q, rfl⟩
    have hcl := Lib.compact_length_le ss
    have hdl : (Lib.compact ss ++ List.replicate (ss.length - (Lib.compact ss).length) ([] : Str)).length = ss.length := by simp; omega
    obtain ⟨hle, cur', hb', hsz, hcells⟩ := put_row (o := o) hb (d := Lib.compact ss ++ List.replicate (ss.length - (Lib.compact ss).length) []) (by rw [hdl]; omega) q #[]
    have hsz2 : o + (c + 1) * 1 ≤ cur'.size := by rw [hsz]; omega
    simp only [grow_empty] at hle hb'
    refine ⟨_, rfl, _, S, RdV.val.2 rfl, ?_⟩
    have hpre : (cur'.toList.drop o).take (Lib.compact ss).length = (Lib.compact ss).map bs := by
      have h5 := congrArg (List.take (Lib.compact ss).length) hcells
      rw [List.take_take, hdl, Nat.min_eq_left hcl, List.map_append, List.take_left' (by simp)] at h5
      exact h5
    have := hs.set (i := 0) (r' := .row (.slice (some ⟨g, o, none⟩) (Lib.compact ss).length (c + 1)) e 1 ((Lib.compact ss).map eS)) rfl hle
      ⟨_, ⟨by simp, some ⟨g, o, none⟩, c + 1, by simp, by simp; omega, h2, .inr ⟨g, o, cur', rfl, by omega, hb', hsz2, by simpa using hpre⟩⟩, RdEach.of_strs _⟩ (ob_nodup (.slice (some ⟨g, o, none⟩) (Lib.compact ss).length (c + 1))) (fun b hb => .inl hb)
    simpa using this
end
end Go.Proofs.Ythbgngdoihkodac.Hx
