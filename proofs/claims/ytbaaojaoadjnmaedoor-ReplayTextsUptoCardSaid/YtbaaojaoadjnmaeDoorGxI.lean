/- ReplayTexts: Text and Read of package replay give what the reference gives, for every list of choices and text of bulk at most 1048576. This text: rows that lie apart, strings. Conditions: none beyond those that the statement itself names. -/
import Derived.Test.YtbaaojaoadjnmaeDoorGxH
namespace Go.Proofs.YtbaaojaoadjnmaeDoor.Gx
open Go.RowKit
theorem dj_nil {v : Value} : ∀ k ∈ ob (.slice none 0 0), k ∉ ob v := by simp [ob_nil]
theorem dj_nil2 {v : Value} : ∀ k ∈ ob v, k ∉ ob (.slice none 0 0) := by simp [ob_nil]
theorem dj_symm {v v' : Value} (h : ∀ k ∈ ob v, k ∉ ob v') : ∀ k ∈ ob v', k ∉ ob v := fun k h1 h2 => h k h2 h1
theorem dj_new {v v' : Value} {w : World} (h : ∀ k ∈ ob v, w.heap.size ≤ k) (h2 : ∀ k ∈ ob v', k < w.heap.size) : ∀ k ∈ ob v, k ∉ ob v' := fun k h1 h3 => by have := h k h1; have := h2 k h3; omega
theorem dj_step {v v1 v' : Value} {w : World} (h : ∀ k ∈ ob v1, k ∈ ob v ∨ w.heap.size ≤ k) (h1 : ∀ k ∈ ob v, k ∉ ob v') (h2 : ∀ k ∈ ob v', k < w.heap.size) : ∀ k ∈ ob v1, k ∉ ob v' := fun k hk h3 => by
  rcases h k hk with h4 | h4
  · exact h1 k h4 h3
  · have := h2 k h3; omega
theorem nb_nil {g : Nat} : g ∉ ob (.slice none 0 0) := by simp [ob_nil]
theorem OwnL.fz {β : Type} {enc : β → D} {e sz B : Nat} {S : Nat → Prop} {w : World} {v v' : Value} {xs : List β} (h : OwnL enc e sz B S w v xs) (hd : ∀ k ∈ ob v, k ∉ ob v') : OwnL enc e sz B (fun b => S b ∨ b ∈ ob v') w v xs := by
  obtain ⟨cs, ho, hx⟩ := h.row
  refine ⟨h.born, fun b hb hs => ?_, cs, ho, ⟨RdEach.mono (fun b o hb ho => ⟨.inl hb, ho⟩) hx.1, hx.2⟩⟩
  rcases hs with hs | hs
  · exact h.apart b hb hs
  · exact hd b hb hs
theorem OwnL.up1 {β : Type} {enc : β → D} {e sz B g : Nat} {S S' : Nat → Prop} {w w' : World} {v : Value} {xs : List β} (h : OwnL enc e sz B S w v xs) (hu : Up [g] S w S' w') (hd : g ∉ ob v) : OwnL enc e sz B S' w' v xs :=
  h.up hu (fun b hb hm => by have : b = g := by simpa using hm
                             subst this; exact hd hb)
theorem Up.trans1 {W : List Nat} {g : Nat} {S1 S2 S3 : Nat → Prop} {w1 w2 w3 : World} (h : Up W S1 w1 S2 w2) (k : Up [g] S2 w2 S3 w3) (hs : g ∈ W ∨ w1.heap.size ≤ g) : Up W S1 w1 S3 w3 := h.trans k (by simpa using hs)
theorem Up.store {S : Nat → Prop} {w w' : World} {g : Nat} (hS : ∀ b, S b → b < w.heap.size) (hn : ¬ S g) (h : Le [g] w w') : Up [g] S w S w' := Up.of_le1 hS (by simpa using hn) h
theorem RdL.oneCell {β : Type} {enc : β → D} {sz : Nat} {S : Nat → Prop} {w : World} {v : Value} {xs : List β} (h : RdL enc sz S w v xs) : v.oneCell' = true := by
  obtain ⟨p, c, rfl, _⟩ := h.form; rfl
theorem OwnL.oneCell {β : Type} {enc : β → D} {e sz B : Nat} {S : Nat → Prop} {w : World} {v : Value} {xs : List β} (h : OwnL enc e sz B S w v xs) : v.oneCell' = true := by
  obtain ⟨p, c, rfl, _⟩ := h.form; rfl
theorem open_L {β : Type} {enc : β → D} {sz : Nat} {S : Nat → Prop} {w : World} {xs : List β} {cs : List Value} (h : Rd S w (eL enc sz xs) cs) : ∃ v, cs = [v] ∧ RdL enc sz S w v xs := by
  have h' := h
  unfold eL at h'
  simp only [Rd] at h'
  obtain ⟨p, c, rfl, _⟩ := h'
  exact ⟨_, rfl, h⟩
theorem RdL.cell1 {β : Type} {enc : β → D} {sz : Nat} {S : Nat → Prop} {w : World} {v : Value} {xs : List β} (h : RdL enc sz S w v xs) : v.cells = [v].toArray := by
  obtain ⟨p, c, rfl, _⟩ := h.form; rfl
theorem OwnL.cell1 {β : Type} {enc : β → D} {e sz B : Nat} {S : Nat → Prop} {w : World} {v : Value} {xs : List β} (h : OwnL enc e sz B S w v xs) : v.cells = [v].toArray := by
  obtain ⟨p, c, rfl, _⟩ := h.form; rfl
section
variable {α β : Type} {out : α} {F : Option α} {n : Nat} {L : List (Nat × Value)} {w : World} {P : Program} {Q : Exit → Act → World → Prop} {S : Nat → Prop} {K : Act → World → Prop}
variable {ops : Array Oper} {rest : List Oper} {ty : TypeId} {pos : String} {aft : Array Edge} {d : Nat}
theorem G.cat {t t' : TypeId} {x y : Operand} {a b : Str} {F2 : Str → Option α} (hd : Nat.blt d n = true) (hx : ev L x = some (bs a)) (hy : ev L y = some (bs b))
    (h : ∀ c, catl a b = some c → G out (F2 c) n ((d, bs c) :: L) w (wpList P ops Q rest)) : G out ((catl a b).bind F2) n L w (wpList P ops Q (⟨some d, .binOp .add t x y t', ty, pos, aft, none⟩ :: rest)) :=
  G.bind fun c hc => by
    obtain ⟨h1, rfl⟩ := catl_some hc
    exact G.bin hd hx hy (b_cat h1) (h _ hc)
theorem G.sub_str {x : Operand} {lo hi : Option Operand} {l h : Int} {s : Str} {t : TypeId} {F2 : Str → Option α} (hd : Nat.blt d n = true) (hx : ev L x = some (bs s)) (hU : ∀ w, (underlying t).run P w = .ok .string w)
    (hlo : match lo with | some o => ev L o = some (.int .i64 l) | none => l = 0) (hhi : match hi with | some o => ev L o = some (.int .i64 h) | none => h = (s.length : Int))
    (hk : ∀ r, sub s l h = some r → G out (F2 r) n ((d, bs r) :: L) w (wpList P ops Q rest)) : G out ((sub s l h).bind F2) n L w (wpList P ops Q (⟨some d, .slice t x lo hi none, ty, pos, aft, none⟩ :: rest)) :=
  G.bind fun r hr => by
    obtain ⟨h0, h1, h2, rfl⟩ := sub_some hr
    refine G.value hd (fun a ha => ?_) (hk _ hr)
    have e : (⟨s.toArray⟩ : ByteArray).size = s.length := by show s.toArray.size = _; simp
    have e2 : ∀ i j : Nat, (⟨s.toArray⟩ : ByteArray).extract i j = ⟨((s.take j).drop i).toArray⟩ := fun i j => by
      apply ByteArray.ext
      simp only [ByteArray.data_extract]
      apply Array.ext'
      simp only [Array.toList_extract, List.extract_eq_take_drop, List.drop_take]
    simp only [execOp, ha.eval hx]
    refine run_value_of ?_
    cases lo with
    | none =>
      simp only at hlo
      subst hlo
      cases hi with
      | none =>
        simp only at hhi
        subst hhi
        simp [Instr.sliceAt, hU w, Instr.slice, bs, Instr.sliceBounds, e, e2]
      | some o2 =>
        simp only at hhi
        simp [Instr.sliceAt, hU w, Instr.slice, bs, Instr.sliceBounds, e, e2, ha.eval hhi, Instr.sliceBound, asIntOf, h1, h2]
    | some o1 =>
      simp only at hlo
      cases hi with
      | none =>
        simp only at hhi
        subst hhi
        simp [Instr.sliceAt, hU w, Instr.slice, bs, Instr.sliceBounds, e, e2, ha.eval hlo, Instr.sliceBound, asIntOf, h0, h1]
      | some o2 =>
        simp only at hhi
        have h3 : l ≤ (h.toNat : Int) := by omega
        simp [Instr.sliceAt, hU w, Instr.slice, bs, Instr.sliceBounds, e, e2, ha.eval hlo, ha.eval hhi, Instr.sliceBound, asIntOf, h0, h1, h2, h3, show (0 : Int) ≤ h by omega]
        intro hh; exfalso; omega
end
end Go.Proofs.YtbaaojaoadjnmaeDoor.Gx
