/- ReplayTexts: Text and Read of package replay give what the reference gives, for every list of choices and text of bulk at most 1048576. This text: guards. Conditions: none beyond those that the statement itself names. -/
import Derived.Test.YtbaaojaoadjnmaeDoorGxE
namespace Go.Proofs.YtbaaojaoadjnmaeDoor.Gx
open Go.RowKit
abbrev Str := List UInt8
/-! ### data, encoded -/
def eI (k : IntKind) (x : Int) : D := .val (.int k x)
def eB (x : Bool) : D := .val (.bool x)
def eS (x : Str) : D := .val (bs x)
def eL {β : Type} (enc : β → D) (sz : Nat) (xs : List β) : D := .slice sz (xs.map enc)

theorem RdL.up {β : Type} {enc : β → D} {sz : Nat} {W : List Nat} {S S' : Nat → Prop} {w w' : World} {v : Value} {xs : List β} (h : RdL enc sz S w v xs) (hu : Up W S w S' w') : RdL enc sz S' w' v xs := Rd.up h hu
theorem RdL.more {β : Type} {enc : β → D} {sz : Nat} {S S' : Nat → Prop} {w : World} {v : Value} {xs : List β} (h : RdL enc sz S w v xs) (hs : ∀ b, S b → S' b) : RdL enc sz S' w v xs := Rd.more h hs

section
variable {α β : Type} {out : α} {F : Option α} {n : Nat} {L : List (Nat × Value)} {w : World} {P : Program} {Q : Exit → Act → World → Prop} {S : Nat → Prop}
variable {ops : Array Oper} {rest : List Oper} {ty : TypeId} {pos : String} {aft : Array Edge} {d : Nat}

/-! ### guards, picks -/
theorem yielded_of {a : Act} {gi dg : Nat} {b : Bool} (ho : (ops[gi]?).bind (·.dst) = some dg) (hv : a.tmps[dg]? = some (.bool b)) : yielded ops a.tmps gi = some b := by
  simp [yielded, ho, hv]
theorem G.guard_yes {o : Op} {dst : Option Nat} {gi dg : Nat} {b c : Bool} (ho : (ops[gi]?).bind (·.dst) = some dg) (hv : look L dg = some (.bool c)) (hc : c = b)
    (h : G out F n L w (wpList P ops Q (⟨dst, o, ty, pos, aft, none⟩ :: rest))) : G out F n L w (wpList P ops Q (⟨dst, o, ty, pos, aft, some (gi, b)⟩ :: rest)) := fun hF a ha => by
  have h1 := h hF a ha
  have hy : yielded ops a.tmps gi = some b := yielded_of ho (by rw [← hc]; exact ha.at_ _ _ hv)
  unfold wpList at h1 ⊢
  simp only [Region.wanted, if_true] at h1
  have : Region.wanted ⟨dst, o, ty, pos, aft, some (gi, b)⟩ (yielded ops a.tmps) = true := by simp [Region.wanted, hy]
  rw [if_pos this]
  exact h1
theorem G.guard_no {o : Op} {dst : Option Nat} {gi dg : Nat} {b c : Bool} (ho : (ops[gi]?).bind (·.dst) = some dg) (hv : look L dg = some (.bool c)) (hc : c ≠ b) (hd : ∀ d, dst = some d → Nat.blt d n = true)
    (h : G out F n (match dst with | some d => (d, undef) :: L | none => L) w (wpList P ops Q rest)) : G out F n L w (wpList P ops Q (⟨dst, o, ty, pos, aft, some (gi, b)⟩ :: rest)) := fun hF a ha => by
  have hy : yielded ops a.tmps gi = some c := yielded_of ho (ha.at_ _ _ hv)
  unfold wpList
  have : ¬ Region.wanted ⟨dst, o, ty, pos, aft, some (gi, b)⟩ (yielded ops a.tmps) = true := by simp [Region.wanted, hy, hc]
  rw [if_neg this]
  cases dst with
  | none => exact h hF a ha
  | some d => exact h hF _ (ha.put undef (hd d rfl))
theorem G.pick {x y z : Operand} {c : Bool} {u : Value} (hd : Nat.blt d n = true) (hx : ev L x = some (.bool c)) (hy : ev L (if c = true then y else z) = some u) (h : G out F n ((d, u) :: L) w (wpList P ops Q rest)) :
    G out F n L w (wpList P ops Q (⟨some d, .pick x y z, ty, pos, aft, none⟩ :: rest)) :=
  G.value hd (fun a ha => by
    have := ha.eval hy
    cases c <;> simp [execOp, ha.eval hx, asBool] <;> simpa using this) h
theorem G.pick_yes {x y z : Operand} {c : Bool} {u : Value} (hd : Nat.blt d n = true) (hx : ev L x = some (.bool c)) (hc : c = true) (hy : ev L y = some u) (h : G out F n ((d, u) :: L) w (wpList P ops Q rest)) :
    G out F n L w (wpList P ops Q (⟨some d, .pick x y z, ty, pos, aft, none⟩ :: rest)) := by subst hc; exact G.pick hd hx hy h
theorem G.pick_no {x y z : Operand} {c : Bool} {u : Value} (hd : Nat.blt d n = true) (hx : ev L x = some (.bool c)) (hc : c = false) (hz : ev L z = some u) (h : G out F n ((d, u) :: L) w (wpList P ops Q rest)) :
    G out F n L w (wpList P ops Q (⟨some d, .pick x y z, ty, pos, aft, none⟩ :: rest)) := by subst hc; exact G.pick hd hx hz h

/-! ### a part of a region, and what follows it -/
theorem wpList_split : ∀ (k : Nat) (l : List Oper) (a : Act) (w : World), wpList P ops (Exit.then (wpList P ops Q (l.drop k)) Q) (l.take k) a w → wpList P ops Q l a w
  | 0, l, a, w, h => by simpa [wpList, Exit.then] using h
  | k + 1, [], a, w, h => by simpa [wpList, Exit.then] using h
  | k + 1, o :: l, a, w, h => by
    simp only [List.take_succ_cons, List.drop_succ_cons] at h
    unfold wpList at h ⊢
    split
    · rename_i hw
      rw [if_pos hw] at h
      rcases h with h | ⟨h, a0, w0, hq⟩
      · refine .inl (?_ : o.wp P a w (wpList P ops Q l) Q)
        have h2 := Oper.wp_mono (Q := Exit.then (wpList P ops Q (l.drop k)) Q) (fun a w => wpList_split k l a w) h
        unfold Oper.wp at h2 ⊢
        generalize (execOp a.eval o).run P w = r at h2 ⊢
        cases r with
        | ok nx w' =>
          cases nx <;> simp only [Oper.upon] at h2 ⊢ <;> first
            | exact h2
            | (refine h2.mono fun e w'' he => ?_
               cases e with
               | returned v => exact he
               | panicked c => exact he
               | outgrown => obtain ⟨a1, w1, h3⟩ := he; exact ⟨a1, w1, h3⟩)
        | halt x w' => cases x <;> simp only [Oper.upon] at h2 ⊢ <;> exact h2
      · exact .inr ⟨h, a0, w0, hq⟩
    · rename_i hw
      rw [if_neg hw] at h
      exact wpList_split k l _ _ h
theorem wpList_weaken {J K : Act → World → Prop} (hJ : ∀ a w, J a w → K a w) : ∀ (l : List Oper) {a : Act} {w : World}, wpList P ops (Exit.then J Q) l a w → wpList P ops (Exit.then K Q) l a w
  | [], a, w, h => hJ a w h
  | o :: l, a, w, h => by
    unfold wpList at h ⊢
    split
    · rename_i hw
      rw [if_pos hw] at h
      rcases h with h | ⟨h, a0, w0, hq⟩
      · refine .inl ?_
        have h2 := Oper.wp_mono (Q := Exit.then J Q) (fun a w => wpList_weaken hJ l (a := a) (w := w)) h
        unfold Oper.wp at h2 ⊢
        generalize (execOp a.eval o).run P w = r at h2 ⊢
        cases r with
        | ok nx w' =>
          cases nx <;> simp only [Oper.upon] at h2 ⊢ <;> first
            | exact h2
            | (refine h2.mono fun e w'' he => ?_
               cases e with
               | returned v => exact he
               | panicked c => exact he
               | outgrown => obtain ⟨a1, w1, h3⟩ := he; exact ⟨a1, w1, h3⟩)
        | halt x w' => cases x <;> simp only [Oper.upon] at h2 ⊢ <;> exact h2
      · exact .inr ⟨h, a0, w0, hq⟩
    · rename_i hw
      rw [if_neg hw] at h
      exact wpList_weaken hJ l h
/-- the first k operations come to some b, of which J tells; on with what follows -/
theorem G.part {F1 : Option β} {F2 : β → Option α} (k : Nat) {l : List Oper} (J : β → Act → World → Prop) (h1 : ∀ b, G b F1 n L w (wpList P ops (Exit.then (J b) Q) (l.take k)))
    (h2 : ∀ b a w', F1 = some b → J b a w' → F2 b = some out → wpList P ops Q (l.drop k) a w') : G out (F1.bind F2) n L w (wpList P ops Q l) :=
  fun hF a ha => by
    cases hr : F1 with
    | none => rw [hr] at hF; cases hF
    | some b =>
      rw [hr] at hF
      refine wpList_split k l a w ?_
      exact wpList_weaken (fun a w hj => h2 b a w hr hj hF) _ (h1 b hr a ha)
end
end Go.Proofs.YtbaaojaoadjnmaeDoor.Gx
