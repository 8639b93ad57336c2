/- ReplayTexts: Text and Read of package replay give what the reference gives, for every list of choices and text of bulk at most 1048576. This text: the frame of a call: what is known of its slots. Conditions: none beyond those that the statement itself names. -/
import Derived.WalkKit
import Derived.Deep.Quiet
import Derived.Laws.MakeOwn
namespace Go.Proofs.YtbaaojaoadjnmaeDoor.Gx
open Go.RowKit

/-! ### frames: what is known of the slots -/
def look : List (Nat × Value) → Nat → Option Value
  | [], _ => none
  | (j, v) :: L, i => match Nat.beq i j with
    | true => some v
    | false => look L i

def ev (L : List (Nat × Value)) : Operand → Option Value
  | .tmp t => look L t
  | .const v => some v
  | .global g => some (.pointer (some ⟨g, 0, none⟩))
  | .func f => some (.func (.func f) #[] #[])

structure Fr (n : Nat) (L : List (Nat × Value)) (a : Act) : Prop where
  size : a.tmps.size = n
  defers : a.defers = []
  at_ : ∀ i v, look L i = some v → a.tmps[i]? = some v

theorem Fr.eval {n L a} (h : Fr n L a) {x : Operand} {v : Value} (hx : ev L x = some v) : a.eval x = v := by
  cases x with
  | tmp t => simp only [ev] at hx; have := h.at_ _ _ hx; simp [Act.eval, Array.getD_eq_getD_getElem?, this]
  | const u => simp only [ev, Option.some.injEq] at hx; subst hx; rfl
  | global g => simp only [ev, Option.some.injEq] at hx; subst hx; rfl
  | func f => simp only [ev, Option.some.injEq] at hx; subst hx; rfl

theorem Fr.put {n L a} (h : Fr n L a) {d : Nat} (v : Value) (hd : Nat.blt d n = true) : Fr n ((d, v) :: L) (a.put (some d) v) := by
  have hd' : d < a.tmps.size := by rw [h.size]; exact of_eq_true (by rw [← Nat.blt_eq]; exact eq_true hd)
  refine ⟨by simp [Act.put, h.size], by simp [Act.put, h.defers], fun i u hu => ?_⟩
  simp only [look] at hu
  by_cases e : i = d
  · subst e
    simp only [Nat.beq_refl, Option.some.injEq] at hu
    subst hu
    simp [Act.put, hd']
  · have : Nat.beq i d = false := by
      cases hb : Nat.beq i d with
      | true => exact absurd (Nat.eq_of_beq_eq_true hb) e
      | false => rfl
    rw [this] at hu
    have h2 := h.at_ _ _ hu
    simp only [Act.put, Array.getElem?_setIfInBounds]
    rw [if_neg (by omega)]; exact h2

theorem Fr.put_none {n L a} (h : Fr n L a) (v : Value) : Fr n L (a.put none v) := h

/-- the slots that are kept -/
def keep (L : List (Nat × Value)) : List Nat → List (Nat × Value)
  | [] => []
  | i :: is => match look L i with
    | some v => (i, v) :: keep L is
    | none => keep L is

theorem look_keep {L : List (Nat × Value)} : ∀ {is : List Nat} {i v}, look (keep L is) i = some v → look L i = some v
  | [], _, _, h => by simp [keep, look] at h
  | j :: is, i, v, h => by
    unfold keep at h
    split at h
    · rename_i u hu
      simp only [look] at h
      split at h
      · rename_i hb
        have := Nat.eq_of_beq_eq_true hb
        subst this
        rw [hu]; exact h
      · exact look_keep h
    · exact look_keep h

theorem Fr.kept {n L a} (h : Fr n L a) (is : List Nat) : Fr n (keep L is) a := ⟨h.size, h.defers, fun i v hv => h.at_ i v (look_keep hv)⟩

/-- the frame at a call's begin -/
def args0 : Nat → List Value → List (Nat × Value)
  | _, [] => []
  | i, v :: vs => (i, v) :: args0 (i + 1) vs
theorem look_args0 : ∀ (vs : List Value) (k i : Nat) (v : Value), look (args0 k vs) i = some v → ∃ j, i = k + j ∧ vs[j]? = some v
  | [], _, _, _, h => by simp [args0, look] at h
  | u :: vs, k, i, v, h => by
    simp only [args0, look] at h
    split at h
    · rename_i hb
      exact ⟨0, by have := Nat.eq_of_beq_eq_true hb; omega, by simpa using h⟩
    · obtain ⟨j, hj, hv⟩ := look_args0 vs (k + 1) i v h
      exact ⟨j + 1, by omega, by simpa using hv⟩
theorem Fr.enter (n : Nat) (vs : List Value) (h : vs.length ≤ n) : Fr n (args0 0 vs) { tmps := vs.toArray ++ Array.replicate (n - vs.toArray.size) undef, defers := [] } := by
  refine ⟨by simp; omega, rfl, fun i v hv => ?_⟩
  obtain ⟨j, rfl, hj⟩ := look_args0 vs 0 i v hv
  have hlt := (List.getElem?_eq_some_iff.1 hj).1
  simp only [Nat.zero_add]
  rw [Array.getElem?_append_left (by simpa using hlt)]
  simpa using hj

/-! ### goals -/
/-- while the pure side says 'out', from a frame that holds L, C goes -/
def G {α : Type} (out : α) (F : Option α) (n : Nat) (L : List (Nat × Value)) (w : World) (C : Act → World → Prop) : Prop :=
  F = some out → ∀ a, Fr n L a → C a w

section
variable {α : Type} {out : α} {F : Option α} {n : Nat} {L : List (Nat × Value)} {w : World} {C : Act → World → Prop} {P : Program} {Q : Exit → Act → World → Prop}

theorem G.kept (is : List Nat) (h : G out F n (keep L is) w C) : G out F n L w C := fun hF a ha => h hF a (ha.kept is)
theorem G.keep_ {L' : List (Nat × Value)} {is : List Nat} (he : keep L is = L') (h : G out F n L' w C) : G out F n L w C := fun hF a ha => h hF a (he ▸ ha.kept is)
theorem G.fin {r : α} (h : r = out → ∀ a, Fr n L a → C a w) : G out (some r) n L w C := fun hF a ha => h (by simpa using hF) a ha
theorem G.none_ : G out none n L w C := fun h => by cases h
theorem G.ite {c : Prop} [Decidable c] {F1 F2 : Option α} (h1 : c → G out F1 n L w C) (h2 : ¬c → G out F2 n L w C) : G out (if c then F1 else F2) n L w C := fun hF a ha => by
  by_cases hc : c
  · rw [if_pos hc] at hF; exact h1 hc hF a ha
  · rw [if_neg hc] at hF; exact h2 hc hF a ha
theorem G.bind {β : Type} {F1 : Option β} {F2 : β → Option α} (h : ∀ r, F1 = some r → G out (F2 r) n L w C) : G out (F1.bind F2) n L w C := fun hF a ha => by
  cases hr : F1 with
  | none => rw [hr] at hF; cases hF
  | some r => rw [hr] at hF; exact h r hr hF a ha

/-! ### codes -/
theorem G.seq {x y : Code} (h : ∀ K : Act → World → Prop, (∀ a w, y.wp P Q a w → K a w) → G out F n L w (x.wp P (Exit.then K Q))) : G out F n L w ((Code.seq x y).wp P Q) :=
  fun hF a ha => wp_seq_k fun K hK => h K hK hF a ha
/-- at the end of a part: on with what follows -/
theorem G.next {y : Code} {K : Act → World → Prop} (hK : ∀ a w, y.wp P Q a w → K a w) (h : G out F n L w (y.wp P Q)) : G out F n L w K := fun hF a ha => hK _ _ (h hF a ha)
theorem G.then_ {K : Act → World → Prop} (h : G out F n L w K) : G out F n L w (Exit.then K Q .normal) := h
theorem G.skip (h : G out F n L w (Q .normal)) : G out F n L w (Code.skip.wp P Q) := fun hF a ha => wp_skip (h hF a ha)
theorem G.ret (h : G out F n L w (Q .ret)) : G out F n L w (Code.ret.wp P Q) := fun hF a ha => wp_ret (h hF a ha)
theorem G.exit {id : Nat} (h : G out F n L w (Q (.exit id))) : G out F n L w ((Code.exit id).wp P Q) := fun hF a ha => wp_exit (h hF a ha)
theorem G.block {id : Nat} {c : Code} (h : G out F n L w (c.wp P (Exit.inBlock id Q))) : G out F n L w ((Code.block id c).wp P Q) := fun hF a ha => wp_block (h hF a ha)
theorem G.cond {x : Operand} {c d : Code} {b : Bool} {F1 F2 : Option α} (hx : ev L x = some (.bool b)) (h1 : b = true → G out F1 n L w (c.wp P Q)) (h2 : b = false → G out F2 n L w (d.wp P Q)) :
    G out (if b = true then F1 else F2) n L w ((Code.cond x c d).wp P Q) := fun hF a ha => by
  cases b
  · exact wp_cond_false (ha.eval hx) (h2 rfl (by simpa using hF) a ha)
  · exact wp_cond_true (ha.eval hx) (h1 rfl (by simpa using hF) a ha)
theorem G.cond_yes {x : Operand} {c d : Code} (hx : ev L x = some (.bool true)) (h : G out F n L w (c.wp P Q)) : G out F n L w ((Code.cond x c d).wp P Q) := fun hF a ha => wp_cond_true (ha.eval hx) (h hF a ha)
theorem G.cond_no {x : Operand} {c d : Code} (hx : ev L x = some (.bool false)) (h : G out F n L w (d.wp P Q)) : G out F n L w ((Code.cond x c d).wp P Q) := fun hF a ha => wp_cond_false (ha.eval hx) (h hF a ha)
theorem G.region {id : Nat} {l : List Oper} (h : G out F n L w (wpList P l.toArray Q l)) : G out F n L w ((Code.region id l.toArray false).wp P Q) := fun hF a ha => wp_region_lit (h hF a ha)
theorem G.nil {ops : Array Oper} (h : G out F n L w (Q .normal)) : G out F n L w (wpList P ops Q []) := fun hF a ha => wpList_nil (h hF a ha)

/-- a loop with a fuel of its own: J at k; a round ends at a smaller k -/
theorem wp_loop_fuel {c : Code} {Q : Exit → Act → World → Prop} (J : Nat → Act → World → Prop) (round : ∀ k a w, J k a w → c.wp P (Exit.then (fun a' w' => ∃ k', k' < k ∧ J k' a' w') Q) a w) :
    ∀ {k : Nat} {a : Act} {w : World}, J k a w → (Code.loop c).wp P Q a w := by
  intro k a w h0 b kk cs
  have key : ∀ n a w, J n a w → ∃ e a' w', Q e a' w' ∧ Arrives P (lone (b.at a (.code c :: .inLoop c :: kk)) cs w) b kk cs e a' w' := by
    intro n
    induction n using Nat.strongRecOn with
    | _ n ih =>
      intro a w hI
      obtain ⟨e, a₁, w₁, hq, harr⟩ := round n a w hI b (.inLoop c :: kk) cs
      cases e with
      | normal =>
        obtain ⟨k', hlt, hI₁⟩ := hq
        obtain ⟨e₂, a₂, w₂, hq₂, harr₂⟩ := ih k' hlt a₁ w₁ hI₁
        exact ⟨e₂, a₂, w₂, hq₂, .of_steps (Steps.trans harr (.one step_inLoop)) harr₂⟩
      | exit id => exact ⟨_, a₁, w₁, hq, .pass (x := .inLoop c) rfl (fun _ _ => .inl (by simp)) harr⟩
      | goto l => exact ⟨_, a₁, w₁, hq, .pass (x := .inLoop c) rfl (fun _ _ => .inl (by simp)) harr⟩
      | ret => exact ⟨_, a₁, w₁, hq, .pass (x := .inLoop c) rfl (fun _ _ => .inl (by simp)) harr⟩
      | panic ch => exact ⟨_, a₁, w₁, hq, .pass (x := .inLoop c) rfl (fun _ _ => .inl (by simp)) harr⟩
      | outgrown => exact ⟨_, a₁, w₁, hq, .pass (x := .inLoop c) rfl (fun _ _ => .inl (by simp)) harr⟩
  obtain ⟨e, a', w', hq, harr⟩ := key _ a w h0
  exact ⟨e, a', w', hq, .of_steps (.one step_loop) harr⟩
end
end Go.Proofs.YtbaaojaoadjnmaeDoor.Gx
