/- ReplayTexts: Text and Read of package replay give what the reference gives, for every list of choices and text of bulk at most 1048576. This text: tests, builds, slices. Conditions: none beyond those that the statement itself names. -/
import Derived.Test.YtbaaojaoadjnmaeDoorGxI
namespace Go.Proofs.YtbaaojaoadjnmaeDoor.Gx
open Go.RowKit
theorem and_yes {c x : Bool} (h : c = true) : Value.bool x = Value.bool (c && x) := by subst h; rfl
theorem and_no {c x : Bool} (h : c = false) : Value.bool false = Value.bool (c && x) := by subst h; rfl
theorem or_yes {c x : Bool} (h : c = true) : Value.bool true = Value.bool (c || x) := by subst h; rfl
theorem or_no {c x : Bool} (h : c = false) : Value.bool x = Value.bool (c || x) := by subst h; rfl
section
variable {α β : Type} {out : α} {F : Option α} {n : Nat} {L : List (Nat × Value)} {w : World} {P : Program} {Q : Exit → Act → World → Prop} {S : Nat → Prop} {K : Act → World → Prop}
variable {ops : Array Oper} {rest : List Oper} {ty : TypeId} {pos : String} {aft : Array Edge} {d : Nat}
theorem G.ifb {c : Bool} {F1 F2 : Option α} {C : Act → World → Prop} (h1 : c = true → G out F1 n L w C) (h2 : c = false → G out F2 n L w C) : G out (if c = true then F1 else F2) n L w C := by
  cases c
  · simpa using h2 rfl
  · simpa using h1 rfl
theorem G.byb {c : Bool} {C : Act → World → Prop} (h1 : c = true → G out F n L w C) (h2 : c = false → G out F n L w C) : G out F n L w C := by
  cases hc : c
  · exact h2 hc
  · exact h1 hc
theorem G.recast {v v' : Value} {C : Act → World → Prop} (e : v = v') (h : G out F n ((d, v') :: L) w C) : G out F n ((d, v) :: L) w C := by subst e; exact h
theorem G.cut (k : Nat) {l : List Oper} (J : Act → World → Prop) (h1 : G () (some ()) n L w (wpList P ops (Exit.then J Q) (l.take k)))
    (h2 : ∀ a w', J a w' → F = some out → wpList P ops Q (l.drop k) a w') : G out F n L w (wpList P ops Q l) := fun hF a ha =>
  wpList_split k l a w (wpList_weaken (fun a w hj => h2 a w hj hF) _ (h1 rfl a ha))
theorem G.skip_s {o : Op} {gi dg : Nat} {b c : Bool} (ho : (ops[gi]?).bind (·.dst) = some dg) (hv : look L dg = some (.bool c)) (hc : c = !b) (hd : Nat.blt d n = true)
    (h : G out F n ((d, undef) :: L) w (wpList P ops Q rest)) : G out F n L w (wpList P ops Q (⟨some d, o, ty, pos, aft, some (gi, b)⟩ :: rest)) :=
  G.guard_no ho hv (by subst hc; cases b <;> decide) (by intro d' e; cases e; exact hd) h
theorem G.skip_n {o : Op} {gi dg : Nat} {b c : Bool} (ho : (ops[gi]?).bind (·.dst) = some dg) (hv : look L dg = some (.bool c)) (hc : c = !b)
    (h : G out F n L w (wpList P ops Q rest)) : G out F n L w (wpList P ops Q (⟨none, o, ty, pos, aft, some (gi, b)⟩ :: rest)) :=
  G.guard_no ho hv (by subst hc; cases b <;> decide) (by intro d' e; cases e) h
theorem undef_not_bool {b : Bool} : undef ≠ .bool b := by simp [undef]
theorem G.skip_u {o : Op} {gi dg : Nat} {b : Bool} (ho : (ops[gi]?).bind (·.dst) = some dg) (hv : look L dg = some undef) (hd : Nat.blt d n = true)
    (h : G out F n ((d, undef) :: L) w (wpList P ops Q rest)) : G out F n L w (wpList P ops Q (⟨some d, o, ty, pos, aft, some (gi, b)⟩ :: rest)) := fun hF a ha => by
  have h0 := ha.at_ _ _ hv
  have hy : yielded ops a.tmps gi = none := by
    simp only [yielded, ho, Option.bind_some, h0]
    simp [undef]
  unfold wpList
  have : ¬ Region.wanted ⟨some d, o, ty, pos, aft, some (gi, b)⟩ (yielded ops a.tmps) = true := by simp [Region.wanted, hy]
  rw [if_neg this]
  exact h hF _ (ha.put undef hd)
theorem G.neg {x : Operand} {t : TypeId} {b : Int} (hd : Nat.blt d n = true) (hx : ev L x = some (.int .i64 b)) (h : G out F n ((d, .int .i64 (subI 0 b)) :: L) w (wpList P ops Q rest)) :
    G out F n L w (wpList P ops Q (⟨some d, .unOp .neg t x, ty, pos, aft, none⟩ :: rest)) :=
  G.value hd (fun a ha => by simp [execOp, ha.eval hx, Op.unary, Op.intArith, subI]) h
theorem G.nilCheck {x : Operand} {p : Addr} (hd : Nat.blt d n = true) (hx : ev L x = some (.pointer (some p))) (h : G out F n ((d, .pointer (some p)) :: L) w (wpList P ops Q rest)) :
    G out F n L w (wpList P ops Q (⟨some d, .nilCheck x, ty, pos, aft, none⟩ :: rest)) :=
  G.value hd (fun a ha => by simp [execOp, ha.eval hx]) h
/-- parts, evaluated -/
def evp (L : List (Nat × Value)) : List (Nat × Operand) → Option (List (Nat × Value))
  | [] => some []
  | (i, x) :: xs => match ev L x, evp L xs with
    | some v, some vs => some ((i, v) :: vs)
    | _, _ => none
theorem Fr.evalp {n L a} (h : Fr n L a) : ∀ {xs : List (Nat × Operand)} {vs : List (Nat × Value)}, evp L xs = some vs → xs.map (fun p => (p.1, a.eval p.2)) = vs
  | [], vs, hx => by simp only [evp, Option.some.injEq] at hx; subst hx; rfl
  | (i, x) :: xs, vs, hx => by
    simp only [evp] at hx
    split at hx
    · rename_i v vs' h1 h2
      simp only [Option.some.injEq] at hx
      subst hx
      simp [h.eval h1, Fr.evalp h h2]
    · cases hx
theorem G.build {t : TypeId} {parts : Array (Nat × Operand)} {pv : List (Nat × Value)} {v : Value} (hd : Nat.blt d n = true) (hp : evp L parts.toList = some pv) (hr : ∀ w, (Instr.build t pv.toArray).run P w = .ok v w)
    (h : G out F n ((d, v) :: L) w (wpList P ops Q rest)) : G out F n L w (wpList P ops Q (⟨some d, .build t parts, ty, pos, aft, none⟩ :: rest)) :=
  G.value hd (fun a ha => by
    have : (parts.map fun (p : Nat × Operand) => (p.1, a.eval p.2)) = pv.toArray := by
      apply Array.ext'; rw [Array.toList_map]; exact ha.evalp hp
    simp only [execOp]
    exact run_value_of (by rw [this]; exact hr w)) h
theorem RdEach.drop {A : Nat → Prop} {sz : Nat} : ∀ (k : Nat) {ds : List D} {cs : List Value}, RdEach A w sz ds cs → RdEach A w sz (ds.drop k) (cs.drop (k * sz))
  | 0, ds, cs, h => by simpa using h
  | k + 1, [], cs, h => by simp [RdEach]
  | k + 1, d :: ds, cs, h => by
    simp only [RdEach] at h
    obtain ⟨c1, c2, rfl, hs, h1, h2⟩ := h
    have := RdEach.drop k h2
    rw [List.drop_succ_cons, Nat.succ_mul, Nat.add_comm, ← List.drop_drop]
    rw [show (c1 ++ c2).drop sz = c2 by rw [← hs]; simp]
    exact this
theorem RdEach.take {A : Nat → Prop} {sz : Nat} : ∀ (k : Nat) {ds : List D} {cs : List Value}, RdEach A w sz ds cs → RdEach A w sz (ds.take k) cs
  | 0, ds, cs, h => by simp [RdEach]
  | k + 1, [], cs, h => by simp [RdEach]
  | k + 1, d :: ds, cs, h => by
    simp only [RdEach, List.take_succ_cons] at h ⊢
    obtain ⟨c1, c2, rfl, hs, h1, h2⟩ := h
    exact ⟨c1, c2, rfl, hs, h1, RdEach.take k h2⟩
theorem G.sub_rd {enc : β → D} {sz : Nat} {xs : List β} {x : Operand} {lo hi : Option Operand} {l h : Int} {t e : TypeId} {v : Value} {F2 : List β → Option α} (hd : Nat.blt d n = true) (hx : ev L x = some v) (hU : ∀ w, (underlying t).run P w = .ok (.slice e) w) (hS : Sz P e sz) (hr : RdL enc sz S w v xs)
    (hlo : match lo with | some o => ev L o = some (.int .i64 l) | none => l = 0) (hhi : match hi with | some o => ev L o = some (.int .i64 h) | none => h = (xs.length : Int))
    (hk : ∀ r v', sub xs l h = some r → RdL enc sz S w v' r → G out (F2 r) n ((d, v') :: L) w (wpList P ops Q rest)) : G out ((sub xs l h).bind F2) n L w (wpList P ops Q (⟨some d, .slice t x lo hi none, ty, pos, aft, none⟩ :: rest)) :=
  G.bind fun r hr' => by
    obtain ⟨h0, h1, h2, rfl⟩ := sub_some hr'
    obtain ⟨i, rfl⟩ := Int.eq_ofNat_of_zero_le h0
    obtain ⟨j, rfl⟩ := Int.eq_ofNat_of_zero_le (Int.le_trans h0 h1)
    have hij : i ≤ j := by omega
    have hj : j ≤ xs.length := by omega
    simp only [Int.toNat_natCast] at *
    have hr0 := hr
    unfold RdL at hr0
    simp only [Rd, List.length_map] at hr0
    obtain ⟨p, c, hv, h3, h4, h5⟩ := hr0
    obtain rfl : v = .slice p xs.length c := by simpa using hv
    have hjc : j ≤ c := by omega
    refine G.value (v := .slice (if c = i then p else p.map (·.add (i * sz))) (j - i) (c - i)) hd (fun a ha => ?_) (hk _ _ hr' ?_)
    · simp only [execOp, ha.eval hx]
      refine run_value_of ?_
      cases lo with
      | none =>
        simp only [Int.natCast_eq_zero] at hlo
        subst hlo
        cases hi with
        | none =>
          simp only [Int.natCast_inj] at hhi
          subst hhi
          simp [Instr.sliceAt, hU w, Instr.slice, Instr.sliceBounds, hS w]
        | some o2 =>
          simp only at hhi
          simp [Instr.sliceAt, hU w, Instr.slice, Instr.sliceBounds, hS w, ha.eval hhi, Instr.sliceBound, asIntOf, hjc]
      | some o1 =>
        simp only at hlo
        cases hi with
        | none =>
          simp only [Int.natCast_inj] at hhi
          subst hhi
          simp [Instr.sliceAt, hU w, Instr.slice, Instr.sliceBounds, hS w, ha.eval hlo, Instr.sliceBound, asIntOf, hij]
        | some o2 =>
          simp only at hhi
          simp [Instr.sliceAt, hU w, Instr.slice, Instr.sliceBounds, hS w, ha.eval hlo, ha.eval hhi, Instr.sliceBound, asIntOf, hij, hjc]
    · unfold RdL
      simp only [Rd, List.length_map]
      have hlen : ((xs.take j).drop i).length = j - i := by simp; omega
      rw [hlen]
      refine ⟨_, c - i, rfl, by omega, by omega, ?_⟩
      rcases h5 with h5 | ⟨b, o, cells, T, fr, rfl, hb, hw, he⟩
      · left
        have : xs = [] := by simpa using h5
        subst this; simp
      · by_cases hz : j = i
        · left
          subst hz
          simp
        · right
          have hci : ¬ c = i := by omega
          refine ⟨b, o + i * sz, cells, T, fr, ?_, hb, hw, ?_⟩
          · rw [if_neg hci]; simp [add_plain]
          · have h6 := RdEach.drop i (RdEach.take j he)
            rw [List.drop_drop] at h6
            simpa [List.map_drop, List.map_take] using h6
end
end Go.Proofs.YtbaaojaoadjnmaeDoor.Gx
