/- roadstead: ScopeSays. This text: HxM. Conditions: none beyond those that the statement itself names. -/
import Derived.Test.YthbgngdoihkodacHxL
namespace Go.Proofs.Ythbgngdoihkodac.Hx
open Go.RowKit
theorem one_I {k : IntKind} {x : Int} : OneC [] (eI k x) := OneC.leaf (.val rfl)
theorem one_B {x : Bool} : OneC [] (eB x) := OneC.leaf (.val rfl)
theorem one_S {x : Str} : OneC [] (eS x) := OneC.leaf (.val rfl)
theorem one_L {β : Type} {enc : β → D} {sz : Nat} {xs : List β} : OneC [] (eL enc sz xs) := OneC.leaf .sl
theorem rd0_I {k : IntKind} {S : Nat → Prop} {w : World} : Rd S w (eI k 0) [.int k 0] := by simp [eI, Rd]
theorem rd0_B {S : Nat → Prop} {w : World} : Rd S w (eB false) [.bool false] := by simp [eB, Rd]
theorem rd0_S {S : Nat → Prop} {w : World} : Rd S w (eS []) [.string ⟨#[]⟩] := by simp [eS, Rd, bs]
theorem rd0_L {β : Type} {enc : β → D} {sz : Nat} {S : Nat → Prop} {w : World} : Rd S w (eL enc sz []) [.slice none 0 0] := by
  simp only [eL, Rd, List.map_nil]; exact ⟨none, 0, rfl, Nat.le_refl _, by decide, by simp⟩
theorem b_quo {P : Program} {t : TypeId} {x y : Operand} {k : IntKind} {a b : Int} (h0 : b ≠ 0) (h1 : 0 < b) : ∀ w, (do eqGuard .quo t x y (.int k a) (.int k b); binOp .quo t (.int k a) (.int k b) : Sem Value).run P w = .ok (.int k (k.wrap (Int.tdiv a b))) w := fun w => by simp [eqGuard, binOp, Op.intDiv, h0]
theorem b_rem {P : Program} {t : TypeId} {x y : Operand} {k : IntKind} {a b : Int} (h0 : b ≠ 0) (h1 : 0 < b) : ∀ w, (do eqGuard .rem t x y (.int k a) (.int k b); binOp .rem t (.int k a) (.int k b) : Sem Value).run P w = .ok (.int k (Int.tmod a b)) w := fun w => by simp [eqGuard, binOp, Op.intDiv, h0]
section
variable {Γ L : List (Nat × D)} {P : Program} {n : Nat} {R R0 : List Res} {dd : Option Nat} {ty : TypeId} {pos : String} {aft : Array Edge} {g : Option (Nat × Bool)} {β : Type} {Q : Exit → Act → World → Prop} {enc : β → D} {B B0 B1 : Base} {α : Type} {out : α} {F : Option α} {C : Act → World → Prop} {L1 L2 : List (Nat × D)}
theorem G.fin_ (h : F = some out → G Γ B out F n L R C) : G Γ B out F n L R C := fun hF => h hF hF
theorem len_of {S : Nat → Prop} {w : World} {sz : Nat} {xs : List β} {v : Value} (h : RdV S w (eL enc sz xs) v) : xs.length ≤ 9223372036854775807 := by
  obtain ⟨p, c, _, h1, h2⟩ := sl_form h
  simp only [maxLen, List.length_map] at h1 h2; omega
theorem len_of_row {S : Nat → Prop} {w : World} {e sz : Nat} {xs : List β} {v : Value} (h : Res.ok S w (.row v e sz (xs.map enc))) : xs.length ≤ 9223372036854775807 := by
  obtain ⟨cs, hrow, _⟩ := h
  obtain ⟨p, c, _, h1, h2⟩ := hrow.form
  simp only [maxLen, List.length_map] at h1 h2; omega
/-- a slice is no longer than may be -/
theorem G.lenb {sz : Nat} {xs : List β} {x : Operand} (hx : Ev Γ L x (eL enc sz xs)) (h : xs.length ≤ 9223372036854775807 → G Γ B out F n L R C) : G Γ B out F n L R C := fun hF a S w ha hs => h (len_of (hx.eval ha hs.glob)) hF a S w ha hs
theorem G.lenr {i e sz : Nat} {xs : List β} {v : Value} (hi : R[i]? = some (.row v e sz (xs.map enc))) (h : xs.length ≤ 9223372036854775807 → G Γ B out F n L R C) : G Γ B out F n L R C := fun hF a S w ha hs => h (len_of_row (hs.ok _ (List.mem_of_getElem? hi))) hF a S w ha hs
theorem GH.lenb {sz : Nat} {xs : List β} {x : Operand} (hx : Ev Γ (L2 ++ L1) x (eL enc sz xs)) (h : xs.length ≤ 9223372036854775807 → GH Γ B0 B1 out F n L1 L2 R0 R C) : GH Γ B0 B1 out F n L1 L2 R0 R C := fun hF hB a S w h1 h2 hs => h (len_of (hx.eval (Fr.now hs h1 h2) hs.glob)) hF hB a S w h1 h2 hs
theorem GH.lenr {i e sz : Nat} {xs : List β} {v : Value} (hi : R[i]? = some (.row v e sz (xs.map enc))) (h : xs.length ≤ 9223372036854775807 → GH Γ B0 B1 out F n L1 L2 R0 R C) : GH Γ B0 B1 out F n L1 L2 R0 R C := fun hF hB a S w h1 h2 hs => h (len_of_row (hs.ok _ (List.mem_of_getElem? hi))) hF hB a S w h1 h2 hs
theorem GH.lenr0 {i e sz : Nat} {xs : List β} {v : Value} (hi : R0[i]? = some (.row v e sz (xs.map enc))) (h : xs.length ≤ 9223372036854775807 → GH Γ B0 B1 out F n L1 L2 R0 R C) : GH Γ B0 B1 out F n L1 L2 R0 R C := fun hF hB a S w h1 h2 hs => h (len_of_row (hB.still.ok _ (List.mem_of_getElem? hi))) hF hB a S w h1 h2 hs
/-- the counter of a range -/
theorem V.incr {x y : Operand} {t t' : TypeId} {i N : Nat} (hx : ev Γ L x = some (.val (.int .i64 (i : Int)))) (hy : ev Γ L y = some (.val (.int .i64 1))) (hi : i < N) (hN : N ≤ 9223372036854775807) :
    Qp Γ P n L ⟨dd, .binOp .add t x y t', ty, pos, aft, g⟩ (.val (.int .i64 ((i + 1 : Nat) : Int))) :=
  V.bin hx hy (fun w => by rw [b_add]; congr 2; rw [wrap_id (by omega) (by omega)]; simp)
/-- aggregates that '==' tells apart cell by cell -/
def AggEq (P : Program) (t : TypeId) (a b : List Value) (r : Bool) : Prop := ∀ w, (Op.equal t (.agg a.toArray) (.agg b.toArray)).run P w = .ok r w ∧ P.eqGuardType P.depth t = false
theorem V.eqls {t t' : TypeId} {x y : Operand} {a b : List Value} {r : Bool} (he : AggEq P t a b r) (hx : ev Γ L x = some (.agg (a.map .val))) (hy : ev Γ L y = some (.agg (b.map .val))) : Qp Γ P n L ⟨dd, .binOp .eql t x y t', ty, pos, aft, g⟩ (eB r) := fun S w ac ha hg => by
  have h1 := ha.eval hg hx
  have h2 := ha.eval hg hy
  simp only [RdV] at h1 h2
  obtain ⟨c1, e1, k1⟩ := h1
  obtain ⟨c2, e2, k2⟩ := h2
  have hv : ∀ {l cs : List Value}, RdCs S w (l.map .val) cs → cs = l := by
    intro l
    induction l with
    | nil => intro cs h; simpa [RdCs] using h
    | cons v l ih =>
      intro cs h
      simp only [List.map_cons, RdCs, Rd] at h
      obtain ⟨u, cs', rfl, h1, h2⟩ := h
      rw [ih h2, List.singleton_inj.1 h1]
  have := hv k1; subst this
  have := hv k2; subst this
  refine ⟨.bool r, RdV.val.2 rfl, fun w' => ?_⟩
  simp only [execOp, e1, e2]
  refine run_value_of ?_
  obtain ⟨h3, h4⟩ := he w'
  unfold binOp; simp [eqGuard, h4, h3]
theorem V.neqs {t t' : TypeId} {x y : Operand} {a b : List Value} {r : Bool} (he : AggEq P t a b r) (hx : ev Γ L x = some (.agg (a.map .val))) (hy : ev Γ L y = some (.agg (b.map .val))) : Qp Γ P n L ⟨dd, .binOp .neq t x y t', ty, pos, aft, g⟩ (eB !r) := fun S w ac ha hg => by
  have h1 := ha.eval hg hx
  have h2 := ha.eval hg hy
  simp only [RdV] at h1 h2
  obtain ⟨c1, e1, k1⟩ := h1
  obtain ⟨c2, e2, k2⟩ := h2
  have hv : ∀ {l cs : List Value}, RdCs S w (l.map .val) cs → cs = l := by
    intro l
    induction l with
    | nil => intro cs h; simpa [RdCs] using h
    | cons v l ih =>
      intro cs h
      simp only [List.map_cons, RdCs, Rd] at h
      obtain ⟨u, cs', rfl, h1, h2⟩ := h
      rw [ih h2, List.singleton_inj.1 h1]
  have := hv k1; subst this
  have := hv k2; subst this
  refine ⟨.bool (!r), RdV.val.2 rfl, fun w' => ?_⟩
  simp only [execOp, e1, e2]
  refine run_value_of ?_
  obtain ⟨h3, h4⟩ := he w'
  unfold binOp; simp [eqGuard, h4, h3]
end
end Go.Proofs.Ythbgngdoihkodac.Hx
