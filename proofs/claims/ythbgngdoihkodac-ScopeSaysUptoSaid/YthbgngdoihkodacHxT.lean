/- roadstead: ScopeSays. This text: HxT. Conditions: none beyond those that the statement itself names. -/
import Derived.Test.YthbgngdoihkodacHxM
namespace Go.Proofs.Ythbgngdoihkodac.Hx
open Go.RowKit
section
variable {Γ L : List (Nat × D)} {P : Program} {n : Nat} {R : List Res} {dd : Option Nat} {ty : TypeId} {pos : String} {aft : Array Edge} {β : Type} {Q : Exit → Act → World → Prop} {enc : β → D} {B : Base} {α : Type} {out : α} {F : Option α} {C : Act → World → Prop}
/-- is a slice nil? if it is, it has no elements -/
theorem O.eqnil {x : Operand} {t t' e : TypeId} {sz : Nat} {xs : List β} (ht : P.underlying t = some (.slice e)) (hx : Ev Γ L x (eL enc sz xs)) :
    Op1 Γ P n L R ⟨dd, .binOp .eql t x (.const (.slice none 0 0)) t', ty, pos, aft, none⟩ Q (fun q : { b : Bool // b = true → xs = [] } => eB q.1) (fun _ => R) := Op1.run fun B a S w ha hs => by
  have h := hx.eval ha hs.glob
  simp only [eL, RdV, Rd, List.length_map] at h
  obtain ⟨p, c, h1, h2, h3, h4⟩ := h
  have h1 := List.singleton_inj.1 h1
  refine ⟨⟨p.isNone, fun hp => ?_⟩, .bool p.isNone, w, ?_, Le.refl _ _, RdV.val.2 rfl, hs⟩
  · rcases h4 with h4 | ⟨b, o, cells, T, fr, rfl, _⟩
    · simpa using h4
    · simp at hp
  · have hc : a.eval (.const (.slice none 0 0)) = .slice none 0 0 := rfl
    simp only [execOp, h1, hc]
    refine run_value_of ?_
    have h5 : ∀ d : Nat, (Op.equalIn (d + 1) t (.slice p xs.length c) (.slice none 0 0)).run P w = .ok p.isNone w := fun d => by
      cases p <;> simp [Op.equalIn, run_underlying ht]
    simp only [eqGuard, binOp]
    simp [Op.equal, Op.maxDepth, h5 9999]
theorem G.condF {x : Operand} {c d : Code} {b : Bool} (hx : ev Γ L x = some (.val (.bool b))) (h1 : b = true → G Γ B out F n L R (c.wp P Q)) (h2 : b = false → G Γ B out F n L R (d.wp P Q)) :
    G Γ B out F n L R ((Code.cond x c d).wp P Q) := by
  cases b
  · exact G.no hx rfl (h2 rfl)
  · exact G.yes hx rfl (h1 rfl)
/-- a copy: what the model bears -/
def cloneF (lim : Nat) (xs : List β) : Option (List β) := app lim [] xs
theorem cloneF_eq {lim : Nat} {xs : List β} (h : xs.length ≤ lim) : cloneF lim xs = some xs := by unfold cloneF app; simp [h]
end
end Go.Proofs.Ythbgngdoihkodac.Hx
