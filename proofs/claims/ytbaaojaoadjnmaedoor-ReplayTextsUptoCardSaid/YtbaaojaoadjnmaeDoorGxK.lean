/- ReplayTexts: Text and Read of package replay give what the reference gives, for every list of choices and text of bulk at most 1048576. This text: ranges. Conditions: none beyond those that the statement itself names. -/
import Derived.Test.YtbaaojaoadjnmaeDoorGxJ
import Derived.KernelRfl
namespace Go.Proofs.YtbaaojaoadjnmaeDoor.Gx
open Go.RowKit
theorem Elt.of {P : Program} {t e size bytes : Nat} {z : List Value} {zv : Value} (sl : P.underlying t = some (.slice e)) (h : (P.info? e).map (fun i => (i.zero, i.size, i.bytes)) = some (some zv, size, bytes)) (hz : zv.cells = z.toArray) (hp : 0 < size) (hl : z.length = size) : Elt P t e size bytes z := by
  cases hi : P.info? e with
  | none => rw [hi] at h; cases h
  | some i =>
    rw [hi] at h
    simp only [Option.map_some, Option.some.injEq, Prod.mk.injEq] at h
    exact ⟨sl, ⟨i, zv, hi, h.1, h.2.1, h.2.2, hz⟩, hp, hl⟩
theorem nm_app {b : Nat} {X Y : List Nat} (h1 : b ∉ X) (h2 : b ∉ Y) : b ∉ X ++ Y := by simp [h1, h2]
theorem nm_one {b g : Nat} (h : b ≠ g) : b ∉ [g] := by simpa using h
theorem in_app {p : Nat → Prop} {X Y : List Nat} (h1 : ∀ m ∈ X, p m) (h2 : ∀ m ∈ Y, p m) : ∀ m ∈ X ++ Y, p m := fun m hm => by
  rcases List.mem_append.1 hm with h | h
  · exact h1 m h
  · exact h2 m h
theorem in_one {p : Nat → Prop} {g : Nat} (h : p g) : ∀ m ∈ [g], p m := by simpa using h
theorem in_nil {p : Nat → Prop} : ∀ m ∈ ([] : List Nat), p m := by simp
theorem Up.refl' {W : List Nat} {S : Nat → Prop} {w : World} (hS : ∀ b, S b → b < w.heap.size) (hW : ∀ b ∈ W, ¬ S b) : Up W S w S w := ⟨Le.refl _ _, hW, fun _ h => h, fun _ _ h => h, hS⟩
theorem org_step {v v0 v1 : Value} {we w1 : World} (h : ∀ k ∈ ob v1, k ∈ ob v ∨ w1.heap.size ≤ k) (h0 : ∀ k ∈ ob v, k ∈ ob v0 ∨ we.heap.size ≤ k) (hle : we.heap.size ≤ w1.heap.size) : ∀ k ∈ ob v1, k ∈ ob v0 ∨ we.heap.size ≤ k := fun k hk => by
  rcases h k hk with h1 | h1
  · exact h0 k h1
  · exact .inr (by omega)
theorem org0_step {v v1 : Value} {we w1 : World} (h : ∀ k ∈ ob v1, k ∈ ob v ∨ w1.heap.size ≤ k) (h0 : ∀ k ∈ ob v, we.heap.size ≤ k) (hle : we.heap.size ≤ w1.heap.size) : ∀ k ∈ ob v1, we.heap.size ≤ k := fun k hk => by
  rcases h k hk with h1 | h1
  · exact h0 k h1
  · omega
theorem apart_nil {S : Nat → Prop} : ∀ b ∈ ob (.slice none 0 0), ¬ S b := by simp [ob_nil]
theorem in_left {p : Nat → Prop} {X : List Nat} {W : List Nat} (h : ∀ m ∈ X, m ∈ W ∨ p m) (Y : List Nat) : ∀ m ∈ X, m ∈ W ++ Y ∨ p m := fun m hm => (h m hm).imp (fun h => List.mem_append.2 (.inl h)) id
theorem in_right {p : Nat → Prop} {X : List Nat} {W : List Nat} (Y : List Nat) (h : ∀ m ∈ X, m ∈ W ∨ p m) : ∀ m ∈ X, m ∈ Y ++ W ∨ p m := fun m hm => (h m hm).imp (fun h => List.mem_append.2 (.inr h)) id
end Go.Proofs.YtbaaojaoadjnmaeDoor.Gx
namespace Go.Proofs.YtbaaojaoadjnmaeDoor.Gx
theorem rng_end {β : Type} {xs : List β} {i : Nat} (h : xs.drop i = []) : decide ((i : Int) < (xs.length : Int)) = false := by
  have : xs.length ≤ i := by simpa using h
  exact decide_eq_false (by omega)
theorem rng_len {β : Type} {xs r : List β} {i : Nat} {y : β} (h : xs.drop i = y :: r) : i < xs.length := by
  by_cases hl : i < xs.length
  · exact hl
  · rw [List.drop_eq_nil_of_le (by omega)] at h; cases h
theorem rng_lt {β : Type} {xs r : List β} {i : Nat} {y : β} (h : xs.drop i = y :: r) : i < xs.length := rng_len h
theorem rng_more {β : Type} {xs r : List β} {i : Nat} {y : β} (h : xs.drop i = y :: r) : decide ((i : Int) < (xs.length : Int)) = true := by
  have := rng_len h
  exact decide_eq_true (by omega)
theorem rng_at {β : Type} {xs r : List β} {i : Nat} {y : β} (h : xs.drop i = y :: r) : xs[i]? = some y := by
  have : (xs.drop i)[0]? = some y := by rw [h]; rfl
  simpa using this
theorem rng_next {β : Type} {xs r : List β} {i : Nat} {y : β} (h : xs.drop i = y :: r) : xs.drop (i + 1) = r := by
  rw [← List.drop_drop, h]; rfl
section
variable {α : Type} {out : α} {n : Nat} {L : List (Nat × Value)} {w : World} {C : Act → World → Prop}
theorem G.inr {β : Type} {f : β → Option α} {b : β} (h : G out (f b) n L w C) : G out (retOr f (.inr b)) n L w C := h
theorem G.inr2 {R β γ : Type} {out : R ⊕ γ} {f : β → Option (R ⊕ γ)} {b : β} (h : G out (f b) n L w C) : G out (retOr2 f (.inr b)) n L w C := h
end
end Go.Proofs.YtbaaojaoadjnmaeDoor.Gx

namespace Go.Proofs.YtbaaojaoadjnmaeDoor.Gx
section
variable {α : Type} {out : α} {F : Option α} {n : Nat} {L : List (Nat × Value)} {w : World} {P : Program}
theorem G.retc {fn : Func} {R : Value → World → Prop} {p g : Nat} {t : TypeId} {cs : List Value} {sz : Nat} (hres : fn.results = #[.cell p t]) (hx : look L p = some (.pointer (some ⟨g, 0, none⟩))) (hA : Ag P t true) (hS : Sz P t sz) (hC : Cs w g 0 cs) (hl : cs.length = sz)
    (h : F = some out → R (.agg cs.toArray) w) : G out F n L w (bodyPost P fn (Rets R) .ret) := fun hF a ha => by
  have h1 := ha.at_ _ _ hx
  subst hl
  refine bodyPost_ret (v := .agg cs.toArray) ?_ ha.defers ⟨_, rfl, h hF⟩
  simp only [results, hres, h1, Array.getD_eq_getD_getElem?, Option.getD_some]
  have := run_loadVar_agg (P := P) (w := w) hA hS hC
  simp [this, h1, asAddr]
end
end Go.Proofs.YtbaaojaoadjnmaeDoor.Gx
