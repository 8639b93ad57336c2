/- ReplayTexts: Text and Read of package replay give what the reference gives, for every list of choices and text of bulk at most 1048576. This text: strconv.Atoi at every string. Conditions: none beyond those that the statement itself names. -/
import Derived.Test.YtbaaojaoadjnmaeDoorGxN
import Derived.Shelf.Strconv.ErrVarAll
namespace Go.Proofs.YtbaaojaoadjnmaeDoor.Gx
open Go.RowKit Go.Shelf Go.Proofs
theorem atoi_calls {P : Program} {ρ : Ren} {S : Nat → Prop} {w : World} (L : LaysC.n172 P ρ) (hS : ∀ b, S b → b < w.heap.size) (hV : Vars P S w) (s : Str) {out : Int × Bool} (h : atoiF s = some out) :
    Calls P (ρ.f 172) [bs s].toArray w (Rets fun v w' => ∃ S', Up [] S w S' w' ∧ ∃ e, v = .tuple [.int .i64 out.1, e].toArray ∧ IsErr e out.2) := by
  unfold atoiF at h
  split at h
  · next hl =>
    have hz : (⟨s.toArray⟩ : ByteArray).size = s.length := by simp [ByteArray.size]
    obtain ⟨tp, p, hs⟩ := hV.syn
    obtain ⟨tq, q, hr⟩ := hV.rng
    cases ha : Lib.atoiAll s
    · next v =>
      rw [ha] at h
      cases h
      refine (Any.strconv_Atoi_ok L ⟨s.toArray⟩ (by omega) v ha w).mono ?_
      rintro e w' ⟨rfl, hw⟩
      refine ⟨_, rfl, S, ?_, _, rfl, IsErr.nil⟩
      rcases hw with rfl | ⟨t, rfl⟩
      · exact Up.refl hS
      · exact Up.of_le hS (Le.of_below (Lib.bytesWorld_below _ _ _))
    · rw [ha] at h
      cases h
      refine (Any.strconv_Atoi_syntax_var L ⟨s.toArray⟩ (by omega) ha tp p w hs.var).mono ?_
      rintro e w' ⟨N, rfl, _, _, hb⟩
      exact ⟨_, rfl, S, Up.of_le hS (Le.of_below hb), _, rfl, IsErr.some⟩
    · rw [ha] at h
      cases h
      refine (Any.strconv_Atoi_range_var L ⟨s.toArray⟩ (by omega) ha tq q w hr.var).mono ?_
      rintro e w' ⟨N, rfl, _, _, hb⟩
      exact ⟨_, rfl, S, Up.of_le hS (Le.of_below hb), _, rfl, IsErr.some⟩
  · cases h
end Go.Proofs.YtbaaojaoadjnmaeDoor.Gx
