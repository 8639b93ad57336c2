/- roadstead: ScopeSays. This text: ScP1. Conditions: none beyond those that the statement itself names. -/
import Derived.Test.YthbgngdoihkodacSc4
namespace Go.Proofs.Ythbgngdoihkodac.Hx
open Go Go.Proofs.Ythbgngdoihkodac.Hx Go.RowKit Go.Proofs

/-! ### maps -/
section
variable {κ ν : Type} [DecidableEq κ]
theorem mget_mput : ∀ (m : List (κ × ν)) (k z : κ) (x : ν), mget (mput m k x) z = if k = z then some x else mget m z
  | [], k, z, x => by simp [mput, mget]
  | (a, y) :: m, k, z, x => by
    simp only [mput]
    by_cases h : a = k
    · subst h; by_cases h1 : a = z <;> simp [mget, h1]
    · simp only [if_neg h, mget, mget_mput m k z x]
      by_cases h1 : a = z
      · subst h1; simp [Ne.symm h]
      · simp [h1]
end
theorem app_ok {β : Type} {lim : Nat} {xs ys : List β} (h : xs.length + ys.length ≤ lim) : app lim xs ys = some (xs ++ ys) := by simp [app, h]

/-! ### does a name stand twice? -/
def dup (l : List Str) : Bool := !decide l.Nodup
theorem dup_true {l : List Str} : dup l = true ↔ ¬ l.Nodup := by simp [dup]
theorem twice_l1 : ∀ (xs : List Str) (m : List (Str × Bool)) (seen : List Str), (∀ y, (mget m y).getD false = decide (y ∈ seen)) →
    scope_Twice.l1 xs m = some (if (∃ x ∈ xs, x ∈ seen) ∨ ¬ xs.Nodup then .inl true else .inr ())
  | [], m, seen, h => by simp [scope_Twice.l1]
  | x :: xs, m, seen, h => by
    rw [scope_Twice.l1, h x]
    by_cases hx : x ∈ seen
    · simp [hx]
    · have := twice_l1 xs (mput m x true) (x :: seen) (fun y => by
        rw [mget_mput]
        by_cases hxy : x = y
        · subst hxy; simp
        · simp [hxy, h y, Ne.symm hxy])
      simp only [hx, decide_false, Bool.false_eq_true, if_false, this]
      congr 1
      have e : ((∃ y ∈ xs, y ∈ x :: seen) ∨ ¬ xs.Nodup) ↔ ((∃ y ∈ x :: xs, y ∈ seen) ∨ ¬ (x :: xs).Nodup) := by
        simp only [List.nodup_cons, List.mem_cons]
        constructor
        · rintro (⟨y, h1, rfl | h2⟩ | h1)
          · exact .inr fun h => h.1 h1
          · exact .inl ⟨y, .inr h1, h2⟩
          · exact .inr fun h => h1 h.2
        · rintro (⟨y, rfl | h1, h2⟩ | h1)
          · exact absurd h2 hx
          · exact .inl ⟨y, h1, .inr h2⟩
          · by_cases h3 : x ∈ xs
            · exact .inl ⟨x, h3, .inl rfl⟩
            · exact .inr fun h4 => h1 ⟨h3, h4⟩
      by_cases hc : (∃ y ∈ xs, y ∈ x :: seen) ∨ ¬ xs.Nodup
      · rw [if_pos hc, if_pos (e.1 hc)]
      · rw [if_neg hc, if_neg (fun h => hc (e.2 h))]
theorem twice (l : List Str) : scope_Twice l = some (dup l) := by
  rw [scope_Twice, twice_l1 l [] [] (by simp [mget])]
  by_cases h : l.Nodup <;> simp [h, dup, retOr]
theorem doubled (l : List Str) (hl : l.length ≤ 1048576) : roadref2_doubled l = some (dup l) := by
  unfold roadref2_doubled slices_Clone_string_string slices_Sort_string_string slices_Compact_string_string
  rw [cloneF_eq (by omega)]
  simp only [Option.bind_some, sortF]
  rw [if_pos (by omega)]
  simp only [Option.bind_some, Option.some.injEq]
  have hp : (l.mergeSort fun x y => decide (x ≤ y)).Perm l := List.mergeSort_perm _ _
  have hs : (l.mergeSort fun x y => decide (x ≤ y)).Pairwise fun x y => decide (x ≤ y) = true := List.pairwise_mergeSort (fun a b c h1 h2 => by
    simp only [decide_eq_true_eq] at *; exact List.le_trans h1 h2) (fun a b => by
    simp only [Bool.or_eq_true, decide_eq_true_eq]; exact List.le_total a b) l
  generalize l.mergeSort (fun x y => decide (x ≤ y)) = s at hp hs
  rw [← hp.length_eq]
  have hn : l.Nodup ↔ s.Nodup := hp.nodup_iff.symm
  have key : (Lib.compact s).length < s.length ↔ ¬ s.Nodup := by
    unfold Lib.compact Lib.compactUpTo
    rw [List.length_map]
    have h0 : s.length = (List.range s.length).length := by simp
    constructor
    · intro h hnd
      rw [List.filter_eq_self.2 (fun j hj => ?_)] at h
      · simp at h
      · have hj : j < s.length := by simpa using hj
        by_cases h1 : j = 0
        · subst h1; simp [Lib.keeps]
        · refine Lib.keeps_pos fun he => ?_
          have h2 : j - 1 < s.length := by omega
          simp only [List.getElem!_toArray, List.getElem!_eq_getElem?_getD, List.getElem?_eq_getElem hj, List.getElem?_eq_getElem h2, Option.getD_some] at he
          rw [List.Nodup, List.pairwise_iff_getElem] at hnd
          exact hnd (j - 1) j h2 hj (by omega) he.symm
    · intro hnd
      rcases Nat.lt_or_ge ((List.range s.length).filter (Lib.keeps s.toArray)).length s.length with h | h
      · exact h
      · exfalso
        apply hnd
        have hall : (List.range s.length).filter (Lib.keeps s.toArray) = List.range s.length := (List.filter_sublist (p := Lib.keeps s.toArray)).eq_of_length (by
          have := List.length_filter_le (Lib.keeps s.toArray) (List.range s.length)
          simp at this ⊢; omega)
        have hk := List.filter_eq_self.1 hall
        have hadj : ∀ j, (h1 : j + 1 < s.length) → s[j] ≠ s[j + 1] := fun j h1 he => by
          have h2 := hk (j + 1) (by simpa using h1)
          rw [Lib.keeps_neg (by omega)] at h2
          · cases h2
          · simp [List.getElem!_eq_getElem?_getD, h1, show j < s.length by omega, he]
        rw [List.Nodup, List.pairwise_iff_getElem]
        intro i j hi hj hij he
        rw [List.pairwise_iff_getElem] at hs
        have h1 : i + 1 < s.length := by omega
        have h2 : s[i] ≤ s[i + 1] := by simpa using hs i (i + 1) hi h1 (by omega)
        have h3 : s[i + 1] ≤ s[j] := by
          by_cases h4 : i + 1 = j
          · subst h4; exact List.le_refl _
          · simpa using hs (i + 1) j h1 hj (by omega)
        rw [← he] at h3
        exact hadj i h1 (List.le_antisymm h2 h3)
  simp only [dup]
  by_cases h : s.Nodup
  · have h2 : ¬ (Lib.compact s).length < s.length := fun h3 => key.1 h3 h
    simp [hn, h, h2]
  · have h2 := key.2 h
    simp [hn, h, h2]
end Go.Proofs.Ythbgngdoihkodac.Hx
