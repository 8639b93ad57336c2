/- ReplayTexts: Text and Read of package replay give what the reference gives, for every list of choices and text of bulk at most 1048576. This text: strings cut at a byte; numerals. Conditions: none beyond those that the statement itself names. -/
import Derived.Test.YtbaaojaoadjnmaeDoorGxN
import Derived.Lib.ItoaLen
namespace Go.Proofs.YtbaaojaoadjnmaeDoor.Gx

/-! ### strings cut at a byte -/
def spl (c : UInt8) : Str → List Str
  | [] => [[]]
  | b :: s => if b = c then [] :: spl c s else match spl c s with | p :: ps => (b :: p) :: ps | [] => [[b]]
theorem ix_ge (s : Str) (c : UInt8) : -1 ≤ Lib.indexByte s c := Lib.indexByte_ge s c
theorem ix_none {c : UInt8} : ∀ {s : Str}, s.count c = 0 → Lib.indexByte s c = -1
  | [], _ => rfl
  | b :: s, h => by
    have hb : b ≠ c := fun e => by subst e; simp at h
    rw [List.count_cons_of_ne hb] at h
    simp [Lib.indexByte, hb, ix_none h]
theorem ix_some {c : UInt8} : ∀ {s : Str}, 0 < s.count c → 0 ≤ Lib.indexByte s c ∧ (Lib.indexByte s c).toNat < s.length
  | [], h => by simp at h
  | b :: s, h => by
    by_cases hb : b = c
    · subst hb; simp [Lib.indexByte]
    · rw [List.count_cons_of_ne hb] at h
      obtain ⟨h1, h2⟩ := ix_some h
      have : Lib.indexByte s c ≠ -1 := by omega
      simp [Lib.indexByte, hb, this]; omega
theorem splitK_eq (c : UInt8) : ∀ s : Str, Lib.splitK [c] 0 (s.count c) s = spl c s
  | [] => rfl
  | b :: s => by
    have ih := splitK_eq c s
    by_cases hb : b = c
    · subst hb
      rw [List.count_cons_self, spl, if_pos rfl, ← ih]
      simp [Lib.splitK, Lib.index_one, Lib.indexByte]
    · rw [List.count_cons_of_ne hb, spl, if_neg hb, ← ih]
      cases hk : s.count c with
      | zero => rfl
      | succ k =>
        obtain ⟨h1, h2⟩ := ix_some (c := c) (s := s) (by omega)
        have h3 : Lib.indexByte s c ≠ -1 := by omega
        have h4 : Lib.indexByte (b :: s) c = Lib.indexByte s c + 1 := by simp [Lib.indexByte, hb, h3]
        have h5 : Lib.indexByte s c + 1 ≠ -1 := by omega
        have h6 : (Lib.indexByte s c + 1).toNat = (Lib.indexByte s c).toNat + 1 := by omega
        simp [Lib.splitK, Lib.index_one, h4, h3, h5, h6]
theorem split_spl (s : Str) (c : UInt8) : Lib.split s [c] = spl c s := by
  unfold Lib.split; rw [Lib.count_one, splitK_eq]
theorem splitF_eq {s : Str} {c : UInt8} (h : s.length < 4294967281) : splitF s [c] = some (spl c s) := by simp [splitF, h, split_spl]
theorem spl_ne (c : UInt8) (s : Str) : spl c s ≠ [] := by
  cases s with
  | nil => simp [spl]
  | cons b s => unfold spl; split; simp; split <;> simp
theorem spl_app {c : UInt8} {s : Str} : ∀ {p : Str}, c ∉ p → spl c (p ++ c :: s) = p :: spl c s
  | [], _ => by simp [spl]
  | b :: p, h => by
    have hb : b ≠ c := fun e => h (by simp [e])
    have := spl_app (c := c) (s := s) (p := p) (fun hm => h (List.mem_cons_of_mem _ hm))
    rw [List.cons_append, spl, if_neg hb, this]
theorem spl_none {c : UInt8} : ∀ {p : Str}, c ∉ p → spl c p = [p]
  | [], _ => rfl
  | b :: p, h => by
    have hb : b ≠ c := fun e => h (by simp [e])
    have := spl_none (c := c) (p := p) (fun hm => h (List.mem_cons_of_mem _ hm))
    rw [spl, if_neg hb, this]
theorem spl_join {c : UInt8} : ∀ {ps : List Str}, ps ≠ [] → (∀ p ∈ ps, c ∉ p) → spl c (Lib.join ps [c]) = ps
  | [], h, _ => absurd rfl h
  | [p], _, h => by rw [Lib.join_one]; exact spl_none (h p (by simp))
  | p :: q :: ps, _, h => by
    have e : Lib.join (p :: q :: ps) [c] = p ++ c :: Lib.join (q :: ps) [c] := by
      rw [Lib.join_cons, Lib.join_cons]; simp [Lib.joinTail]
    rw [e, spl_app (h p (by simp)), spl_join (by simp) (fun r hr => h r (List.mem_cons_of_mem _ hr))]
theorem spl_length (c : UInt8) : ∀ s : Str, (spl c s).length = s.count c + 1
  | [] => rfl
  | b :: s => by
    have ih := spl_length c s
    unfold spl
    by_cases hb : b = c
    · subst hb; simp [ih]
    · rw [if_neg hb, List.count_cons_of_ne hb, ← ih]
      cases hs : spl c s with
      | nil => exact absurd hs (spl_ne c s)
      | cons p ps => simp
theorem spl_mem_length {c : UInt8} : ∀ {s p : Str}, p ∈ spl c s → p.length ≤ s.length
  | [], p, h => by simp [spl] at h; simp [h]
  | b :: s, p, h => by
    unfold spl at h
    by_cases hb : b = c
    · rw [if_pos hb] at h
      rcases List.mem_cons.1 h with rfl | h
      · simp
      · have := spl_mem_length h; simp; omega
    · rw [if_neg hb] at h
      cases hs : spl c s with
      | nil => exact absurd hs (spl_ne c s)
      | cons q qs =>
        rw [hs] at h
        simp only at h
        rcases List.mem_cons.1 h with rfl | h
        · have := spl_mem_length (c := c) (s := s) (p := q) (by rw [hs]; simp); simp; omega
        · have := spl_mem_length (c := c) (s := s) (p := p) (by rw [hs]; simp [h]); simp; omega
theorem spl_head {c : UInt8} {s : Str} (h : 0 < s.count c) : spl c s = s.take (Lib.indexByte s c).toNat :: spl c (s.drop ((Lib.indexByte s c).toNat + 1)) := by
  induction s with
  | nil => simp at h
  | cons b s ih =>
    by_cases hb : b = c
    · subst hb; simp [spl, Lib.indexByte]
    · rw [List.count_cons_of_ne hb] at h
      obtain ⟨h1, h2⟩ := ix_some h
      have h3 : Lib.indexByte s c ≠ -1 := by omega
      have h4 : Lib.indexByte (b :: s) c = Lib.indexByte s c + 1 := by simp [Lib.indexByte, hb, h3]
      have h6 : (Lib.indexByte s c + 1).toNat = (Lib.indexByte s c).toNat + 1 := by omega
      rw [spl, if_neg hb, ih h, h4, h6]
      rfl

/-! ### numerals -/
theorem decDigits_digit (u : Nat) : ∀ b ∈ Lib.decDigits u, 48 ≤ b.toNat ∧ b.toNat ≤ 57 := by
  induction u using Nat.strongRecOn with
  | _ u ih =>
    intro b hb
    rw [Lib.decDigits] at hb
    have hd : ∀ k, k < 10 → 48 ≤ (UInt8.ofNat (48 + k)).toNat ∧ (UInt8.ofNat (48 + k)).toNat ≤ 57 := fun k hk => by
      rw [UInt8.toNat_ofNat']; omega
    split at hb
    · next h => rw [List.mem_singleton] at hb; subst hb; exact hd u h
    · next h =>
      rcases List.mem_append.1 hb with hb | hb
      · exact ih _ (by omega) b hb
      · rw [List.mem_singleton] at hb; subst hb; exact hd _ (by omega)
theorem itoa_digit {n : Int} (h : 0 ≤ n) : ∀ b ∈ Lib.itoa n, 48 ≤ b.toNat ∧ b.toNat ≤ 57 := by
  unfold Lib.itoa; rw [if_neg (by omega)]; exact decDigits_digit _
theorem itoaF_eq {n : Int} (h0 : -9223372036854775808 ≤ n) (h1 : n ≤ 9223372036854775807) : itoaF n = some (Lib.itoa n) := by simp [itoaF, h0, h1]
theorem atoi_total {s : Str} (h : s.length ≤ 281474976710656) : ∃ r, atoiF s = some r := ⟨_, by unfold atoiF; rw [if_pos h]⟩
theorem app_eq {β : Type} {lim : Nat} {xs ys : List β} (h : xs.length + ys.length ≤ lim) : app lim xs ys = some (xs ++ ys) := by simp [app, h]
theorem catl_eq {a b : Str} (h : a.length + b.length ≤ 9223372036854775807) : catl a b = some (a ++ b) := by simp [catl, h]
theorem sub_eq {β : Type} {xs : List β} {i j : Nat} (h1 : i ≤ j) (h2 : j ≤ xs.length) : sub xs (i : Int) (j : Int) = some ((xs.take j).drop i) := by
  unfold sub; rw [if_pos (by omega)]; simp
end Go.Proofs.YtbaaojaoadjnmaeDoor.Gx
