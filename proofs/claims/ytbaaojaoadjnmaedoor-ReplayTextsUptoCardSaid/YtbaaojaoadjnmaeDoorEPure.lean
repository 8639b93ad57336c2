/- ReplayTexts: Text and Read of package replay give what the reference gives, for every list of choices and text of bulk at most 1048576. This text: the plain law, first half. Conditions: none beyond those that the statement itself names. -/
import Derived.Test.YtbaaojaoadjnmaeDoorEWalk
import Derived.Test.YtbaaojaoadjnmaeDoorGxQ
import Derived.Lib.AtoiAll
namespace Go.Proofs.YtbaaojaoadjnmaeDoor.Gx
open Go Go.Proofs.YtbaaojaoadjnmaeDoor.Gx

def In64 (n : Int) : Prop := -9223372036854775808 ≤ n ∧ n ≤ 9223372036854775807
def Wf (c : T_Choice) : Prop := In64 c.fA ∧ In64 c.fB
def bad (c : T_Choice) : Bool := (((((decide (c.fKind < 1)) || (decide (c.fKind > 3))) || (decide (c.fA < 0))) || (decide (c.fB < 0))) || ((c.fB != 0) && (c.fKind != 2)))
def letter (k : Int) : Str := if k = 1 then [103] else if k = 2 then [99] else [108]
def piece (c : T_Choice) : Str := letter c.fKind ++ Lib.itoa c.fA ++ (if c.fKind = 2 then 45 :: Lib.itoa c.fB else [])
theorem ok_of {c : T_Choice} (h : bad c = false) : 1 ≤ c.fKind ∧ c.fKind ≤ 3 ∧ 0 ≤ c.fA ∧ 0 ≤ c.fB ∧ (c.fKind ≠ 2 → c.fB = 0) := by
  unfold bad at h
  simp only [Bool.or_eq_false_iff, Bool.and_eq_false_iff, decide_eq_false_iff_not, bne_eq_false_iff_eq] at h
  omega
theorem letter_sub {k : Int} (h1 : 1 ≤ k) (h2 : k ≤ 3) : sub [103, 99, 108] (subI k 1) k = some (letter k) ∧ nth ([[], [103], [99], [108]] : List Str) k = some (letter k) := by
  have : k = 1 ∨ k = 2 ∨ k = 3 := by omega
  rcases this with rfl | rfl | rfl <;> exact ⟨by kernel_rfl, by kernel_rfl⟩
theorem letter_len (k : Int) : (letter k).length = 1 := by unfold letter; split; rfl; split <;> rfl
theorem itoa_ok {n : Int} (h : In64 n) : strconv_Itoa n = some (Lib.itoa n) ∧ (Lib.itoa n).length ≤ 21 := ⟨itoaF_eq h.1 h.2, Lib.itoa_length_le n h.1 h.2⟩
theorem piece_len {c : T_Choice} (h : Wf c) : (piece c).length ≤ 44 := by
  have a := (itoa_ok h.1).2
  have b := (itoa_ok h.2).2
  have l := letter_len c.fKind
  unfold piece
  split <;> simp only [List.length_append, List.length_cons, List.length_nil] <;> omega

theorem text_l1 : ∀ (l : List T_Choice) (acc : List Str), (∀ y ∈ l, Wf y) → acc.length + l.length ≤ 8796093022208 →
    replay_Text.l1 l acc = some (if l.any bad = true then .inl ([], 3) else .inr (acc ++ l.map piece))
  | [], acc, _, _ => by simp [replay_Text.l1]
  | y :: l, acc, h, hl => by
    simp only [List.length_cons] at hl
    have hy := h y (by simp)
    have ih := text_l1 l (acc ++ [piece y]) (fun z hz => h z (List.mem_cons_of_mem _ hz)) (by simp; omega)
    rw [replay_Text.l1, show (((((decide (y.fKind < 1)) || (decide (y.fKind > 3))) || (decide (y.fA < 0))) || (decide (y.fB < 0))) || ((y.fB != 0) && (y.fKind != 2))) = bad y from rfl]
    by_cases hb : bad y = true
    · rw [if_pos hb]; simp [hb]
    · have hb' : bad y = false := by simpa using hb
      obtain ⟨k1, k2, k3, k4, k5⟩ := ok_of hb'
      obtain ⟨a1, a2⟩ := itoa_ok hy.1
      obtain ⟨b1, b2⟩ := itoa_ok hy.2
      have hlen := letter_len y.fKind
      rw [if_neg hb, (letter_sub k1 k2).1]
      simp only [Option.bind_some]
      rw [a1]
      simp only [Option.bind_some]
      rw [catl_eq (by omega)]
      simp only [Option.bind_some]
      have hp : (if (y.fKind == 2) = true then (strconv_Itoa y.fB).bind fun r146 => (catl ([45] : Str) r146).bind fun s153 => (catl (letter y.fKind ++ Lib.itoa y.fA) s153).bind fun s155 => some s155 else some (letter y.fKind ++ Lib.itoa y.fA)) = some (piece y) := by
        by_cases e : y.fKind = 2
        · rw [if_pos (by simpa using e), b1]
          simp only [Option.bind_some]
          rw [catl_eq (by simp; omega)]
          simp only [Option.bind_some]
          rw [catl_eq (by simp; omega)]
          simp [piece, e]
        · rw [if_neg (by simpa using e)]; simp [piece, e]
      rw [hp]
      simp only [Option.bind_some]
      rw [app_eq (by simp; omega)]
      simp only [Option.bind_some]
      rw [ih]; simp [hb']
theorem ctext_l1 : ∀ (l : List T_Choice) (i : Nat) (s : Str), (∀ y ∈ l, Wf y) → s.length + 50 * l.length ≤ 1099511627776 →
    roadref5_ChoiceText.l1 l i s = some (if l.any bad = true then .inl ([], 3) else .inr (s ++ (if i = 0 then Lib.join (l.map piece) [32] else Lib.joinTail [32] (l.map piece))))
  | [], i, s, _, _ => by simp [roadref5_ChoiceText.l1, Lib.join_nil, Lib.joinTail]
  | y :: l, i, s, h, hl => by
    simp only [List.length_cons] at hl
    have hy := h y (by simp)
    have hlen := piece_len hy
    have ih := ctext_l1 l (i + 1) (s ++ (if i = 0 then [] else [32]) ++ piece y) (fun z hz => h z (List.mem_cons_of_mem _ hz)) (by
      have : ((if i = 0 then [] else [32] : Str)).length ≤ 1 := by split <;> simp
      simp only [List.length_append]; omega)
    rw [if_neg (show ¬ (i + 1 = 0) by omega)] at ih
    rw [roadref5_ChoiceText.l1, show (((((decide (y.fKind < 1)) || (decide (y.fKind > 3))) || (decide (y.fA < 0))) || (decide (y.fB < 0))) || ((y.fB != 0) && (y.fKind != 2))) = bad y from rfl]
    by_cases hb : bad y = true
    · rw [if_pos hb]; simp [hb]
    · have hb' : bad y = false := by simpa using hb
      obtain ⟨k1, k2, k3, k4, k5⟩ := ok_of hb'
      obtain ⟨a1, a2⟩ := itoa_ok hy.1
      obtain ⟨b1, b2⟩ := itoa_ok hy.2
      have hll := letter_len y.fKind
      rw [if_neg hb]
      have h0 : ((if (decide ((i : Int) > 0)) = true then (catl s ([32] : Str)).bind fun s83 => some s83 else some s)) = some (s ++ (if i = 0 then [] else [32])) := by
        by_cases e : i = 0
        · subst e; simp
        · rw [if_pos (by simp; omega), catl_eq (by simp; omega)]; simp [e]
      rw [h0]
      simp only [Option.bind_some]
      rw [(letter_sub k1 k2).2]
      simp only [Option.bind_some]
      rw [a1]
      simp only [Option.bind_some]
      have hsl : (s ++ (if i = 0 then [] else [32])).length ≤ s.length + 1 := by split <;> simp
      rw [catl_eq (by omega)]
      simp only [Option.bind_some]
      rw [catl_eq (by simp only [List.length_append] at *; omega)]
      simp only [Option.bind_some]
      have hfin : ∀ x : Str, x = s ++ (if i = 0 then [] else [32]) ++ piece y → roadref5_ChoiceText.l1 l (i + 1) x = some (if (y :: l).any bad = true then .inl ([], 3) else .inr (s ++ (if i = 0 then Lib.join ((y :: l).map piece) [32] else Lib.joinTail [32] ((y :: l).map piece)))) := by
        rintro x rfl
        rw [ih]
        by_cases e : i = 0
        · simp [e, hb', Lib.join_cons, List.append_assoc]
        · simp [e, hb', Lib.joinTail, List.append_assoc]
      by_cases e : y.fKind = 2
      · rw [if_pos (show (y.fKind == 2) = true by simpa using e), b1]
        simp only [Option.bind_some]
        rw [catl_eq (by simp; omega)]
        simp only [Option.bind_some]
        rw [catl_eq (by simp only [List.length_append, List.length_cons, List.length_nil] at *; omega)]
        simp only [Option.bind_some]
        exact hfin _ (by simp [piece, e])
      · rw [if_neg (show ¬ ((y.fKind == 2) = true) by simpa using e)]
        exact hfin _ (by simp [piece, e])
theorem joinTail_len : ∀ {l : List T_Choice}, (∀ y ∈ l, Wf y) → (Lib.joinTail [32] (l.map piece)).length ≤ 45 * l.length
  | [], _ => by simp [Lib.joinTail]
  | y :: l, h => by
    have := joinTail_len (l := l) (fun z hz => h z (List.mem_cons_of_mem _ hz))
    have := piece_len (h y (by simp))
    simp only [Lib.joinTail, List.map_cons, List.flatten_cons, List.length_append, List.length_cons, List.length_nil] at *
    omega
theorem join_len {l : List T_Choice} (h : ∀ y ∈ l, Wf y) : (Lib.join (l.map piece) [32]).length ≤ 45 * l.length := by
  cases l with
  | nil => simp [Lib.join_nil]
  | cons y l =>
    have h1 := joinTail_len (l := l) (fun z hz => h z (List.mem_cons_of_mem _ hz))
    have h2 := piece_len (h y (by simp))
    rw [List.map_cons, Lib.join_cons]
    simp only [List.length_append, List.length_cons]
    omega
def txt (l : List T_Choice) : Str × Int := if l.any bad = true then ([], 3) else (Lib.join (l.map piece) [32], 0)
theorem texts {l : List T_Choice} (hw : ∀ y ∈ l, Wf y) (hl : l.length ≤ 17179869184) : replay_Text l = some (txt l) ∧ roadref5_ChoiceText l = some (txt l) := by
  unfold replay_Text roadref5_ChoiceText txt
  rw [text_l1 l [] hw (by simp; omega), ctext_l1 l 0 [] hw (by simp; omega)]
  by_cases hb : l.any bad = true
  · rw [if_pos hb, if_pos hb, if_pos hb]; exact ⟨rfl, rfl⟩
  · rw [if_neg hb, if_neg hb, if_neg hb]
    have e3 : strings_Join (l.map piece) [32] = some (Lib.join (l.map piece) [32]) := by
      have := join_len hw
      show joinF _ _ = _
      unfold joinF; rw [if_pos]
      rw [List.length_map]; omega
    constructor
    · simp only [Option.bind_some, retOr, List.nil_append]; rw [e3]; rfl
    · simp [retOr]
end Go.Proofs.YtbaaojaoadjnmaeDoor.Gx
