/- VersionTexts: Text and Read of package version give what the reference gives, for every list and text of bulk at most 1048576. This text: the plain law, first half. Conditions: none beyond those that the statement itself names. -/
import Derived.Test.YtbaaojaoadjnmafDoorFWalk
import Derived.Test.YtbaaojaoadjnmafDoorGxQ
namespace Go.Proofs.YtbaaojaoadjnmafDoor.Gx
open Go Go.Proofs.YtbaaojaoadjnmafDoor.Gx

def pr (r : T_Range) : A2_Int := ⟨r.fLow, r.fHigh⟩
def Rt (r : T_Range) : Prop := 1 ≤ r.fLow ∧ r.fHigh ≤ 9999 ∧ r.fLow ≤ r.fHigh
instance (r : T_Range) : Decidable (Rt r) := inferInstanceAs (Decidable (_ ∧ _))
theorem right_eq (r : T_Range) : version_right r = some (decide (Rt r)) := by
  unfold version_right
  congr 1
  rw [Bool.eq_iff_iff, decide_eq_true_iff]
  unfold Rt
  simp [and_assoc]

theorem check_l1 (l : List T_Range) (hl : l.length ≤ 1099511627776) : ∀ (rest pre : List T_Range) (last : Int), l = pre ++ rest →
    (pre = [] ∧ last = -1 ∨ ∃ p q, pre = p ++ [q] ∧ last = q.fHigh ∧ 1 ≤ q.fHigh ∧ q.fHigh ≤ 9999) →
    ∃ r, version_Check.l1 l rest pre.length = some r ∧ roadref5_VersionFault.l1 (rest.map pr) last = some r ∧ ((r = .inr () ∧ ∀ y ∈ rest, Rt y) ∨ ∃ v, r = .inl v ∧ v ≠ 0)
  | [], pre, last, _, _ => ⟨.inr (), rfl, rfl, .inl ⟨rfl, fun y hy => absurd hy (by simp)⟩⟩
  | y :: rest, pre, last, he, hp => by
    by_cases hR : Rt y
    · have hb : (((decide ((pr y).e0 < 1)) || (decide ((pr y).e1 > 9999))) || (decide ((pr y).e0 > (pr y).e1))) = false := by
        obtain ⟨h1, h2, h3⟩ := hR
        show ((decide (y.fLow < 1) || decide (y.fHigh > 9999)) || decide (y.fLow > y.fHigh)) = false
        rw [decide_eq_false (by omega), decide_eq_false (by omega), decide_eq_false (by omega)]; rfl
      have hc : version_Check.l1 l (y :: rest) pre.length = (if (decide ((pre.length : Int) > 0)) = true then (nth l (subI (pre.length : Int) 1)).bind fun y114 => some (decide (y.fLow ≤ (addI y114.fHigh 1))) else some false).bind fun t116 => (if t116 = true then some (.inl 21) else version_Check.l1 l rest (pre.length + 1)) := by
        rw [version_Check.l1, right_eq, decide_eq_true hR]; rfl
      have hv : roadref5_VersionFault.l1 ((y :: rest).map pr) last = (if ((decide ((pr y).e0 ≤ (addI last 1))) && (decide (last > 0))) = true then some (.inl 21) else roadref5_VersionFault.l1 (rest.map pr) (pr y).e1) := by
        rw [List.map_cons, roadref5_VersionFault.l1, if_neg (by rw [hb]; decide)]
      have next : ∃ r, version_Check.l1 l rest (pre.length + 1) = some r ∧ roadref5_VersionFault.l1 (rest.map pr) (pr y).e1 = some r ∧ ((r = .inr () ∧ ∀ y ∈ rest, Rt y) ∨ ∃ v, r = .inl v ∧ v ≠ 0) := by
        have := check_l1 l hl rest (pre ++ [y]) y.fHigh (by simp [he]) (.inr ⟨pre, y, rfl, rfl, by obtain ⟨h1, h2, h3⟩ := hR; omega, hR.2.1⟩)
        rwa [List.length_append, List.length_singleton] at this
      obtain ⟨r, h1, h2, h3⟩ := next
      have h3' : (r = .inr () ∧ ∀ z ∈ y :: rest, Rt z) ∨ ∃ v, r = .inl v ∧ v ≠ 0 := h3.imp (fun ⟨a, b⟩ => ⟨a, fun z hz => (List.mem_cons.1 hz).elim (fun e => e ▸ hR) (b z)⟩) id
      rcases hp with ⟨rfl, rfl⟩ | ⟨p, q, rfl, rfl, hq1, hq2⟩
      · refine ⟨r, ?_, ?_, h3'⟩
        · rw [hc]; simpa using h1
        · rw [hv]; simpa using h2
      · have hn : nth l (subI ((p ++ [q]).length : Int) 1) = some q := by
          have hs : subI ((p ++ [q]).length : Int) 1 = (p.length : Int) := by
            have h5 : p.length + 1 ≤ l.length := by rw [he]; simp
            rw [subI, wrap_id]
            all_goals first | omega | (simp; done) | (simp; omega)
          rw [hs, he]; simp [nth]
        have h0 : decide (((p ++ [q]).length : Int) > 0) = true := decide_eq_true (by rw [List.length_append, List.length_singleton]; omega)
        rw [hc, hv, if_pos h0, hn]
        have h6 : decide (q.fHigh > 0) = true := by simp; omega
        rw [h6, Bool.and_true]
        simp only [Option.bind_some]
        by_cases h7 : y.fLow ≤ addI q.fHigh 1
        · refine ⟨.inl 21, ?_, ?_, .inr ⟨21, rfl, by decide⟩⟩
          · simp [h7]
          · simp [pr, h7]
        · refine ⟨r, ?_, ?_, h3'⟩
          · simpa [h7] using h1
          · simpa [pr, h7] using h2
    · refine ⟨.inl 1, ?_, ?_, .inr ⟨1, rfl, by decide⟩⟩
      · rw [version_Check.l1, right_eq, decide_eq_false hR]; rfl
      · rw [List.map_cons, roadref5_VersionFault.l1, if_pos]
        unfold Rt at hR
        show ((decide (y.fLow < 1) || decide (y.fHigh > 9999)) || decide (y.fLow > y.fHigh)) = true
        rw [Bool.or_eq_true, Bool.or_eq_true, decide_eq_true_iff, decide_eq_true_iff, decide_eq_true_iff]; omega

theorem check_eq (l : List T_Range) (hl : l.length ≤ 1099511627776) : ∃ c, version_Check l = some c ∧ roadref5_VersionFault (l.map pr) = some c ∧ (c = 0 → l.length ≤ 50 ∧ ∀ y ∈ l, Rt y) := by
  unfold version_Check roadref5_VersionFault
  rw [List.length_map]
  by_cases h : (l.length : Int) > 50
  · exact ⟨2, by simp [h], by simp [h], fun e => absurd e (by decide)⟩
  · obtain ⟨r, h1, h2, h3⟩ := check_l1 l hl l [] (-1) rfl (.inl ⟨rfl, rfl⟩)
    have h1' : version_Check.l1 l l 0 = some r := h1
    rw [if_neg (by simpa using h), if_neg (by simpa using h), h1', h2]
    rcases h3 with ⟨rfl, h4⟩ | ⟨v, rfl, hv⟩
    · exact ⟨0, rfl, rfl, fun _ => ⟨by omega, h4⟩⟩
    · exact ⟨v, rfl, rfl, fun e => absurd e hv⟩

def piece (r : T_Range) : Str := Lib.itoa r.fLow ++ (if r.fHigh = r.fLow then [] else 45 :: Lib.itoa r.fHigh)
theorem itoa_ok {n : Int} (h0 : 1 ≤ n) (h1 : n ≤ 9999) : strconv_Itoa n = some (Lib.itoa n) ∧ (Lib.itoa n).length ≤ 21 :=
  ⟨itoaF_eq (by omega) (by omega), Lib.itoa_length_le n (by omega) (by omega)⟩
theorem piece_len {r : T_Range} (h : Rt r) : (piece r).length ≤ 43 := by
  obtain ⟨h1, h2, h3⟩ := h
  have a := (itoa_ok (n := r.fLow) (by omega) (by omega)).2
  have b := (itoa_ok (n := r.fHigh) (by omega) (by omega)).2
  unfold piece
  split <;> simp <;> omega
theorem piece_mem {r : T_Range} (h : Rt r) : ∀ b ∈ piece r, b = 45 ∨ (48 ≤ b.toNat ∧ b.toNat ≤ 57) := by
  obtain ⟨h1, h2, h3⟩ := h
  intro b hb
  unfold piece at hb
  rcases List.mem_append.1 hb with hb | hb
  · exact .inr (itoa_digit (by omega) b hb)
  · split at hb
    · simp at hb
    · rcases List.mem_cons.1 hb with hb | hb
      · exact .inl hb
      · exact .inr (itoa_digit (by omega) b hb)
theorem no_comma {r : T_Range} (h : Rt r) : (44 : UInt8) ∉ piece r := fun hm => by
  rcases piece_mem h _ hm with e | e
  · exact absurd e (by decide)
  · exact absurd e (by decide)
theorem itoa_count {n : Int} (h : 0 ≤ n) : (Lib.itoa n).count 45 = 0 := by
  rw [List.count_eq_zero]
  intro hm
  exact absurd (itoa_digit h _ hm) (by decide)
theorem piece_count {r : T_Range} (h : Rt r) : (piece r).count 45 ≤ 1 := by
  obtain ⟨h1, h2, h3⟩ := h
  unfold piece
  rw [List.count_append, itoa_count (by omega)]
  split
  · simp
  · rw [List.count_cons_self, itoa_count (by omega)]; omega

theorem text_l1 : ∀ (l : List T_Range) (acc : List Str), (∀ y ∈ l, Rt y) → acc.length + l.length ≤ 8796093022208 → version_Text.l1 l acc = some (acc ++ l.map piece)
  | [], acc, _, _ => by simp [version_Text.l1]
  | y :: l, acc, h, hl => by
    have hy := h y (by simp)
    obtain ⟨h1, h2, h3⟩ := hy
    obtain ⟨a1, a2⟩ := itoa_ok (n := y.fLow) (by omega) (by omega)
    obtain ⟨b1, b2⟩ := itoa_ok (n := y.fHigh) (by omega) (by omega)
    simp only [List.length_cons] at hl
    have ih := text_l1 l (acc ++ [piece y]) (fun z hz => h z (List.mem_cons_of_mem _ hz)) (by simp; omega)
    have hp : ((if (y.fHigh != y.fLow) = true then (strconv_Itoa y.fHigh).bind fun r107 => (catl ([45] : Str) r107).bind fun s114 => (catl (Lib.itoa y.fLow) s114).bind fun s116 => some s116 else some (Lib.itoa y.fLow))) = some (piece y) := by
      by_cases e : y.fHigh = y.fLow
      · simp [e, piece]
      · rw [if_pos (by simpa using e), b1]
        simp only [Option.bind_some]
        rw [catl_eq (by simp; omega)]
        simp only [Option.bind_some]
        rw [catl_eq (by simp; omega)]
        simp [piece, e]
    rw [version_Text.l1, a1]
    simp only [Option.bind_some]
    rw [hp]
    simp only [Option.bind_some]
    rw [app_eq (by simp; omega)]
    simp only [Option.bind_some]
    rw [ih]; simp

theorem vtext_l1 : ∀ (l : List T_Range) (i : Nat) (s : Str), (∀ y ∈ l, Rt y) → s.length + 50 * l.length ≤ 1099511627776 →
    roadref5_VersionText.l1 (l.map pr) i s = some (s ++ (if i = 0 then Lib.join (l.map piece) [44] else Lib.joinTail [44] (l.map piece)))
  | [], i, s, _, _ => by simp [roadref5_VersionText.l1, Lib.join_nil, Lib.joinTail]
  | y :: l, i, s, h, hl => by
    have hy := h y (by simp)
    obtain ⟨h1, h2, h3⟩ := hy
    obtain ⟨a1, a2⟩ := itoa_ok (n := y.fLow) (by omega) (by omega)
    obtain ⟨b1, b2⟩ := itoa_ok (n := y.fHigh) (by omega) (by omega)
    simp only [List.length_cons] at hl
    have hlen := piece_len (h y (by simp))
    have ih := vtext_l1 l (i + 1) (s ++ (if i = 0 then [] else [44]) ++ piece y) (fun z hz => h z (List.mem_cons_of_mem _ hz)) (by
      have : ((if i = 0 then [] else [44] : Str)).length ≤ 1 := by split <;> simp
      simp only [List.length_append]; omega)
    rw [if_neg (show ¬ (i + 1 = 0) by omega)] at ih
    have h0 : ((if (decide ((i : Int) > 0)) = true then (catl s ([44] : Str)).bind fun s86 => some s86 else some s)) = some (s ++ (if i = 0 then [] else [44])) := by
      by_cases e : i = 0
      · subst e; simp
      · rw [if_pos (by simp; omega), catl_eq (by simp; omega)]; simp [e]
    rw [List.map_cons, roadref5_VersionText.l1, h0]
    simp only [Option.bind_some]
    rw [show strconv_Itoa (pr y).e0 = _ from a1]
    simp only [Option.bind_some]
    have hsl : (s ++ (if i = 0 then [] else [44])).length ≤ s.length + 1 := by split <;> simp
    rw [catl_eq (by omega)]
    simp only [Option.bind_some]
    have hfin : ∀ x : Str, x = s ++ (if i = 0 then [] else [44]) ++ piece y → roadref5_VersionText.l1 (l.map pr) (i + 1) x = some (s ++ (if i = 0 then Lib.join ((y :: l).map piece) [44] else Lib.joinTail [44] ((y :: l).map piece))) := by
      rintro x rfl
      rw [ih]
      by_cases e : i = 0
      · simp [e, Lib.join_cons, List.append_assoc]
      · simp [e, Lib.joinTail, List.append_assoc]
    by_cases e : y.fHigh = y.fLow
    · rw [if_neg (show ¬ (((pr y).e1 != (pr y).e0) = true) by simpa [pr] using e)]
      exact hfin _ (by simp [piece, e])
    · rw [if_pos (show ((pr y).e1 != (pr y).e0) = true by simpa [pr] using e), show strconv_Itoa (pr y).e1 = _ from b1]
      simp only [Option.bind_some]
      rw [catl_eq (by simp; omega)]
      simp only [Option.bind_some]
      rw [catl_eq (by simp only [List.length_append, List.length_cons, List.length_nil] at *; omega)]
      simp only [Option.bind_some]
      exact hfin _ (by simp [piece, e])
theorem joinTail_len : ∀ {l : List T_Range}, (∀ y ∈ l, Rt y) → (Lib.joinTail [44] (l.map piece)).length ≤ 44 * l.length
  | [], _ => by simp [Lib.joinTail]
  | y :: l, h => by
    have := joinTail_len (l := l) (fun z hz => h z (List.mem_cons_of_mem _ hz))
    have := piece_len (h y (by simp))
    simp only [Lib.joinTail, List.map_cons, List.flatten_cons, List.length_append, List.length_cons, List.length_nil] at *
    omega
theorem join_len {l : List T_Range} (h : ∀ y ∈ l, Rt y) : (Lib.join (l.map piece) [44]).length ≤ 44 * l.length := by
  cases l with
  | nil => simp [Lib.join_nil]
  | cons y l =>
    have h1 := joinTail_len (l := l) (fun z hz => h z (List.mem_cons_of_mem _ hz))
    have h2 := piece_len (h y (by simp))
    rw [List.map_cons, Lib.join_cons]
    simp only [List.length_append, List.length_cons]
    omega

theorem texts (l : List T_Range) (hl : l.length ≤ 1099511627776) : ∃ t c, version_Text l = some (t, c) ∧ roadref5_VersionText (l.map pr) = some (t, c) ∧ (c = 0 → t = Lib.join (l.map piece) [44] ∧ ∀ y ∈ l, Rt y) := by
  obtain ⟨c, h1, h2, h3⟩ := check_eq l hl
  unfold version_Text roadref5_VersionText
  rw [h1, h2]
  simp only [Option.bind_some]
  by_cases hc : c = 0
  · subst hc
    obtain ⟨h4, h5⟩ := h3 rfl
    have e1 := text_l1 l [] h5 (by simp; omega)
    have e2 := vtext_l1 l 0 [] h5 (by simp; omega)
    have e3 : strings_Join (l.map piece) [44] = some (Lib.join (l.map piece) [44]) := by
      have := join_len h5
      show joinF _ _ = _
      unfold joinF; rw [if_pos]
      rw [List.length_map]; omega
    refine ⟨Lib.join (l.map piece) [44], 0, ?_, ?_, fun _ => ⟨rfl, h5⟩⟩
    · rw [if_neg (by decide), e1]; simp only [Option.bind_some, List.nil_append]; rw [e3]; rfl
    · rw [if_neg (by decide), e2]; simp
  · exact ⟨[], c, by rw [if_pos (by simpa using hc)], by rw [if_pos (by simpa using hc)], fun e => absurd e hc⟩
end Go.Proofs.YtbaaojaoadjnmafDoor.Gx
