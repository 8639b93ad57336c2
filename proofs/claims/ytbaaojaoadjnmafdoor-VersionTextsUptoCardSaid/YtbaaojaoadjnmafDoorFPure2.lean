/- VersionTexts: Text and Read of package version give what the reference gives, for every list and text of bulk at most 1048576. This text: the plain law. Conditions: none beyond those that the statement itself names. -/
import Derived.Test.YtbaaojaoadjnmafDoorFPure
namespace Go.Proofs.YtbaaojaoadjnmafDoor.Gx
open Go Go.Proofs.YtbaaojaoadjnmafDoor.Gx

def A (s : Str) : Int × Bool := match Lib.atoiAll s with | .ok v => (v, false) | .range => (Lib.atoiSat s, true) | _ => (0, true)
theorem atoi_eq {s : Str} (h : s.length ≤ 281474976710656) : strconv_Atoi s = some (A s) := by
  show atoiF s = _
  unfold atoiF A; rw [if_pos h]; cases Lib.atoiAll s <;> rfl
def ix (s : Str) : Nat := (Lib.indexByte s 45).toNat
def cutD (p : Str) : Str × Str × Bool := if 0 < p.count 45 then (p.take (ix p), p.drop (ix p + 1), true) else (p, [], false)
theorem cut_eq {p : Str} (h : p.length ≤ 4294967000) : strings_Cut p [45] = some (cutD p) := by
  have hx : internal_stringslite_Index p [45] = some (Lib.indexByte p 45) := rfl
  unfold strings_Cut internal_stringslite_Cut cutD
  rw [hx]
  simp only [Option.bind_some]
  by_cases hc : 0 < p.count 45
  · obtain ⟨h1, h2⟩ := ix_some hc
    have e : Lib.indexByte p 45 = (ix p : Int) := by unfold ix; omega
    have h3 : ix p < p.length := h2
    rw [if_pos hc, e, if_pos (decide_eq_true (by omega))]
    have e2 : addI (ix p : Int) (([45] : Str).length : Int) = ((ix p + 1 : Nat) : Int) := by
      rw [addI_eq] <;> simp <;> omega
    rw [e2, show (0 : Int) = ((0 : Nat) : Int) from rfl, sub_eq (by omega) (by omega), sub_eq (by omega) (Nat.le_refl _)]
    simp
  · rw [if_neg hc, ix_none (by omega), if_neg (by decide)]
    rfl
def readStep (p : Str) : Option T_Range := let c := cutD p; let q := if c.2.2 = true then c.2.1 else c.1; if ((A c.1).2 || (A q).2) = true then none else some ⟨(A c.1).1, (A q).1⟩
theorem cutD_len {p : Str} {n : Nat} (h : p.length ≤ n) : (cutD p).1.length ≤ n ∧ (cutD p).2.1.length ≤ n := by
  unfold cutD; split <;> simp <;> omega
theorem read_step {p : Str} {ps : List Str} {acc : List T_Range} (h : p.length ≤ 4294967000) (ha : acc.length + 1 ≤ 8796093022208) :
    version_Read.l1 (p :: ps) acc = match readStep p with | none => some (.inl ([], 3)) | some x => version_Read.l1 ps (acc ++ [x]) := by
  obtain ⟨l1, l2⟩ := cutD_len h
  rw [version_Read.l1, cut_eq h]
  simp only [Option.bind_some]
  have e : (if (!(cutD p).2.2) = true then some (cutD p).1 else some (cutD p).2.1) = some (if (cutD p).2.2 = true then (cutD p).2.1 else (cutD p).1) := by
    cases (cutD p).2.2 <;> rfl
  rw [e]
  simp only [Option.bind_some]
  have l3 : (if (cutD p).2.2 = true then (cutD p).2.1 else (cutD p).1).length ≤ 4294967000 := by split <;> assumption
  rw [atoi_eq (by omega), atoi_eq (by omega)]
  simp only [Option.bind_some, readStep]
  by_cases hb : ((A (cutD p).1).2 || (A (if (cutD p).2.2 = true then (cutD p).2.1 else (cutD p).1)).2) = true
  · rw [if_pos hb, if_pos hb]
  · rw [if_neg hb, if_neg hb, app_eq (by simpa using ha)]
    rfl
theorem of_step {p : Str} {ps : List Str} {acc : List A2_Int} (h : p.length ≤ 4294967000) (ha : acc.length + 1 ≤ 8796093022208) :
    roadref5_VersionOf.l1 (p :: ps) acc = if 2 ≤ p.count 45 then some (.inl ([], 3)) else match readStep p with | none => some (.inl ([], 3)) | some x => roadref5_VersionOf.l1 ps (acc ++ [pr x]) := by
  have hsub : ∀ k : Nat, k ≤ 4294967001 → subI ((k + 1 : Nat) : Int) 1 = (k : Int) := fun k hk => by
    rw [subI, wrap_id] <;> omega
  by_cases h2 : 2 ≤ p.count 45
  · rw [if_pos h2]
    have hlen := spl_length 45 p
    have hcp : p.count 45 ≤ p.length := List.count_le_length ..
    have h1 : ∀ {q : Str}, q ∈ spl 45 p → q.length ≤ p.length := fun hq => spl_mem_length hq
    rw [roadref5_VersionOf.l1, show strings_Split p [45] = some (spl 45 p) from splitF_eq (by omega)]
    simp only [Option.bind_some]
    have n0 : ∃ x, nth (spl 45 p) 0 = some x ∧ x.length ≤ p.length := by
      refine ⟨(spl 45 p)[0]'(by omega), by simp [nth], h1 (List.getElem_mem _)⟩
    have n1 : ∃ x, nth (spl 45 p) (subI ((spl 45 p).length : Int) 1) = some x ∧ x.length ≤ p.length := by
      rw [hlen, hsub _ (by omega)]
      refine ⟨(spl 45 p)[p.count 45]'(by omega), by simp [nth, List.getElem?_eq_getElem, hlen], h1 (List.getElem_mem _)⟩
    obtain ⟨x0, e0, l0⟩ := n0
    obtain ⟨x1, e1, l1⟩ := n1
    rw [e0, e1]
    simp only [Option.bind_some]
    rw [atoi_eq (by omega), atoi_eq (by omega)]
    simp only [Option.bind_some]
    rw [if_pos]
    have : decide (((spl 45 p).length : Int) > 2) = true := decide_eq_true (by rw [hlen]; omega)
    rw [this]; rfl
  · rw [if_neg h2]
    obtain ⟨c1, c2⟩ := cutD_len h
    -- the first and the last piece
    have key : ∃ m, (spl 45 p).length = m + 1 ∧ m ≤ 1 ∧ nth (spl 45 p) 0 = some (cutD p).1 ∧ nth (spl 45 p) (m : Int) = some (if (cutD p).2.2 = true then (cutD p).2.1 else (cutD p).1) := by
      by_cases hc : 0 < p.count 45
      · have hh := spl_head hc
        have hl := spl_length 45 p
        rw [hh, List.length_cons, spl_length] at hl
        have hz : (p.drop ((Lib.indexByte p 45).toNat + 1)).count 45 = 0 := by omega
        rw [hh, spl_none (List.count_eq_zero.1 hz)]
        refine ⟨1, rfl, Nat.le_refl _, ?_, ?_⟩
        · unfold cutD; rw [if_pos hc]; rfl
        · unfold cutD; rw [if_pos hc]; rfl
      · rw [spl_none (List.count_eq_zero.1 (by omega))]
        refine ⟨0, rfl, by omega, ?_, ?_⟩
        · unfold cutD; rw [if_neg hc]; rfl
        · unfold cutD; rw [if_neg hc]; rfl
    obtain ⟨m, k1, k2, k3, k4⟩ := key
    have l3 : (if (cutD p).2.2 = true then (cutD p).2.1 else (cutD p).1).length ≤ 4294967000 := by split <;> assumption
    rw [roadref5_VersionOf.l1, show strings_Split p [45] = some (spl 45 p) from splitF_eq (by omega)]
    simp only [Option.bind_some]
    rw [k3, k1, hsub m (by omega), k4]
    simp only [Option.bind_some]
    rw [atoi_eq (by omega), atoi_eq (by omega)]
    simp only [Option.bind_some, readStep]
    have hd : decide (((m + 1 : Nat) : Int) > 2) = false := decide_eq_false (by omega)
    rw [hd, Bool.false_or]
    by_cases hb : ((A (cutD p).1).2 || (A (if (cutD p).2.2 = true then (cutD p).2.1 else (cutD p).1)).2) = true
    · rw [if_pos hb, if_pos hb]
    · rw [if_neg hb, if_neg hb, app_eq (by simpa using ha)]
      rfl

/-- the two loops over the pieces -/
theorem reads : ∀ (ps : List Str) (acc : List T_Range), (∀ p ∈ ps, p.length ≤ 4294967000) → acc.length + ps.length ≤ 8796093022208 →
    ∃ r1 r2, version_Read.l1 ps acc = some r1 ∧ roadref5_VersionOf.l1 ps (acc.map pr) = some r2 ∧
      ((∃ x, r1 = .inr x ∧ r2 = .inr (x.map pr) ∧ x.length = acc.length + ps.length) ∨ (r1 = .inl ([], 3) ∧ r2 = .inl ([], 3)) ∨ (r2 = .inl ([], 3) ∧ (∃ x, r1 = .inr x ∧ x.length = acc.length + ps.length) ∧ ∃ p ∈ ps, 2 ≤ p.count 45))
  | [], acc, _, _ => ⟨.inr acc, .inr (acc.map pr), rfl, rfl, .inl ⟨acc, rfl, rfl, rfl⟩⟩
  | p :: ps, acc, h, hl => by
    simp only [List.length_cons] at hl
    have hp := h p (by simp)
    rw [read_step hp (by omega), of_step hp (by rw [List.length_map]; omega)]
    cases hr : readStep p with
    | none =>
      simp only
      refine ⟨.inl ([], 3), .inl ([], 3), rfl, ?_, .inr (.inl ⟨rfl, rfl⟩)⟩
      split <;> rfl
    | some x =>
      simp only
      obtain ⟨r1, r2, e1, e2, e3⟩ := reads ps (acc ++ [x]) (fun q hq => h q (List.mem_cons_of_mem _ hq)) (by simp; omega)
      rw [List.map_append, List.map_singleton] at e2
      have hlen : (acc ++ [x]).length + ps.length = acc.length + (ps.length + 1) := by simp; omega
      rw [hlen] at e3
      rw [e1, e2]
      by_cases h2 : 2 ≤ p.count 45
      · rw [if_pos h2]
        refine ⟨r1, .inl ([], 3), rfl, rfl, ?_⟩
        rcases e3 with ⟨y, rfl, rfl, hy⟩ | ⟨rfl, rfl⟩ | ⟨rfl, ⟨y, rfl, hy⟩, q, hq, hq2⟩
        · exact .inr (.inr ⟨rfl, ⟨y, rfl, hy⟩, p, by simp, h2⟩)
        · exact .inr (.inl ⟨rfl, rfl⟩)
        · exact .inr (.inr ⟨rfl, ⟨y, rfl, hy⟩, p, by simp, h2⟩)
      · rw [if_neg h2]
        refine ⟨r1, r2, rfl, rfl, ?_⟩
        rcases e3 with e3 | e3 | ⟨rfl, ⟨y, rfl, hy⟩, q, hq, hq2⟩
        · exact .inl e3
        · exact .inr (.inl e3)
        · exact .inr (.inr ⟨rfl, ⟨y, rfl, hy⟩, q, List.mem_cons_of_mem _ hq, hq2⟩)

theorem read_of (s : Str) (hs : s.length ≤ 4294967000) : ∃ x g, x.length ≤ 4294967001 ∧ version_Read s = some (x, g) ∧ roadref5_VersionOf s = some (x.map pr, g) := by
  by_cases he : s = []
  · subst he
    exact ⟨[], 0, by simp, by kernel_rfl, by kernel_rfl⟩
  have hsp : strings_Split s [44] = some (spl 44 s) := splitF_eq (by omega)
  have hc : s.count 44 ≤ s.length := List.count_le_length ..
  have hlen := spl_length 44 s
  obtain ⟨r1, r2, e1, e2, e3⟩ := reads (spl 44 s) [] (fun p hp => Nat.le_trans (spl_mem_length hp) hs) (by rw [hlen]; simp; omega)
  unfold version_Read roadref5_VersionOf
  rw [if_pos (by simpa using he), if_neg (by simpa using he), hsp]
  simp only [Option.bind_some]
  have e2' : roadref5_VersionOf.l1 (spl 44 s) ([] : List A2_Int) = some r2 := e2
  rw [e1, e2']
  rcases e3 with ⟨x, rfl, rfl, hx⟩ | ⟨rfl, rfl⟩ | ⟨rfl, ⟨x, rfl, hx⟩, p, hp, hp2⟩
  · obtain ⟨t, c, h1, h2, _⟩ := texts x (by rw [hx, hlen]; simp; omega)
    simp only [Option.bind_some, retOr, retOr2]
    rw [h1, h2]
    simp only [Option.bind_some]
    by_cases hb : (c != 0 || t != s) = true
    · exact ⟨[], 3, by simp, by rw [if_pos hb], by rw [if_pos hb]; rfl⟩
    · exact ⟨x, 0, by rw [hx, hlen]; simp; omega, by rw [if_neg hb], by rw [if_neg hb]⟩
  · exact ⟨[], 3, by simp, rfl, rfl⟩
  · obtain ⟨t, c, h1, h2, h3⟩ := texts x (by rw [hx, hlen]; simp; omega)
    refine ⟨[], 3, by simp, ?_, rfl⟩
    simp only [Option.bind_some, retOr, retOr2]
    rw [h1]
    simp only [Option.bind_some]
    rw [if_pos]
    rw [Bool.or_eq_true, bne_iff_ne, bne_iff_ne]
    by_cases hc0 : c = 0
    · refine .inr fun ht => ?_
      subst ht
      obtain ⟨h4, h5⟩ := h3 hc0
      have hx0 : x ≠ [] := fun e => by subst e; rw [hlen] at hx; simp at hx
      rw [h4, spl_join (by simpa using hx0) (fun q hq => by
        obtain ⟨r, hr, rfl⟩ := List.mem_map.1 hq
        exact no_comma (h5 r hr))] at hp
      obtain ⟨r, hr, rfl⟩ := List.mem_map.1 hp
      have := piece_count (h5 r hr)
      omega
    · exact .inl hc0

theorem pairs_l1 : ∀ (l : List T_Range) (acc : List A2_Int), acc.length + l.length ≤ 8796093022208 → roadlaw5_pairs.l1 l acc = some (acc ++ l.map pr)
  | [], acc, _ => by simp [roadlaw5_pairs.l1]
  | y :: l, acc, h => by
    simp only [List.length_cons] at h
    rw [roadlaw5_pairs.l1, app_eq (by simp; omega)]
    simp only [Option.bind_some]
    rw [pairs_l1 l _ (by simp; omega)]
    simp [pr]
theorem pairs_eq {l : List T_Range} (h : l.length ≤ 8796093022208) : roadlaw5_pairs l = some (l.map pr) := by
  unfold roadlaw5_pairs
  rw [pairs_l1 l [] (by simpa using h)]; rfl
theorem equal_l1 (l : List A2_Int) : ∀ (rest pre : List A2_Int), l = pre ++ rest → slices_Equal_2_int_2_int.l1 l rest pre.length = some (.inr ())
  | [], _, _ => rfl
  | y :: rest, pre, h => by
    have hn : nth l (pre.length : Int) = some y := by simp [nth, h]
    have ih := equal_l1 l rest (pre ++ [y]) (by simp [h])
    rw [List.length_append, List.length_singleton] at ih
    rw [slices_Equal_2_int_2_int.l1, hn]
    simp only [Option.bind_some]
    rw [if_neg (by simp), ih]
theorem same_eq {l : List T_Range} (h : l.length ≤ 8796093022208) : roadlaw5_sameRanges l (l.map pr) = some true := by
  unfold roadlaw5_sameRanges slices_Equal_2_int_2_int
  rw [pairs_eq h]
  simp only [Option.bind_some]
  have := equal_l1 (l.map pr) (l.map pr) [] rfl
  rw [List.length_nil] at this
  rw [if_neg (by simp), this]
  rfl

theorem law (a0 : List T_Range) (a1 : Str) (h0 : a0.length ≤ 1048576) (h1 : a1.length ≤ 1048576) : roadlaw5_VersionTexts a0 a1 = some true := by
  have hc : version_Text ([(T_Range.mk 1 3)] : List T_Range) = some ([49, 45, 51], 0) := by
    obtain ⟨t, c, e1, e2, e3⟩ := texts [(T_Range.mk 1 3)] (by simp)
    have hk : version_Check [(T_Range.mk 1 3)] = some 0 := by kernel_rfl
    have hp : piece (T_Range.mk 1 3) = [49, 45, 51] := by
      simp only [piece, Lib.itoa]
      rw [if_neg (by decide), if_neg (by decide), if_neg (by decide), Lib.decDigits_one (by decide), Lib.decDigits_one (by decide)]
      rfl
    have hj := text_l1 [(T_Range.mk 1 3)] [] (fun y hy => by rw [List.mem_singleton] at hy; subst hy; exact ⟨by decide, by decide, by decide⟩) (by simp)
    unfold version_Text
    rw [hk]
    simp only [Option.bind_some]
    rw [if_neg (by decide), hj]
    simp only [Option.bind_some, List.nil_append, List.map_cons, List.map_nil, hp]
    show (joinF [[49, 45, 51]] [44]).bind _ = _
    rfl
  obtain ⟨t, c, e1, e2, _⟩ := texts a0 (by omega)
  obtain ⟨x, g, hx, e3, e4⟩ := read_of a1 (by omega)
  unfold roadlaw5_VersionTexts
  rw [hc]
  simp only [Option.bind_some]
  rw [if_neg (by decide), e1]
  simp only [Option.bind_some]
  rw [pairs_eq (by omega)]
  simp only [Option.bind_some]
  rw [e2, e3]
  simp only [Option.bind_some]
  rw [e4]
  simp only [Option.bind_some]
  rw [if_pos (by simp), same_eq (by omega)]
  simp
end Go.Proofs.YtbaaojaoadjnmafDoor.Gx
