/- ReplayTexts: Text and Read of package replay give what the reference gives, for every list of choices and text of bulk at most 1048576. This text: the plain law. Conditions: none beyond those that the statement itself names. -/
import Derived.Test.YtbaaojaoadjnmaeDoorEPure
import Derived.Lib.AtoiAllCases
namespace Go.Proofs.YtbaaojaoadjnmaeDoor.Gx
open Go Go.Proofs.YtbaaojaoadjnmaeDoor.Gx

def A (s : Str) : Int × Bool := match Lib.atoiAll s with | .ok v => (v, false) | .range => (Lib.atoiSat s, true) | _ => (0, true)
theorem atoi_eq {s : Str} (h : s.length ≤ 281474976710656) : strconv_Atoi s = some (A s) := by
  show atoiF s = _
  unfold atoiF A; rw [if_pos h]; cases Lib.atoiAll s <;> rfl
theorem A_in {s : Str} (h : (A s).2 = false) : In64 (A s).1 := by
  unfold A at h ⊢
  cases ha : Lib.atoiAll s <;> rw [ha] at h
  · exact Lib.atoiAll_bounds ha
  · cases h
  · cases h
def ix (s : Str) : Nat := (Lib.indexByte s 45).toNat
def cutD (p : Str) : Str × Str × Bool := if 0 < p.count 45 then (p.take (ix p), p.drop (ix p + 1), true) else (p, [], false)
theorem cut_eq {p : Str} (h : p.length ≤ 1099511627776) : strings_Cut p [45] = some (cutD p) := by
  have hx : internal_stringslite_Index p [45] = some (Lib.indexByte p 45) := rfl
  unfold strings_Cut internal_stringslite_Cut cutD
  rw [hx]
  simp only [Option.bind_some]
  by_cases hc : 0 < p.count 45
  · obtain ⟨h1, h2⟩ := ix_some hc
    have e : Lib.indexByte p 45 = (ix p : Int) := by unfold ix; omega
    have h3 : ix p < p.length := h2
    rw [if_pos hc, e, if_pos (decide_eq_true (by omega))]
    have e2 : addI (ix p : Int) (([45] : Str).length : Int) = ((ix p + 1 : Nat) : Int) := by
      rw [addI_eq] <;> simp <;> omega
    rw [e2, show (0 : Int) = ((0 : Nat) : Int) from rfl, sub_eq (by omega) (by omega), sub_eq (by omega) (Nat.le_refl _)]
    simp
  · rw [if_neg hc, ix_none (by omega), if_neg (by decide)]
    rfl
theorem cutD_len {p : Str} {n : Nat} (h : p.length ≤ n) : (cutD p).1.length ≤ n ∧ (cutD p).2.1.length ≤ n := by
  unfold cutD; split <;> simp <;> omega
def kd (b : UInt8) : Int := Lib.indexByte [103, 99, 108] b + 1
theorem kd_in (b : UInt8) : -1 ≤ Lib.indexByte [103, 99, 108] b ∧ Lib.indexByte [103, 99, 108] b ≤ 2 := by
  refine ⟨ix_ge _ _, ?_⟩
  simp only [Lib.indexByte]
  split
  · omega
  · split
    · omega
    · split <;> (try omega) <;> split <;> (try omega) <;> split <;> omega
def readStep (y : Str) : Option T_Choice := match y with
  | [] => none
  | b :: r => if ((A (cutD r).1).2 || (if (cutD r).2.2 = true then (A (cutD r).2.1).2 else false)) = true then none else some ⟨kd b, (A (cutD r).1).1, if (cutD r).2.2 = true then (A (cutD r).2.1).1 else 0⟩
def ofStep (y : Str) : Option T_Choice := match y with
  | [] => none
  | b :: r => if kd b = 2 ∧ r.count 45 = 1 then (if (A (cutD r).2.1).2 = true then none else if (A (cutD r).1).2 = true then none else some ⟨kd b, (A (cutD r).1).1, (A (cutD r).2.1).1⟩) else if (A (cutD r).1).2 = true then none else some ⟨kd b, (A (cutD r).1).1, 0⟩
theorem tail_eq (b : UInt8) (r : Str) : sub (b :: r) 1 ((b :: r).length : Int) = some r := by
  rw [show (1 : Int) = ((1 : Nat) : Int) from rfl, sub_eq (by simp) (Nat.le_refl _)]; simp
theorem read_step {y : Str} {ps : List Str} {acc : List T_Choice} (h : y.length ≤ 4294967000) (ha : acc.length + 1 ≤ 5864062014805) :
    replay_Read.l1 (y :: ps) acc = match readStep y with | none => some (.inl ([], 3)) | some x => replay_Read.l1 ps (acc ++ [x]) := by
  cases y with
  | nil => rfl
  | cons b r =>
    have hr : r.length ≤ 4294967000 := by simp at h; omega
    obtain ⟨l1, l2⟩ := cutD_len hr
    rw [replay_Read.l1, if_neg (by simp), show nth (b :: r) 0 = some b from rfl]
    simp only [Option.bind_some]
    rw [show strings_IndexByte [103, 99, 108] (b.toNat : Int) = some (Lib.indexByte [103, 99, 108] b) from by show some _ = _; simp]
    simp only [Option.bind_some]
    rw [tail_eq]
    simp only [Option.bind_some]
    rw [cut_eq (by omega)]
    simp only [Option.bind_some]
    rw [atoi_eq (by omega)]
    simp only [Option.bind_some]
    have e : (if (cutD r).2.2 = true then (strconv_Atoi (cutD r).2.1).bind fun r153 => some (r153.2, r153.1) else some (false, 0)) = some (if (cutD r).2.2 = true then (A (cutD r).2.1).2 else false, if (cutD r).2.2 = true then (A (cutD r).2.1).1 else 0) := by
      rw [atoi_eq (by omega)]
      split <;> rfl
    rw [e]
    simp only [Option.bind_some, readStep]
    by_cases hb : ((A (cutD r).1).2 || (if (cutD r).2.2 = true then (A (cutD r).2.1).2 else false)) = true
    · rw [if_pos hb, if_pos hb]
    · obtain ⟨k1, k2⟩ := kd_in b
      rw [if_neg hb, if_neg hb, app_eq (by simpa using ha), addI_eq (by omega) (by omega)]
      rfl
theorem spl_zero (r : Str) : nth (spl 45 r) 0 = some (cutD r).1 := by
  unfold cutD
  by_cases hc : 0 < r.count 45
  · rw [if_pos hc, spl_head hc]; rfl
  · rw [if_neg hc, spl_none (List.count_eq_zero.1 (by omega))]; rfl
theorem spl_two {r : Str} (h : r.count 45 = 1) : spl 45 r = [(cutD r).1, (cutD r).2.1] ∧ (cutD r).2.2 = true := by
  have hc : 0 < r.count 45 := by omega
  have hl := spl_length 45 r
  have hh := spl_head hc
  rw [hh, List.length_cons, spl_length] at hl
  have hz : (r.drop ((Lib.indexByte r 45).toNat + 1)).count 45 = 0 := by omega
  rw [hh, spl_none (List.count_eq_zero.1 hz)]
  unfold cutD; rw [if_pos hc]; exact ⟨rfl, rfl⟩
theorem of_step {y : Str} {ps : List Str} {acc : List T_Choice} (h : y.length ≤ 4294967000) (ha : acc.length + 1 ≤ 5864062014805) :
    roadref5_ChoiceOf.l1 (y :: ps) acc = match ofStep y with | none => some (.inl ([], 3)) | some x => roadref5_ChoiceOf.l1 ps (acc ++ [x]) := by
  cases y with
  | nil => rfl
  | cons b r =>
    have hr : r.length ≤ 4294967000 := by simp at h; omega
    obtain ⟨l1, l2⟩ := cutD_len hr
    obtain ⟨k1, k2⟩ := kd_in b
    have hadd : addI 1 (Lib.indexByte [103, 99, 108] b) = kd b := by rw [addI_eq (by omega) (by omega)]; unfold kd; omega
    rw [roadref5_ChoiceOf.l1, if_neg (by simp), show sub (b :: r) 0 1 = some [b] from by simp [sub]; omega]
    simp only [Option.bind_some]
    rw [show strings_Index [103, 99, 108] [b] = some (Lib.indexByte [103, 99, 108] b) from rfl]
    simp only [Option.bind_some]
    rw [tail_eq]
    simp only [Option.bind_some]
    rw [show strings_Split r [45] = some (spl 45 r) from splitF_eq (by omega)]
    simp only [Option.bind_some]
    rw [spl_zero]
    simp only [Option.bind_some]
    rw [atoi_eq (by omega), hadd, spl_length]
    simp only [Option.bind_some, ofStep]
    by_cases hk : kd b = 2 ∧ r.count 45 = 1
    · obtain ⟨e1, e2⟩ := spl_two hk.2
      rw [if_pos (show ((kd b == 2) && (((r.count 45 + 1 : Nat) : Int) == 2)) = true by simp [hk.1, hk.2]), e1, if_pos hk, show nth [(cutD r).1, (cutD r).2.1] 1 = some (cutD r).2.1 from rfl]
      simp only [Option.bind_some]
      rw [atoi_eq (by omega)]
      simp only [Option.bind_some]
      by_cases hb : (A (cutD r).2.1).2 = true
      · rw [if_pos hb, if_pos hb]; rfl
      · rw [if_neg hb, if_neg hb]
        simp only [Option.bind_some, retOr2]
        by_cases hc : (A (cutD r).1).2 = true
        · rw [if_pos hc, if_pos hc]
        · rw [if_neg hc, if_neg hc, app_eq (by simpa using ha)]; rfl
    · rw [if_neg (show ¬ ((kd b == 2) && (((r.count 45 + 1 : Nat) : Int) == 2)) = true by
        simp only [Bool.and_eq_true, beq_iff_eq]
        exact fun h => hk ⟨h.1, by omega⟩), if_neg hk]
      simp only [Option.bind_some, retOr2]
      by_cases hc : (A (cutD r).1).2 = true
      · rw [if_pos hc, if_pos hc]
      · rw [if_neg hc, if_neg hc, app_eq (by simpa using ha)]; rfl

def pm (f : Str → Option T_Choice) : List Str → Option (List T_Choice)
  | [] => some []
  | p :: ps => (f p).bind fun x => (pm f ps).map (x :: ·)
theorem pm_congr {f g : Str → Option T_Choice} : ∀ {ps : List Str}, (∀ p ∈ ps, f p = g p) → pm f ps = pm g ps
  | [], _ => rfl
  | p :: ps, h => by simp only [pm]; rw [h p (by simp), pm_congr (fun q hq => h q (List.mem_cons_of_mem _ hq))]
theorem pm_all {f : Str → Option T_Choice} {Q : T_Choice → Prop} (hf : ∀ p x, f p = some x → Q x) : ∀ {ps : List Str} {xs : List T_Choice}, pm f ps = some xs → (∀ x ∈ xs, Q x) ∧ xs.length = ps.length
  | [], xs, h => by cases h; simp
  | p :: ps, xs, h => by
    simp only [pm] at h
    cases hp : f p with
    | none => rw [hp] at h; cases h
    | some x =>
      rw [hp] at h
      cases hq : pm f ps with
      | none => rw [hq] at h; cases h
      | some ys =>
        rw [hq] at h
        cases h
        obtain ⟨h1, h2⟩ := pm_all hf hq
        exact ⟨fun z hz => (List.mem_cons.1 hz).elim (fun e => e ▸ hf p x hp) (h1 z), by simp [h2]⟩
theorem read_l1 : ∀ (ps : List Str) (acc : List T_Choice), (∀ p ∈ ps, p.length ≤ 4294967000) → acc.length + ps.length ≤ 5864062014805 →
    replay_Read.l1 ps acc = some (match pm readStep ps with | none => .inl ([], 3) | some xs => .inr (acc ++ xs))
  | [], acc, _, _ => by simp [replay_Read.l1, pm]
  | p :: ps, acc, h, hl => by
    simp only [List.length_cons] at hl
    rw [read_step (h p (by simp)) (by omega)]
    cases hp : readStep p with
    | none => simp [pm, hp]
    | some x =>
      simp only [pm, hp, Option.bind_some]
      rw [read_l1 ps (acc ++ [x]) (fun q hq => h q (List.mem_cons_of_mem _ hq)) (by simp; omega)]
      cases pm readStep ps <;> simp
theorem of_l1 : ∀ (ps : List Str) (acc : List T_Choice), (∀ p ∈ ps, p.length ≤ 4294967000) → acc.length + ps.length ≤ 5864062014805 →
    roadref5_ChoiceOf.l1 ps acc = some (match pm ofStep ps with | none => .inl ([], 3) | some xs => .inr (acc ++ xs))
  | [], acc, _, _ => by simp [roadref5_ChoiceOf.l1, pm]
  | p :: ps, acc, h, hl => by
    simp only [List.length_cons] at hl
    rw [of_step (h p (by simp)) (by omega)]
    cases hp : ofStep p with
    | none => simp [pm, hp]
    | some x =>
      simp only [pm, hp, Option.bind_some]
      rw [of_l1 ps (acc ++ [x]) (fun q hq => h q (List.mem_cons_of_mem _ hq)) (by simp; omega)]
      cases pm ofStep ps <;> simp
theorem in0 : In64 0 := ⟨by decide, by decide⟩
theorem read_wf (y : Str) (x : T_Choice) (h : readStep y = some x) : Wf x := by
  cases y with
  | nil => cases h
  | cons b r =>
    simp only [readStep] at h
    by_cases hb : ((A (cutD r).1).2 || (if (cutD r).2.2 = true then (A (cutD r).2.1).2 else false)) = true
    · rw [if_pos hb] at h; cases h
    · rw [if_neg hb] at h
      have h := Option.some.inj h
      subst h
      simp only [Bool.or_eq_true, not_or, Bool.not_eq_true] at hb
      refine ⟨A_in hb.1, ?_⟩
      have h2 := hb.2
      show In64 (if (cutD r).2.2 = true then (A (cutD r).2.1).1 else 0)
      by_cases e : (cutD r).2.2 = true
      · rw [if_pos e] at h2 ⊢; exact A_in h2
      · rw [if_neg e]; exact in0
theorem of_wf (y : Str) (x : T_Choice) (h : ofStep y = some x) : Wf x := by
  cases y with
  | nil => cases h
  | cons b r =>
    simp only [ofStep] at h
    split at h
    · split at h
      · cases h
      · split at h
        · cases h
        · next h1 h2 => cases h; exact ⟨A_in (by simpa using h2), A_in (by simpa using h1)⟩
    · split at h
      · cases h
      · next h1 => cases h; exact ⟨A_in (by simpa using h1), in0⟩

/-! ### a piece is read alike -/
theorem digits_no {n : Int} (h : 0 ≤ n) {b : UInt8} (hb : b.toNat < 48) : b ∉ Lib.itoa n := fun hm => by have := itoa_digit h b hm; omega
theorem letter_kd {k : Int} (h1 : 1 ≤ k) (h2 : k ≤ 3) : ∃ b, letter k = [b] ∧ kd b = k ∧ b ≠ 32 := by
  have : k = 1 ∨ k = 2 ∨ k = 3 := by omega
  rcases this with rfl | rfl | rfl
  · exact ⟨103, rfl, by kernel_rfl, by decide⟩
  · exact ⟨99, rfl, by kernel_rfl, by decide⟩
  · exact ⟨108, rfl, by kernel_rfl, by decide⟩
theorem step_eq {c : T_Choice} (h : bad c = false) : readStep (piece c) = ofStep (piece c) := by
  obtain ⟨k1, k2, k3, k4, k5⟩ := ok_of h
  obtain ⟨b, e1, e2, e3⟩ := letter_kd k1 k2
  have hA : (Lib.itoa c.fA).count 45 = 0 := List.count_eq_zero.2 (digits_no k3 (by decide))
  have hB : (Lib.itoa c.fB).count 45 = 0 := List.count_eq_zero.2 (digits_no k4 (by decide))
  unfold piece
  rw [e1]
  by_cases hk : c.fKind = 2
  · rw [if_pos hk]
    have hc : (Lib.itoa c.fA ++ 45 :: Lib.itoa c.fB).count 45 = 1 := by rw [List.count_append, List.count_cons_self, hA, hB]
    show readStep (b :: (Lib.itoa c.fA ++ 45 :: Lib.itoa c.fB)) = ofStep (b :: (Lib.itoa c.fA ++ 45 :: Lib.itoa c.fB))
    generalize Lib.itoa c.fA ++ 45 :: Lib.itoa c.fB = r at hc
    obtain ⟨_, e4⟩ := spl_two hc
    simp only [readStep, ofStep]
    rw [if_pos (show kd b = 2 ∧ r.count 45 = 1 from ⟨e2.trans hk, hc⟩), e4]
    cases h1 : (A (cutD r).1).2 <;> cases h2 : (A (cutD r).2.1).2 <;> simp
  · rw [if_neg hk, List.append_nil]
    show readStep (b :: Lib.itoa c.fA) = ofStep (b :: Lib.itoa c.fA)
    generalize Lib.itoa c.fA = r at hA
    simp only [readStep, ofStep]
    rw [if_neg (show ¬ (kd b = 2 ∧ r.count 45 = 1) from fun hh => hk (e2.symm.trans hh.1))]
    have e4 : (cutD r).2.2 = false := by unfold cutD; rw [if_neg (by omega)]
    rw [e4]
    simp
theorem no_blank {c : T_Choice} (h : bad c = false) : (32 : UInt8) ∉ piece c := by
  obtain ⟨k1, k2, k3, k4, k5⟩ := ok_of h
  obtain ⟨b, e1, e2, e3⟩ := letter_kd k1 k2
  unfold piece
  rw [e1]
  intro hm
  rcases List.mem_append.1 hm with hm | hm
  · rcases List.mem_append.1 hm with hm | hm
    · exact e3 (List.mem_singleton.1 hm).symm
    · exact digits_no k3 (by decide) hm
  · split at hm
    · rcases List.mem_cons.1 hm with hm | hm
      · exact absurd hm (by decide)
      · exact digits_no k4 (by decide) hm
    · simp at hm

def fin (s : Str) (z : Option (List T_Choice)) : List T_Choice × Int := match z with | none => ([], 3) | some x => if (((txt x).2 != 0) || ((txt x).1 != s)) = true then ([], 3) else (x, 0)
theorem fin_eq {s : Str} (hs : s ≠ []) : fin s (pm readStep (spl 32 s)) = fin s (pm ofStep (spl 32 s)) := by
  by_cases hex : ∃ x, txt x = (s, 0)
  · obtain ⟨x, hx⟩ := hex
    have hb : x.any bad = false := by
      cases hb : x.any bad with
      | false => rfl
      | true => unfold txt at hx; rw [if_pos hb] at hx; exact absurd (show (3 : Int) = 0 from congrArg Prod.snd hx) (by decide)
    have hj : Lib.join (x.map piece) [32] = s := by unfold txt at hx; rw [if_neg (by rw [hb]; decide)] at hx; exact congrArg Prod.fst hx
    have hok : ∀ c ∈ x, bad c = false := fun c hc => by
      have := List.any_eq_false.1 hb c hc; simpa using this
    have hx0 : x ≠ [] := fun e => by subst e; exact hs (by rw [← hj]; rfl)
    rw [← hj, spl_join (by simpa using hx0) (fun p hp => by
      obtain ⟨c, hc, rfl⟩ := List.mem_map.1 hp
      exact no_blank (hok c hc))]
    rw [pm_congr (f := readStep) (g := ofStep) fun p hp => by
      obtain ⟨c, hc, rfl⟩ := List.mem_map.1 hp
      exact step_eq (hok c hc)]
  · have hn : ∀ z, fin s z = ([], 3) := fun z => by
      cases z with
      | none => rfl
      | some x =>
        simp only [fin]
        rw [if_pos]
        rw [Bool.or_eq_true, bne_iff_ne, bne_iff_ne]
        by_cases h1 : (txt x).2 = 0
        · refine .inr fun h2 => hex ⟨x, Prod.ext h2 h1⟩
        · exact .inl h1
    rw [hn, hn]
theorem both (s : Str) (hs : s.length ≤ 4294967000) : ∃ z, replay_Read s = some z ∧ roadref5_ChoiceOf s = some z ∧ z.1.length ≤ 4294967001 := by
  by_cases he : s = []
  · subst he; exact ⟨([], 0), rfl, rfl, by simp⟩
  have hsp : strings_Split s [32] = some (spl 32 s) := splitF_eq (by omega)
  have hc : s.count 32 ≤ s.length := List.count_le_length ..
  have hlen := spl_length 32 s
  have hm : ∀ p ∈ spl 32 s, p.length ≤ 4294967000 := fun p hp => Nat.le_trans (spl_mem_length hp) hs
  have e1 := read_l1 (spl 32 s) [] hm (by rw [hlen]; simp; omega)
  have e2 := of_l1 (spl 32 s) [] hm (by rw [hlen]; simp; omega)
  have hf := fin_eq he
  refine ⟨fin s (pm readStep (spl 32 s)), ?_, ?_, ?_⟩
  · unfold replay_Read
    rw [if_neg (by simpa using he), hsp]
    simp only [Option.bind_some]
    rw [e1]
    cases hz : pm readStep (spl 32 s) with
    | none => rfl
    | some x =>
      obtain ⟨w1, w2⟩ := pm_all read_wf hz
      simp only [Option.bind_some, retOr, List.nil_append]
      rw [(texts w1 (by rw [w2, hlen]; omega)).1]
      simp only [Option.bind_some, fin]
      split <;> rfl
  · rw [hf]
    unfold roadref5_ChoiceOf
    rw [if_neg (by simpa using he), hsp]
    simp only [Option.bind_some]
    rw [e2]
    cases hz : pm ofStep (spl 32 s) with
    | none => rfl
    | some x =>
      obtain ⟨w1, w2⟩ := pm_all of_wf hz
      simp only [Option.bind_some, retOr, List.nil_append]
      rw [(texts w1 (by rw [w2, hlen]; omega)).2]
      simp only [Option.bind_some, fin]
      split <;> rfl
  · cases hz : pm readStep (spl 32 s) with
    | none => simp [fin]
    | some x =>
      obtain ⟨w1, w2⟩ := pm_all read_wf hz
      simp only [fin]
      split
      · simp
      · rw [w2, hlen]; simp; omega
theorem equal_l1 (l : List T_Choice) : ∀ (rest pre : List T_Choice), l = pre ++ rest → slices_Equal_replay_Choice_replay_Choice.l1 l rest pre.length = some (.inr ())
  | [], _, _ => rfl
  | y :: rest, pre, h => by
    have hn : nth l (pre.length : Int) = some y := by simp [nth, h]
    have ih := equal_l1 l rest (pre ++ [y]) (by simp [h])
    rw [List.length_append, List.length_singleton] at ih
    rw [slices_Equal_replay_Choice_replay_Choice.l1, hn]
    simp only [Option.bind_some]
    rw [if_neg (by simp), ih]
theorem equal_eq (l : List T_Choice) : slices_Equal_replay_Choice_replay_Choice l l = some true := by
  unfold slices_Equal_replay_Choice_replay_Choice
  have := equal_l1 l l [] rfl
  rw [List.length_nil] at this
  rw [if_neg (by simp), this]
  rfl
theorem law (a0 : List T_Choice) (a1 : Str) (hw : ∀ c ∈ a0, Wf c) (h0 : a0.length ≤ 1048576) (h1 : a1.length ≤ 1048576) : roadlaw5_ReplayTexts a0 a1 = some true := by
  have hc : replay_Text ([(T_Choice.mk 1 2 0)] : List T_Choice) = some ([103, 50], 0) := by
    rw [(texts (l := [(T_Choice.mk 1 2 0)]) (fun y hy => by rw [List.mem_singleton] at hy; subst hy; exact ⟨⟨by decide, by decide⟩, ⟨by decide, by decide⟩⟩) (by simp)).1]
    have hp : piece (T_Choice.mk 1 2 0) = [103, 50] := by
      simp only [piece, Lib.itoa]
      rw [if_neg (by decide), if_neg (by decide), Lib.decDigits_one (by decide)]
      rfl
    unfold txt
    rw [if_neg (by decide), List.map_singleton, hp, Lib.join_one]
  obtain ⟨e1, e2⟩ := texts hw (by omega)
  obtain ⟨z, e3, e4, _⟩ := both a1 (by omega)
  unfold roadlaw5_ReplayTexts
  rw [hc]
  simp only [Option.bind_some]
  rw [if_neg (by decide), e1]
  simp only [Option.bind_some]
  rw [e2, e3]
  simp only [Option.bind_some]
  rw [e4]
  simp only [Option.bind_some]
  rw [if_pos (by simp), equal_eq]
  simp
end Go.Proofs.YtbaaojaoadjnmaeDoor.Gx
