/- ReplayTexts: Text and Read of package replay give what the reference gives, for every list of choices and text of bulk at most 1048576. This text: contracts of the library's functions as plain functions. Conditions: none beyond those that the statement itself names. -/
import Derived.Test.YtbaaojaoadjnmaeDoorGxM
import Derived.Shelf.Strconv.Itoa3
import Derived.Shelf.Strings.OnBuilder
import Derived.Shelf.Strings.Split
import Derived.Shelf.Strings.Search2
import Derived.Shelf.Small.Strs
import Derived.Lib.AppendIntMem
import Derived.Lib.AtoiAll
import Derived.Lib.IndexBytes
namespace Go.Proofs.YtbaaojaoadjnmaeDoor.Gx
open Go.RowKit Go.Shelf Go.Proofs

structure Vars (P : Program) (S : Nat → Prop) (w : World) : Prop where
  tab : VarIs P S w "internal/strconv.uint64pow10" (Lib.pow10Tab.map fun z => Value.int .u64 z).toArray
  syn : ∃ tp p, VarIs P S w "strconv.ErrSyntax" #[.iface tp p]
  rng : ∃ tp p, VarIs P S w "strconv.ErrRange" #[.iface tp p]
theorem Vars.up {P : Program} {W : List Nat} {S S' : Nat → Prop} {w w' : World} (h : Vars P S w) (u : Up W S w S' w') : Vars P S' w' :=
  ⟨h.tab.up u, let ⟨a, b, c⟩ := h.syn; ⟨a, b, c.up u⟩, let ⟨a, b, c⟩ := h.rng; ⟨a, b, c.up u⟩⟩

def itoaF (n : Int) : Option Str := if -9223372036854775808 ≤ n ∧ n ≤ 9223372036854775807 then some (Lib.itoa n) else none
def indexF (s sep : Str) : Option Int := match sep with
  | [c] => some (Lib.indexByte s c)
  | _ => none
def indexByteF (s : Str) (c : Int) : Option Int := some (Lib.indexByte s c.toNat.toUInt8)
def splitF (s sep : Str) : Option (List Str) := match sep with
  | [c] => if s.length < 4294967281 then some (Lib.split s [c]) else none
  | _ => none
def joinF (xs : List Str) (sep : Str) : Option Str := if xs.length ≤ 140737488355328 ∧ (Lib.join xs sep).length ≤ 140737488355328 then some (Lib.join xs sep) else none
def atoiF (s : Str) : Option (Int × Bool) := if s.length ≤ 281474976710656 then some (match Lib.atoiAll s with | .ok v => (v, false) | .range => (Lib.atoiSat s, true) | _ => (0, true)) else none

section
variable {P : Program} {ρ : Ren} {S : Nat → Prop} {w : World}
theorem itoa_calls (L : LaysM.n171 P ρ) (hS : ∀ b, S b → b < w.heap.size) (hV : Vars P S w) (n : Int) {out : Str} (h : itoaF n = some out) :
    Calls P (ρ.f 171) [.int .i64 n].toArray w (Rets fun v w' => ∃ S', Up [] S w S' w' ∧ v = bs out) := by
  unfold itoaF at h
  split at h
  · next hn =>
    cases h
    refine (Any.strconv_Itoa L n hn.1 hn.2 w hV.tab.var).mono ?_
    rintro e w' ⟨rfl, k, os, rfl⟩
    exact ⟨_, rfl, S, Up.of_le hS (Le.of_below (Lib.below_grow _ w (Nat.le_refl _) k os)), rfl⟩
  · cases h
theorem index_calls (L : Lays.n219 P ρ) (hS : ∀ b, S b → b < w.heap.size) (s sep : Str) {out : Int} (h : indexF s sep = some out) :
    Calls P (ρ.f 219) [bs s, bs sep].toArray w (Rets fun v w' => ∃ S', Up [] S w S' w' ∧ v = .int .i64 out) := by
  unfold indexF at h
  split at h
  · next c =>
    cases h
    refine (Any.stringslite_Index_one L ⟨s.toArray⟩ c w).mono ?_
    rintro e w' ⟨rfl, rfl⟩
    exact ⟨_, rfl, S, Up.refl hS, rfl⟩
  · cases h
theorem indexByte_calls (L : Lays.n137 P ρ) (hS : ∀ b, S b → b < w.heap.size) (s : Str) (c : Int) {out : Int} (h : indexByteF s c = some out) :
    Calls P (ρ.f 137) [bs s, .int .u8 c].toArray w (Rets fun v w' => ∃ S', Up [] S w S' w' ∧ v = .int .i64 out) := by
  cases h
  refine (Any.strings_IndexByte L ⟨s.toArray⟩ c w).mono ?_
  rintro e w' ⟨rfl, rfl⟩
  exact ⟨_, rfl, S, Up.refl hS, rfl⟩
set_option maxHeartbeats 2000000 in
/-- strings.Split at one byte: no word on a variable -/
theorem split_one (L : Lays.n146 P ρ) (hi9 : (P.info? (ρ.t 9)).map (fun i => (i.zero, i.size, i.bytes)) = some (some (.string ByteArray.empty), 1, 16)) (s : ByteArray) (b : UInt8) (w : World) (hs : s.size < 4294967281) :
    Calls P (ρ.f 146) #[.string s, .string ⟨#[b]⟩] w fun e w' =>
      e = .returned (.slice (some ⟨w.heap.size, 0, none⟩) (Lib.countB s ⟨#[b]⟩ + 1) (Lib.countB s ⟨#[b]⟩ + 1)) ∧ w' = w.alloc (.cells ((Lib.splitB ⟨#[b]⟩ 0 (Lib.countB s ⟨#[b]⟩) s).map Value.string).toArray (ρ.t 9)) := by
  have h1 : 1 ≤ (⟨#[b]⟩ : ByteArray).size := Nat.le_refl 1
  have hle := Lib.countB_le ⟨#[b]⟩ h1 s.size s (Nat.le_refl _)
  have hlen := Lib.splitB_all ⟨#[b]⟩ h1 0 _ s rfl
  have c := Any.strings_genSplit_core (P := P) (ρ := ρ) { L with } hi9 s ⟨#[b]⟩ 0 (-1) (Lib.countB s ⟨#[b]⟩ + 1) w hs h1 (Nat.zero_le _)
    (fun x c hx => (Any.strings_Index_one { L with } x b _).mono fun e w' h => ⟨h.1.trans (by rw [← Lib.index_one]), h.2⟩)
    ((Any.strings_Count_one { L with } s b w).mono fun e w' h => ⟨h.1.trans (by
      show _ = Ending.returned (Value.int .i64 ((Lib.count s.data.toList [b] : Nat) : Int))
      rw [Lib.count_one]; rfl), h.2⟩)
    (by decide) (by decide) (by rw [if_pos (by decide)]; omega)
  rw [Nat.add_sub_cancel, hlen] at c
  have e2 : Lib.cellsOf (Lib.splitB ⟨#[b]⟩ 0 (Lib.countB s ⟨#[b]⟩) s) (Lib.countB s ⟨#[b]⟩ + 1) = ((Lib.splitB ⟨#[b]⟩ 0 (Lib.countB s ⟨#[b]⟩) s).map Value.string).toArray := by rw [← hlen]; exact Lib.cellsOf_full _
  rw [e2] at c
  have t3 := L.t3; have t9 := L.t9; have t31 := L.t31
  have a3 := L.a3; have a9 := L.a9; have a31 := L.a31
  have z3 := L.z3; have v3 := L.v3; have z9 := L.z9; have v9 := L.v9; have z31 := L.z31; have v31 := L.v31
  have e221 : ∀ args w, (callFunc (ρ.f 221) args).run P w = .ok (.enter (ρ.f 221) args) w := enters_of L.f221 (by kernel_rfl) rfl
  go_enter L.f146, Body.n146_ntmps ρ
  go_wp2_with (go_at_fn (ρ.f 221); refine c.mono ?_; rintro e w' ⟨rfl, hw⟩; rw [hw])
  go_ret
  exact ⟨rfl, rfl⟩
theorem rdEach_map {l : List ByteArray} : RdEach S w 1 ((l.map fun b => b.data.toList).map eS) (l.map Value.string) := by
  induction l with
  | nil => simp [RdEach]
  | cons x l ih =>
    simp only [List.map_cons, RdEach]
    exact ⟨[.string x], l.map Value.string, rfl, rfl, by simp [eS, Rd, bs], ih⟩
theorem split_calls (L : Lays.n146 P ρ) (hi9 : (P.info? (ρ.t 9)).map (fun i => (i.zero, i.size, i.bytes)) = some (some (.string ByteArray.empty), 1, 16)) (hS : ∀ b, S b → b < w.heap.size) (s sep : Str) {out : List Str} (h : splitF s sep = some out) :
    Calls P (ρ.f 146) [bs s, bs sep].toArray w (Rets fun v w' => ∃ S', Up [] S w S' w' ∧ RdL eS 1 S' w' v out) := by
  unfold splitF at h
  split at h
  · next c =>
    split at h
    · next hl =>
      cases h
      have hz : (⟨s.toArray⟩ : ByteArray).size = s.length := by simp [ByteArray.size]
      refine (split_one L hi9 ⟨s.toArray⟩ c w (by omega)).mono ?_
      rintro e w' ⟨rfl, rfl⟩
      have hlen := Lib.splitB_all ⟨#[c]⟩ (Nat.le_refl 1) 0 _ ⟨s.toArray⟩ rfl
      have hle := Lib.countB_le ⟨#[c]⟩ (Nat.le_refl 1) _ ⟨s.toArray⟩ (Nat.le_refl _)
      have hd : (Lib.splitB ⟨#[c]⟩ 0 (Lib.countB ⟨s.toArray⟩ ⟨#[c]⟩) ⟨s.toArray⟩).map (fun b => b.data.toList) = Lib.split s [c] := by
        rw [Lib.splitB_data]; rfl
      refine ⟨_, rfl, fun b => S b ∨ b = w.heap.size, ⟨Le.alloc w _, by simp, fun b hb => .inl hb, fun b hb hs => hs.elim id (fun e => absurd hb (by omega)), fun b hb => by rcases hb with hb | hb; have := hS b hb; simp; omega; simp; omega⟩, ?_⟩
      rw [← hd]
      unfold RdL
      simp only [Rd, List.length_map, hlen]
      refine ⟨_, _, rfl, Nat.le_refl _, by unfold maxLen; omega, .inr ⟨w.heap.size, 0, _, _, _, rfl, .inr rfl, by rw [heap_alloc_new], ?_⟩⟩
      simpa using rdEach_map
    · cases h
  · cases h
theorem rdL_cells {v : Value} {xs : List Str} (h : RdL eS 1 S w v xs) (hn : xs ≠ []) : ∃ b o c, v = .slice (some ⟨b, o, none⟩) xs.length c ∧ xs.length ≤ c ∧ S b ∧ ∀ (j : Nat) x, xs[j]? = some x → w.cell? ⟨b, o + j, none⟩ = some (bs x) := by
  have h0 := h
  unfold RdL at h
  simp only [Rd] at h
  obtain ⟨p, c, hv, h1, h2, h3⟩ := h
  rcases h3 with h3 | ⟨b, o, cells, T, fr, hp, hb, hw, he⟩
  · exact absurd (List.map_eq_nil_iff.1 h3) hn
  · have hm : (xs.map eS).length = xs.length := List.length_map ..
    rw [hm] at hv h1
    have hv := (List.cons.inj hv).1
    subst hv hp
    refine ⟨b, o, c, rfl, h1, hb, fun j x hj => ?_⟩
    obtain ⟨b', o', c', c1, hv, hC, hl, hR⟩ := h0.at hj
    injection hv with hv1 hv2 hv3
    injection hv1 with hv1
    injection hv1 with hv4 hv5
    subst hv4 hv5
    have := Rd.val_iff.1 (show Rd S w (.val (bs x)) c1 from hR)
    subst this
    simpa using hC.cell (j := 0) rfl
theorem join_calls (L : Lays.n156 P ρ) (X : Builder.Extra P ρ) (hS : ∀ b, S b → b < w.heap.size) (xs : List Str) (sep : Str) {v : Value} (hx : RdL eS 1 S w v xs) {out : Str} (h : joinF xs sep = some out) :
    Calls P (ρ.f 156) [v, bs sep].toArray w (Rets fun v w' => ∃ S', Up [] S w S' w' ∧ v = bs out) := by
  unfold joinF at h
  split at h
  · next hl =>
    cases h
    by_cases hn : xs = []
    · subst hn
      obtain ⟨p, c, rfl, _⟩ := hx.form
      refine (Any.strings_Join_none L X p c ⟨sep.toArray⟩ w).mono ?_
      rintro e w' ⟨rfl, rfl⟩
      exact ⟨_, rfl, S, Up.refl hS, by simp [Lib.join_nil, bs]⟩
    · obtain ⟨b, o, c, rfl, hc, hb, hcells⟩ := rdL_cells hx hn
      have hm : (xs.map fun x => (⟨x.toArray⟩ : ByteArray)).map (·.data.toList) = xs := by simp [List.map_map, Function.comp_def]
      have := Any.strings_Join L X b o c (xs.map fun x => ⟨x.toArray⟩) ⟨sep.toArray⟩ w (fun j x hj => by
        rw [List.getElem?_map] at hj
        cases hx : xs[j]? with
        | none => rw [hx] at hj; cases hj
        | some y => rw [hx] at hj; cases hj; exact hcells j y hx) (hS b hb) (by simpa using hl.1) (by simpa using hc) (by rw [hm]; exact hl.2)
      rw [hm, List.length_map] at this
      refine this.mono ?_
      rintro e w' ⟨rfl, hB⟩
      exact ⟨_, rfl, S, Up.of_le hS (Le.of_below hB), rfl⟩
  · cases h
end
end Go.Proofs.YtbaaojaoadjnmaeDoor.Gx
