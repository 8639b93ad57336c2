/- ReplayTexts: Text and Read of package replay give what the reference gives, for every list of choices and text of bulk at most 1048576. This text: worlds and data that are read. Conditions: none beyond those that the statement itself names. -/
import Derived.Test.YtbaaojaoadjnmaeDoorGxA
namespace Go.Proofs.YtbaaojaoadjnmaeDoor.Gx
open Go.RowKit

/-! ### worlds -/
/-- of what was there nothing has changed but the blocks W -/
structure Le (W : List Nat) (w w' : World) : Prop where
  os : w'.os = w.os
  tape : w'.tape = w.tape
  output : w'.output = w.output
  size : w.heap.size ≤ w'.heap.size
  block : ∀ b, b < w.heap.size → b ∉ W → w'.heap[b]? = w.heap[b]?

theorem Le.refl (W : List Nat) (w : World) : Le W w w := ⟨rfl, rfl, rfl, Nat.le_refl _, fun _ _ _ => rfl⟩
theorem Le.trans {W W' : List Nat} {a b c : World} (h : Le W a b) (k : Le W' b c) (hs : ∀ m ∈ W', m ∈ W ∨ a.heap.size ≤ m) : Le W a c :=
  ⟨k.os.trans h.os, k.tape.trans h.tape, k.output.trans h.output, Nat.le_trans h.size k.size, fun i hi hn =>
    (k.block i (Nat.lt_of_lt_of_le hi h.size) (fun hm => by rcases hs i hm with h1 | h1; exact hn h1; omega)).trans (h.block i hi hn)⟩
theorem Le.trans0 {W : List Nat} {a b c : World} (h : Le W a b) (k : Le [] b c) : Le W a c := h.trans k (by simp)
theorem Le.trans1 {W : List Nat} {g : Nat} {a b c : World} (h : Le W a b) (k : Le [g] b c) (hs : g ∈ W ∨ a.heap.size ≤ g) : Le W a c := h.trans k (by simpa using hs)
theorem Le.mono {W W' : List Nat} {a b : World} (h : Le W a b) (hs : ∀ m ∈ W, m ∈ W' ∨ a.heap.size ≤ m) : Le W' a b :=
  ⟨h.os, h.tape, h.output, h.size, fun i hi hn => h.block i hi (fun hm => by rcases hs i hm with h1 | h1; exact hn h1; omega)⟩
theorem Le.below {a b : World} (h : Le [] a b) : Below a.heap.size a b := ⟨h.os, h.tape, h.output, h.size, fun k hk => h.block k hk (by simp)⟩
theorem Le.of_below {a b : World} (h : Below a.heap.size a b) : Le [] a b := ⟨h.os, h.tape, h.output, h.size, fun k hk _ => h.block k hk⟩
theorem Le.alloc (w : World) (o : Obj) : Le [] w (w.alloc o) := ⟨rfl, rfl, rfl, by simp, fun k hk _ => Below.heap_alloc w o k hk⟩
theorem Le.drew (w : World) : Le [] w w.drew := ⟨rfl, rfl, rfl, Nat.le_refl _, fun k hk _ => rfl⟩
theorem Le.drewN (w : World) (n : Nat) : Le [] w (w.drewN n) := ⟨rfl, rfl, rfl, Nat.le_refl _, fun k hk _ => rfl⟩
theorem Le.setRow (w : World) (g : Nat) (cs : Array Value) : Le [g] w (w.setRow g cs) :=
  ⟨rfl, rfl, rfl, by simp, fun k hk hn => by
    have : k ≠ g := by simpa using hn
    simp only [World.setRow]
    rw [Array.getElem?_modify]; rw [if_neg (by omega)]⟩
/-- a block that is not written holds what it held -/
theorem Le.kept {W : List Nat} {w w' : World} (h : Le W w w') {g : Nat} {o : Obj} (hg : w.heap[g]? = some o) (hn : g ∉ W) : w'.heap[g]? = some o :=
  (h.block g (Array.getElem?_eq_some_iff.1 hg).1 hn).trans hg
theorem Le.kept0 {w w' : World} (h : Le [] w w') {g : Nat} {o : Obj} (hg : w.heap[g]? = some o) : w'.heap[g]? = some o := h.kept hg (by simp)
theorem Le.kept1 {w w' : World} {k : Nat} (h : Le [k] w w') {g : Nat} {o : Obj} (hg : w.heap[g]? = some o) (hn : g ≠ k) : w'.heap[g]? = some o := h.kept hg (by simpa using hn)
theorem lt_of_block {w : World} {g : Nat} {o : Obj} (h : w.heap[g]? = some o) : g < w.heap.size := (Array.getElem?_eq_some_iff.1 h).1

/-! ### data that is read -/
inductive D where
  | val (v : Value)
  | slice (sz : Nat) (xs : List D)
  | agg (xs : List D)

mutual
/-- the cells cs read as d in w, by memory outside of the blocks S -/
def Rd (S : Nat → Prop) (w : World) : D → List Value → Prop
  | .val v, cs => cs = [v]
  | .agg xs, cs => RdAll S w xs cs
  | .slice sz xs, cs => ∃ p c, cs = [.slice p xs.length c] ∧ xs.length ≤ c ∧ c ≤ maxLen ∧
      (xs = [] ∨ ∃ b o cells T fr, p = some ⟨b, o, none⟩ ∧ S b ∧ w.heap[b]? = some (.cells cells T fr) ∧ RdEach S w sz xs (cells.toList.drop o))
def RdAll (S : Nat → Prop) (w : World) : List D → List Value → Prop
  | [], cs => cs = []
  | d :: ds, cs => ∃ c1 c2, cs = c1 ++ c2 ∧ Rd S w d c1 ∧ RdAll S w ds c2
def RdEach (S : Nat → Prop) (w : World) (sz : Nat) : List D → List Value → Prop
  | [], _ => True
  | d :: ds, cs => ∃ c1 c2, cs = c1 ++ c2 ∧ c1.length = sz ∧ Rd S w d c1 ∧ RdEach S w sz ds c2
end

section
variable {S S' : Nat → Prop} {w w' : World}
mutual
theorem Rd.mono (h : ∀ b o, S b → w.heap[b]? = some o → S' b ∧ w'.heap[b]? = some o) : ∀ {d : D} {cs : List Value}, Rd S w d cs → Rd S' w' d cs
  | .val v, cs, hr => by simpa only [Rd] using hr
  | .agg xs, cs, hr => by simp only [Rd] at hr ⊢; exact RdAll.mono h hr
  | .slice sz xs, cs, hr => by
    simp only [Rd] at hr ⊢
    obtain ⟨p, c, rfl, h1, h2, h3⟩ := hr
    refine ⟨p, c, rfl, h1, h2, ?_⟩
    rcases h3 with h3 | ⟨b, o, cells, T, fr, hp, hb, hw, he⟩
    · exact .inl h3
    · obtain ⟨hb', hw'⟩ := h b _ hb hw
      exact .inr ⟨b, o, cells, T, fr, hp, hb', hw', RdEach.mono h he⟩
theorem RdAll.mono (h : ∀ b o, S b → w.heap[b]? = some o → S' b ∧ w'.heap[b]? = some o) : ∀ {ds : List D} {cs : List Value}, RdAll S w ds cs → RdAll S' w' ds cs
  | [], cs, hr => by simpa only [RdAll] using hr
  | d :: ds, cs, hr => by
    simp only [RdAll] at hr ⊢
    obtain ⟨c1, c2, rfl, h1, h2⟩ := hr
    exact ⟨c1, c2, rfl, Rd.mono h h1, RdAll.mono h h2⟩
theorem RdEach.mono (h : ∀ b o, S b → w.heap[b]? = some o → S' b ∧ w'.heap[b]? = some o) {sz : Nat} : ∀ {ds : List D} {cs : List Value}, RdEach S w sz ds cs → RdEach S' w' sz ds cs
  | [], cs, hr => by simp only [RdEach]
  | d :: ds, cs, hr => by
    simp only [RdEach] at hr ⊢
    obtain ⟨c1, c2, rfl, hl, h1, h2⟩ := hr
    exact ⟨c1, c2, rfl, hl, Rd.mono h h1, RdEach.mono h h2⟩
end
end

/-- from (S, w) to (S', w'): what was stable is stable, and as it was; of the old blocks no other has become stable; what is stable is there -/
structure Up (W : List Nat) (S : Nat → Prop) (w : World) (S' : Nat → Prop) (w' : World) : Prop where
  le : Le W w w'
  out : ∀ b ∈ W, ¬ S b
  more : ∀ b, S b → S' b
  old : ∀ b, b < w.heap.size → S' b → S b
  live : ∀ b, S' b → b < w'.heap.size
theorem Up.step {W : List Nat} {S S' : Nat → Prop} {w w' : World} (h : Up W S w S' w') : ∀ b o, S b → w.heap[b]? = some o → S' b ∧ w'.heap[b]? = some o :=
  fun b o hb ho => ⟨h.more b hb, h.le.kept ho (fun hm => h.out b hm hb)⟩
theorem Rd.up {W : List Nat} {S S' : Nat → Prop} {w w' : World} {d : D} {cs : List Value} (hr : Rd S w d cs) (h : Up W S w S' w') : Rd S' w' d cs := hr.mono h.step
theorem Up.refl {S : Nat → Prop} {w : World} (h : ∀ b, S b → b < w.heap.size) : Up [] S w S w := ⟨Le.refl _ _, by simp, fun _ h => h, fun _ _ h => h, h⟩
theorem Up.trans {W W' : List Nat} {S1 S2 S3 : Nat → Prop} {w1 w2 w3 : World} (h : Up W S1 w1 S2 w2) (k : Up W' S2 w2 S3 w3) (hs : ∀ m ∈ W', m ∈ W ∨ w1.heap.size ≤ m) : Up W S1 w1 S3 w3 :=
  ⟨h.le.trans k.le hs, h.out, fun b hb => k.more b (h.more b hb), fun b hb hs => h.old b hb (k.old b (Nat.lt_of_lt_of_le hb h.le.size) hs), k.live⟩
theorem Up.trans0 {W : List Nat} {S1 S2 S3 : Nat → Prop} {w1 w2 w3 : World} (h : Up W S1 w1 S2 w2) (k : Up [] S2 w2 S3 w3) : Up W S1 w1 S3 w3 := h.trans k (by simp)
/-- new memory alone -/
theorem Up.of_le {S : Nat → Prop} {w w' : World} (hS : ∀ b, S b → b < w.heap.size) (h : Le [] w w') : Up [] S w S w' := ⟨h, by simp, fun _ h => h, fun _ _ h => h, fun b hb => Nat.lt_of_lt_of_le (hS b hb) h.size⟩
theorem Up.of_le1 {S : Nat → Prop} {w w' : World} {W : List Nat} (hS : ∀ b, S b → b < w.heap.size) (hW : ∀ b ∈ W, ¬ S b) (h : Le W w w') : Up W S w S w' := ⟨h, hW, fun _ h => h, fun _ _ h => h, fun b hb => Nat.lt_of_lt_of_le (hS b hb) h.size⟩

/-- cells that lie one behind the other -/
def Cs (w : World) (b o : Nat) (cs : List Value) : Prop := ∃ cells T fr rest, w.heap[b]? = some (.cells cells T fr) ∧ cells.toList.drop o = cs ++ rest
theorem Cs.of_block {w : World} {g : Nat} {cs : List Value} {T : TypeId} {fr : Nat × Nat} (h : w.heap[g]? = some (.cells cs.toArray T fr)) : Cs w g 0 cs := ⟨_, T, fr, [], h, by simp⟩
theorem Cs.cell {w : World} {b o : Nat} {cs : List Value} (h : Cs w b o cs) {j : Nat} {v : Value} (hj : cs[j]? = some v) : w.cell? ⟨b, o + j, none⟩ = some v := by
  obtain ⟨cells, T, fr, rest, hb, hd⟩ := h
  have : cells.toList[o + j]? = some v := by
    rw [← List.getElem?_drop, hd]
    rw [List.getElem?_append_left (List.getElem?_eq_some_iff.1 hj).1]; exact hj
  simp only [World.cell?, hb]
  simpa using this
theorem Cs.sub {w : World} {b o : Nat} {cs : List Value} (h : Cs w b o cs) {j sz : Nat} {c1 : List Value} (hc : (cs.drop j).take sz = c1) (hj : j ≤ cs.length) : Cs w b (o + j) c1 := by
  obtain ⟨cells, T, fr, rest, hb, hd⟩ := h
  refine ⟨cells, T, fr, (cs.drop j).drop sz ++ rest, hb, ?_⟩
  rw [← hc, ← List.append_assoc, List.take_append_drop, ← List.drop_drop, hd]
  rw [List.drop_append_of_le_length hj]

/-- a typed slice that is read -/
def RdL {β : Type} (enc : β → D) (sz : Nat) (S : Nat → Prop) (w : World) (v : Value) (xs : List β) : Prop := Rd S w (.slice sz (xs.map enc)) [v]

theorem RdEach.at {S : Nat → Prop} {w : World} {sz : Nat} : ∀ {ds : List D} {cs : List Value} {i : Nat} {d : D}, RdEach S w sz ds cs → ds[i]? = some d → ∃ c1 rest, cs.drop (i * sz) = c1 ++ rest ∧ c1.length = sz ∧ Rd S w d c1
  | d0 :: ds, cs, 0, d, h, hd => by
    simp only [RdEach] at h
    obtain ⟨c1, c2, rfl, hl, h1, h2⟩ := h
    simp only [List.getElem?_cons_zero, Option.some.injEq] at hd
    subst hd
    exact ⟨c1, c2, by simp, hl, h1⟩
  | d0 :: ds, cs, i + 1, d, h, hd => by
    simp only [RdEach] at h
    obtain ⟨c1, c2, rfl, hl, h1, h2⟩ := h
    obtain ⟨e1, rest, he, hl', hr⟩ := RdEach.at (i := i) h2 (by simpa using hd)
    refine ⟨e1, rest, ?_, hl', hr⟩
    rw [← he, Nat.succ_mul, Nat.add_comm, ← List.drop_drop]
    congr 1
    rw [← hl]; simp
  | [], _, i, d, h, hd => by simp at hd

/-- an element's cells -/
theorem RdL.at {β : Type} {enc : β → D} {sz : Nat} {S : Nat → Prop} {w : World} {v : Value} {xs : List β} (h : RdL enc sz S w v xs) {i : Nat} {y : β} (hi : xs[i]? = some y) :
    ∃ b o c c1, v = .slice (some ⟨b, o, none⟩) xs.length c ∧ Cs w b (o + i * sz) c1 ∧ c1.length = sz ∧ Rd S w (enc y) c1 := by
  unfold RdL at h
  simp only [Rd] at h
  obtain ⟨p, c, hv, h1, h2, h3⟩ := h
  have hlt := (List.getElem?_eq_some_iff.1 hi).1
  rcases h3 with h3 | ⟨b, o, cells, T, fr, rfl, hb, hw, he⟩
  · have : xs = [] := by simpa using h3
    subst this; simp at hlt
  · obtain ⟨c1, rest, hd, hl, hr⟩ := RdEach.at (i := i) (d := enc y) he (by simp [hi])
    refine ⟨b, o, c, c1, by simpa using hv, ⟨cells, T, fr, rest, hw, ?_⟩, hl, hr⟩
    rw [← List.drop_drop, hd]
theorem RdL.form {β : Type} {enc : β → D} {sz : Nat} {S : Nat → Prop} {w : World} {v : Value} {xs : List β} (h : RdL enc sz S w v xs) : ∃ p c, v = .slice p xs.length c ∧ xs.length ≤ c ∧ c ≤ maxLen ∧ (xs ≠ [] → ∃ b o, p = some ⟨b, o, none⟩) := by
  unfold RdL at h
  simp only [Rd] at h
  obtain ⟨p, c, hv, h1, h2, h3⟩ := h
  refine ⟨p, c, by simpa using hv, by simpa using h1, h2, fun hne => ?_⟩
  rcases h3 with h3 | ⟨b, o, cells, T, fr, rfl, _⟩
  · exact absurd (by simpa using h3) hne
  · exact ⟨b, o, rfl⟩
theorem RdL.nil {β : Type} {enc : β → D} {sz : Nat} {S : Nat → Prop} {w : World} : RdL enc sz S w (.slice none 0 0) [] := by
  unfold RdL
  simp only [Rd]
  exact ⟨none, 0, rfl, Nat.le_refl _, by decide, .inl rfl⟩
theorem RdL.length_le {β : Type} {enc : β → D} {sz : Nat} {S : Nat → Prop} {w : World} {v : Value} {xs : List β} (h : RdL enc sz S w v xs) : xs.length ≤ 9223372036854775807 := by
  obtain ⟨p, c, _, h1, h2, _⟩ := h.form
  unfold maxLen at h2; omega

/-! ### reading of structs: cells one by one -/
theorem RdAll.val {S : Nat → Prop} {w : World} {v : Value} {ds : List D} {cs : List Value} : RdAll S w (.val v :: ds) cs ↔ ∃ c2, cs = v :: c2 ∧ RdAll S w ds c2 := by
  simp only [RdAll, Rd]
  constructor
  · rintro ⟨c1, c2, rfl, rfl, h⟩; exact ⟨c2, rfl, h⟩
  · rintro ⟨c2, rfl, h⟩; exact ⟨[v], c2, rfl, rfl, h⟩
theorem RdAll.slice {S : Nat → Prop} {w : World} {sz : Nat} {xs : List D} {ds : List D} {cs : List Value} : RdAll S w (.slice sz xs :: ds) cs ↔ ∃ v c2, cs = v :: c2 ∧ Rd S w (.slice sz xs) [v] ∧ RdAll S w ds c2 := by
  simp only [RdAll]
  constructor
  · rintro ⟨c1, c2, rfl, h1, h2⟩
    have h1' := h1
    simp only [Rd] at h1'
    obtain ⟨p, c, rfl, _⟩ := h1'
    exact ⟨_, c2, rfl, h1, h2⟩
  · rintro ⟨v, c2, rfl, h1, h2⟩; exact ⟨[v], c2, rfl, h1, h2⟩
theorem RdAll.append {S : Nat → Prop} {w : World} : ∀ {xs ds : List D} {cs : List Value}, RdAll S w (xs ++ ds) cs ↔ ∃ c1 c2, cs = c1 ++ c2 ∧ RdAll S w xs c1 ∧ RdAll S w ds c2
  | [], ds, cs => by
    simp only [List.nil_append, RdAll]
    constructor
    · intro h; exact ⟨[], cs, rfl, rfl, h⟩
    · rintro ⟨c1, c2, rfl, rfl, h⟩; exact h
  | x :: xs, ds, cs => by
    simp only [List.cons_append, RdAll]
    constructor
    · rintro ⟨c1, c2, rfl, h1, h2⟩
      obtain ⟨e1, e2, rfl, h3, h4⟩ := RdAll.append.1 h2
      exact ⟨c1 ++ e1, e2, by simp, ⟨c1, e1, rfl, h1, h3⟩, h4⟩
    · rintro ⟨c1, c2, rfl, ⟨e1, e2, rfl, h1, h3⟩, h4⟩
      exact ⟨e1, e2 ++ c2, by simp, h1, RdAll.append.2 ⟨e2, c2, rfl, h3, h4⟩⟩
theorem RdAll.agg {S : Nat → Prop} {w : World} {xs ds : List D} {cs : List Value} : RdAll S w (.agg xs :: ds) cs ↔ RdAll S w (xs ++ ds) cs := by
  rw [RdAll.append]; simp only [RdAll, Rd]
theorem RdAll.nil {S : Nat → Prop} {w : World} {cs : List Value} : RdAll S w [] cs ↔ cs = [] := by simp only [RdAll]
theorem Rd.agg_iff {S : Nat → Prop} {w : World} {xs : List D} {cs : List Value} : Rd S w (.agg xs) cs ↔ RdAll S w xs cs := by simp only [Rd]
theorem Rd.val_iff {S : Nat → Prop} {w : World} {v : Value} {cs : List Value} : Rd S w (.val v) cs ↔ cs = [v] := by simp only [Rd]
end Go.Proofs.YtbaaojaoadjnmaeDoor.Gx
