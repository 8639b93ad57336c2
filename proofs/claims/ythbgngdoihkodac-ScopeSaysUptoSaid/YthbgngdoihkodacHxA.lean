/- roadstead: ScopeSays. This text: HxA. Conditions: none beyond those that the statement itself names. -/
import Derived.WalkKit
import Derived.Deep.Quiet
import Derived.Laws.MakeOwn
import Derived.Laws.StructEq
import Derived.OrdersHeld
import Derived.KernelRfl
namespace Go.Proofs.Ythbgngdoihkodac.Hx
open Go.RowKit
abbrev Str := List UInt8

/-! ### worlds -/
/-- of what was there nothing has changed but the blocks W -/
structure Le (W : List Nat) (w w' : World) : Prop where
  os : w'.os = w.os
  tape : w'.tape = w.tape
  output : w'.output = w.output
  size : w.heap.size ≤ w'.heap.size
  block : ∀ b, b < w.heap.size → b ∉ W → w'.heap[b]? = w.heap[b]?

theorem Le.refl (W : List Nat) (w : World) : Le W w w := ⟨rfl, rfl, rfl, Nat.le_refl _, fun _ _ _ => rfl⟩
theorem Le.trans {W W' : List Nat} {a b c : World} (h : Le W a b) (k : Le W' b c) (hs : ∀ m ∈ W', m ∈ W ∨ a.heap.size ≤ m) : Le W a c :=
  ⟨k.os.trans h.os, k.tape.trans h.tape, k.output.trans h.output, Nat.le_trans h.size k.size, fun i hi hn =>
    (k.block i (Nat.lt_of_lt_of_le hi h.size) (fun hm => by rcases hs i hm with h1 | h1; exact hn h1; omega)).trans (h.block i hi hn)⟩
theorem Le.trans0 {W : List Nat} {a b c : World} (h : Le W a b) (k : Le [] b c) : Le W a c := h.trans k (by simp)
theorem Le.mono {W W' : List Nat} {a b : World} (h : Le W a b) (hs : ∀ m ∈ W, m ∈ W' ∨ a.heap.size ≤ m) : Le W' a b :=
  ⟨h.os, h.tape, h.output, h.size, fun i hi hn => h.block i hi (fun hm => by rcases hs i hm with h1 | h1; exact hn h1; omega)⟩
theorem Le.below {a b : World} (h : Le [] a b) : Below a.heap.size a b := ⟨h.os, h.tape, h.output, h.size, fun k hk => h.block k hk (by simp)⟩
theorem Le.of_below {a b : World} (h : Below a.heap.size a b) : Le [] a b := ⟨h.os, h.tape, h.output, h.size, fun k hk _ => h.block k hk⟩
theorem Le.alloc (w : World) (o : Obj) : Le [] w (w.alloc o) := ⟨rfl, rfl, rfl, by simp, fun k hk _ => Below.heap_alloc w o k hk⟩
theorem Le.drew (w : World) : Le [] w w.drew := ⟨rfl, rfl, rfl, Nat.le_refl _, fun k hk _ => rfl⟩
theorem Le.setRow (w : World) (g : Nat) (cs : Array Value) : Le [g] w (w.setRow g cs) :=
  ⟨rfl, rfl, rfl, by simp, fun k hk hn => by
    have : k ≠ g := by simpa using hn
    simp only [World.setRow]
    rw [Array.getElem?_modify]; rw [if_neg (by omega)]⟩
theorem Le.kept {W : List Nat} {w w' : World} (h : Le W w w') {g : Nat} {o : Obj} (hg : w.heap[g]? = some o) (hn : g ∉ W) : w'.heap[g]? = some o :=
  (h.block g (Array.getElem?_eq_some_iff.1 hg).1 hn).trans hg
theorem lt_of_block {w : World} {g : Nat} {o : Obj} (h : w.heap[g]? = some o) : g < w.heap.size := (Array.getElem?_eq_some_iff.1 h).1

/-- a row's own block, as a list: what has no room has none -/
def ob : Value → List Nat
  | .slice (some a) _ (_ + 1) => [a.block]
  | _ => []
theorem ob_nil {p : Option Addr} {n : Nat} : ob (.slice p n 0) = [] := by cases p <;> rfl
theorem ob_some {g o n c : Nat} (h : 0 < c) : ob (.slice (some ⟨g, o, none⟩) n c) = [g] := by
  cases c with
  | zero => omega
  | succ c => rfl
theorem ob_nodup (v : Value) : (ob v).Nodup := by
  unfold ob; split <;> simp
/-- an error: nil or not -/
def IsErr (v : Value) (b : Bool) : Prop := (b = false ∧ v = .nilIface) ∨ (b = true ∧ ∃ t p, v = .iface t p)
theorem IsErr.nil : IsErr .nilIface false := .inl ⟨rfl, rfl⟩
theorem IsErr.some {t : TypeId} {p : Value} : IsErr (.iface t p) true := .inr ⟨rfl, t, p, rfl⟩

/-! ### what is known of data -/
inductive D where
  | val (v : Value)
  | err (b : Bool)
  | ptr (d : D)
  | rp (v : Value) (o : Nat)
  | sl (sz : Nat) (xs : List D)
  | agg (xs : List D)
  | tup (xs : List D)

mutual
/-- the cells cs read as d in w, by memory that is stable (the blocks S) -/
def Rd (S : Nat → Prop) (w : World) : D → List Value → Prop
  | .val v, cs => cs = [v]
  | .err b, cs => ∃ v, cs = [v] ∧ IsErr v b
  | .ptr d, cs => ∃ b o cells T fr c1 c2, cs = [.pointer (some ⟨b, o, none⟩)] ∧ S b ∧ w.heap[b]? = some (.cells cells T fr) ∧ cells.toList.drop o = c1 ++ c2 ∧ Rd S w d c1
  | .rp v o, cs => ∃ g o0 n c, v = .slice (some ⟨g, o0, none⟩) n (c + 1) ∧ cs = [.pointer (some ⟨g, o0 + o, none⟩)]
  | .agg ds, cs => RdCs S w ds cs
  | .sl sz xs, cs => ∃ p c, cs = [.slice p xs.length c] ∧ xs.length ≤ c ∧ c ≤ maxLen ∧
      (xs = [] ∨ ∃ b o cells T fr, p = some ⟨b, o, none⟩ ∧ S b ∧ w.heap[b]? = some (.cells cells T fr) ∧ RdEach S w sz xs (cells.toList.drop o))
  | .tup _, _ => False
def RdCs (S : Nat → Prop) (w : World) : List D → List Value → Prop
  | [], cs => cs = []
  | d :: ds, cs => ∃ v cs', cs = v :: cs' ∧ Rd S w d [v] ∧ RdCs S w ds cs'
def RdEach (S : Nat → Prop) (w : World) (sz : Nat) : List D → List Value → Prop
  | [], _ => True
  | d :: ds, cs => ∃ c1 c2, cs = c1 ++ c2 ∧ c1.length = sz ∧ Rd S w d c1 ∧ RdEach S w sz ds c2
end
mutual
/-- a value reads as d -/
def RdV (S : Nat → Prop) (w : World) : D → Value → Prop
  | .agg ds, v => ∃ cs, v = .agg cs.toArray ∧ RdCs S w ds cs
  | .tup ds, v => ∃ vs, v = .tuple vs.toArray ∧ RdVs S w ds vs
  | .val u, v => Rd S w (.val u) [v]
  | .err b, v => Rd S w (.err b) [v]
  | .ptr d, v => Rd S w (.ptr d) [v]
  | .rp u o, v => Rd S w (.rp u o) [v]
  | .sl sz xs, v => Rd S w (.sl sz xs) [v]
def RdVs (S : Nat → Prop) (w : World) : List D → List Value → Prop
  | [], vs => vs = []
  | d :: ds, vs => ∃ v vs', vs = v :: vs' ∧ RdV S w d v ∧ RdVs S w ds vs'
end

section
variable {S S' : Nat → Prop} {w w' : World}
mutual
theorem Rd.mono (h : ∀ b o, S b → w.heap[b]? = some o → S' b ∧ w'.heap[b]? = some o) : ∀ {d : D} {cs : List Value}, Rd S w d cs → Rd S' w' d cs
  | .val v, cs, hr => by simpa only [Rd] using hr
  | .err b, cs, hr => by simpa only [Rd] using hr
  | .rp v o, cs, hr => by simpa only [Rd] using hr
  | .tup v, cs, hr => by simp only [Rd] at hr
  | .agg xs, cs, hr => by simp only [Rd] at hr ⊢; exact RdCs.mono h hr
  | .ptr d, cs, hr => by
    simp only [Rd] at hr ⊢
    obtain ⟨b, o, cells, T, fr, c1, c2, h0, hb, hw, hd, hr⟩ := hr
    obtain ⟨hb', hw'⟩ := h b _ hb hw
    exact ⟨b, o, cells, T, fr, c1, c2, h0, hb', hw', hd, Rd.mono h hr⟩
  | .sl sz xs, cs, hr => by
    simp only [Rd] at hr ⊢
    obtain ⟨p, c, rfl, h1, h2, h3⟩ := hr
    refine ⟨p, c, rfl, h1, h2, ?_⟩
    rcases h3 with h3 | ⟨b, o, cells, T, fr, hp, hb, hw, he⟩
    · exact .inl h3
    · obtain ⟨hb', hw'⟩ := h b _ hb hw
      exact .inr ⟨b, o, cells, T, fr, hp, hb', hw', RdEach.mono h he⟩
theorem RdCs.mono (h : ∀ b o, S b → w.heap[b]? = some o → S' b ∧ w'.heap[b]? = some o) : ∀ {ds : List D} {cs : List Value}, RdCs S w ds cs → RdCs S' w' ds cs
  | [], cs, hr => by simpa only [RdCs] using hr
  | d :: ds, cs, hr => by
    simp only [RdCs] at hr ⊢
    obtain ⟨c1, c2, rfl, h1, h2⟩ := hr
    exact ⟨c1, c2, rfl, Rd.mono h h1, RdCs.mono h h2⟩
theorem RdEach.mono (h : ∀ b o, S b → w.heap[b]? = some o → S' b ∧ w'.heap[b]? = some o) {sz : Nat} : ∀ {ds : List D} {cs : List Value}, RdEach S w sz ds cs → RdEach S' w' sz ds cs
  | [], cs, hr => by simp only [RdEach]
  | d :: ds, cs, hr => by
    simp only [RdEach] at hr ⊢
    obtain ⟨c1, c2, rfl, hl, h1, h2⟩ := hr
    exact ⟨c1, c2, rfl, hl, Rd.mono h h1, RdEach.mono h h2⟩
end
mutual
theorem RdV.mono (h : ∀ b o, S b → w.heap[b]? = some o → S' b ∧ w'.heap[b]? = some o) : ∀ {d : D} {v : Value}, RdV S w d v → RdV S' w' d v
  | .val v, cs, hr => by simp only [RdV] at hr ⊢; exact Rd.mono h hr
  | .err b, cs, hr => by simp only [RdV] at hr ⊢; exact Rd.mono h hr
  | .rp v o, cs, hr => by simp only [RdV] at hr ⊢; exact Rd.mono h hr
  | .ptr v, cs, hr => by simp only [RdV] at hr ⊢; exact Rd.mono h hr
  | .sl sz xs, cs, hr => by simp only [RdV] at hr ⊢; exact Rd.mono h hr
  | .agg xs, v, hr => by
    simp only [RdV] at hr ⊢
    obtain ⟨cs, rfl, hr⟩ := hr
    exact ⟨cs, rfl, RdCs.mono h hr⟩
  | .tup xs, v, hr => by
    simp only [RdV] at hr ⊢
    obtain ⟨vs, rfl, hr⟩ := hr
    exact ⟨vs, rfl, RdVs.mono h hr⟩
theorem RdVs.mono (h : ∀ b o, S b → w.heap[b]? = some o → S' b ∧ w'.heap[b]? = some o) : ∀ {ds : List D} {vs : List Value}, RdVs S w ds vs → RdVs S' w' ds vs
  | [], vs, hr => by simpa only [RdVs] using hr
  | d :: ds, vs, hr => by
    simp only [RdVs] at hr ⊢
    obtain ⟨c1, c2, rfl, h1, h2⟩ := hr
    exact ⟨c1, c2, rfl, RdV.mono h h1, RdVs.mono h h2⟩
end
end

/-- the cells of a datum -/
def D.cells : D → List D
  | .agg ds => ds
  | d => [d]
def D.leaf : D → Bool
  | .agg _ => false
  | .tup _ => false
  | _ => true
section
variable {S : Nat → Prop} {w : World}
theorem RdCs.length : ∀ {ds : List D} {cs : List Value}, RdCs S w ds cs → cs.length = ds.length
  | [], cs, h => by simp only [RdCs] at h; subst h; rfl
  | d :: ds, cs, h => by
    simp only [RdCs] at h
    obtain ⟨v, cs', rfl, h1, h2⟩ := h
    simp [RdCs.length h2]
theorem RdCs.one {d : D} {v : Value} : RdCs S w [d] [v] ↔ Rd S w d [v] := by
  simp only [RdCs]
  constructor
  · rintro ⟨v', cs', h, h1, rfl⟩
    obtain rfl : v = v' := by simpa using h
    exact h1
  · intro h; exact ⟨v, [], rfl, h, rfl⟩
theorem RdCs.append : ∀ {xs ds : List D} {cs : List Value}, RdCs S w (xs ++ ds) cs ↔ ∃ c1 c2, cs = c1 ++ c2 ∧ RdCs S w xs c1 ∧ RdCs S w ds c2
  | [], ds, cs => by
    simp only [List.nil_append, RdCs]
    constructor
    · intro h; exact ⟨[], cs, rfl, rfl, h⟩
    · rintro ⟨c1, c2, rfl, rfl, h⟩; exact h
  | x :: xs, ds, cs => by
    simp only [List.cons_append, RdCs]
    constructor
    · rintro ⟨c1, c2, rfl, h1, h2⟩
      obtain ⟨e1, e2, rfl, h3, h4⟩ := RdCs.append.1 h2
      exact ⟨c1 :: e1, e2, by simp, ⟨c1, e1, rfl, h1, h3⟩, h4⟩
    · rintro ⟨c1, c2, rfl, ⟨v, e2, rfl, h1, h3⟩, h4⟩
      exact ⟨v, e2 ++ c2, by simp, h1, RdCs.append.2 ⟨e2, c2, rfl, h3, h4⟩⟩
theorem RdCs.at : ∀ {ds : List D} {cs : List Value} {i : Nat} {d : D}, RdCs S w ds cs → ds[i]? = some d → ∃ v, cs[i]? = some v ∧ Rd S w d [v]
  | d0 :: ds, cs, 0, d, h, hd => by
    simp only [RdCs] at h
    obtain ⟨v, cs', rfl, h1, h2⟩ := h
    simp only [List.getElem?_cons_zero, Option.some.injEq] at hd
    subst hd
    exact ⟨v, rfl, h1⟩
  | d0 :: ds, cs, i + 1, d, h, hd => by
    simp only [RdCs] at h
    obtain ⟨v, cs', rfl, h1, h2⟩ := h
    simpa using RdCs.at h2 (by simpa using hd)
  | [], cs, i, d, h, hd => by simp at hd
theorem RdCs.drop : ∀ (k : Nat) {ds : List D} {cs : List Value}, RdCs S w ds cs → RdCs S w (ds.drop k) (cs.drop k)
  | 0, ds, cs, h => by simpa using h
  | k + 1, [], cs, h => by simp only [RdCs] at h; subst h; simp [RdCs]
  | k + 1, d :: ds, cs, h => by
    simp only [RdCs] at h
    obtain ⟨v, cs', rfl, h1, h2⟩ := h
    simpa using RdCs.drop k h2
theorem RdCs.take : ∀ (k : Nat) {ds : List D} {cs : List Value}, RdCs S w ds cs → RdCs S w (ds.take k) (cs.take k)
  | 0, ds, cs, h => by simp [RdCs]
  | k + 1, [], cs, h => by simp only [RdCs] at h; subst h; simp [RdCs]
  | k + 1, d :: ds, cs, h => by
    simp only [RdCs] at h
    obtain ⟨v, cs', rfl, h1, h2⟩ := h
    simp only [List.take_succ_cons, RdCs]
    exact ⟨v, _, rfl, h1, RdCs.take k h2⟩
theorem Rd.single {d : D} {cs : List Value} (hl : d.leaf = true) (h : Rd S w d cs) : ∃ v, cs = [v] ∧ Rd S w d [v] := by
  have h0 := h
  cases d with
  | val v => simp only [Rd] at h; exact ⟨_, h, by rw [← h]; exact h0⟩
  | err b => simp only [Rd] at h; obtain ⟨v, rfl, _⟩ := h; exact ⟨_, rfl, h0⟩
  | ptr d => simp only [Rd] at h; obtain ⟨b, o, cells, T, fr, c1, c2, rfl, _⟩ := h; exact ⟨_, rfl, h0⟩
  | rp v o => simp only [Rd] at h; obtain ⟨g, o0, n, c, _, rfl⟩ := h; exact ⟨_, rfl, h0⟩
  | sl sz xs => simp only [Rd] at h; obtain ⟨p, c, rfl, _⟩ := h; exact ⟨_, rfl, h0⟩
  | agg xs => cases hl
  | tup xs => cases hl
/-- cells as cells -/
theorem Rd.cs {d : D} {cs : List Value} (h : Rd S w d cs) : RdCs S w d.cells cs := by
  cases d with
  | agg xs => simpa only [Rd, D.cells] using h
  | tup xs => simp only [Rd] at h
  | _ =>
    obtain ⟨v, rfl, hv⟩ := Rd.single rfl h
    exact RdCs.one.2 hv
theorem Rd.of_cs {d : D} {cs : List Value} (h : RdCs S w d.cells cs) : Rd S w d cs := by
  cases d with
  | agg xs => simpa only [Rd, D.cells] using h
  | tup xs =>
    simp only [D.cells, RdCs] at h
    obtain ⟨v, cs', rfl, h1, _⟩ := h
    simp only [Rd] at h1
  | _ =>
    simp only [D.cells, RdCs] at h
    obtain ⟨v, cs', rfl, h1, rfl⟩ := h
    exact h1
theorem Rd.length {d : D} {cs : List Value} (h : Rd S w d cs) : cs.length = d.cells.length := h.cs.length
/-- a value and its cells -/
theorem RdV.leaf {d : D} {v : Value} (hl : d.leaf = true) : RdV S w d v ↔ Rd S w d [v] := by
  cases d <;> simp only [RdV] <;> cases hl
end

/-- from (S, w) to (S', w'): what was stable is stable, and as it was; of the old blocks none but of W has become stable; what is stable is there -/
structure Up (W : List Nat) (S : Nat → Prop) (w : World) (S' : Nat → Prop) (w' : World) : Prop where
  le : Le W w w'
  out : ∀ b ∈ W, ¬ S b
  more : ∀ b, S b → S' b
  old : ∀ b, b < w.heap.size → b ∉ W → S' b → S b
  live : ∀ b, S' b → b < w'.heap.size
theorem Up.step {W : List Nat} {S S' : Nat → Prop} {w w' : World} (h : Up W S w S' w') : ∀ b o, S b → w.heap[b]? = some o → S' b ∧ w'.heap[b]? = some o :=
  fun b o hb ho => ⟨h.more b hb, h.le.kept ho (fun hm => h.out b hm hb)⟩
theorem Up.refl {W : List Nat} {S : Nat → Prop} {w : World} (hS : ∀ b, S b → b < w.heap.size) (hW : ∀ b ∈ W, ¬ S b) : Up W S w S w := ⟨Le.refl _ _, hW, fun _ h => h, fun _ _ _ h => h, hS⟩
theorem Up.trans {W W' : List Nat} {S S1 S2 : Nat → Prop} {w w1 w2 : World} (h : Up W S w S1 w1) (k : Up W' S1 w1 S2 w2) (hs : ∀ m ∈ W', m ∈ W ∨ w.heap.size ≤ m) : Up W S w S2 w2 :=
  ⟨h.le.trans k.le hs, h.out, fun b hb => k.more b (h.more b hb), fun b hb hn hs2 => h.old b hb hn (k.old b (Nat.lt_of_lt_of_le hb h.le.size) (fun hm => by
    rcases hs b hm with h1 | h1
    · exact hn h1
    · omega) hs2), k.live⟩
theorem Up.mono {W W' : List Nat} {S S' : Nat → Prop} {w w' : World} (h : Up W S w S' w') (hs : ∀ m ∈ W, m ∈ W') (ho : ∀ m ∈ W', ¬ S m) : Up W' S w S' w' :=
  ⟨h.le.mono fun m hm => .inl (hs m hm), ho, h.more, fun b hb hn h1 => h.old b hb (fun hm => hn (hs b hm)) h1, h.live⟩
theorem Up.of_le {S : Nat → Prop} {w w' : World} {W : List Nat} (hS : ∀ b, S b → b < w.heap.size) (hW : ∀ b ∈ W, ¬ S b) (h : Le W w w') : Up W S w S w' := ⟨h, hW, fun _ h => h, fun _ _ _ h => h, fun b hb => Nat.lt_of_lt_of_le (hS b hb) h.size⟩
section
variable {W : List Nat} {S S' : Nat → Prop} {w w' : World}
theorem Rd.up {d : D} {cs : List Value} (hr : Rd S w d cs) (h : Up W S w S' w') : Rd S' w' d cs := hr.mono h.step
theorem RdCs.up {d : List D} {cs : List Value} (hr : RdCs S w d cs) (h : Up W S w S' w') : RdCs S' w' d cs := hr.mono h.step
theorem RdEach.up {sz : Nat} {d : List D} {cs : List Value} (hr : RdEach S w sz d cs) (h : Up W S w S' w') : RdEach S' w' sz d cs := hr.mono h.step
theorem RdV.up {d : D} {v : Value} (hr : RdV S w d v) (h : Up W S w S' w') : RdV S' w' d v := hr.mono h.step
theorem RdVs.up {d : List D} {v : List Value} (hr : RdVs S w d v) (h : Up W S w S' w') : RdVs S' w' d v := hr.mono h.step
end
end Go.Proofs.Ythbgngdoihkodac.Hx
