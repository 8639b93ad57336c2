/- ReplayTexts: Text and Read of package replay give what the reference gives, for every list of choices and text of bulk at most 1048576. This text: rows of the call's own. Conditions: none beyond those that the statement itself names. -/
import Derived.Test.YtbaaojaoadjnmaeDoorGxC
namespace Go.Proofs.YtbaaojaoadjnmaeDoor.Gx
open Go.RowKit

/-- a row's own block, as a list -/
def ob (v : Value) : List Nat := v.ownBlock.toList
theorem ob_nil : ob (.slice none 0 0) = [] := rfl
theorem Le.of_grown {w w' : World} {v : Value} (h : w.grownBy w' v.ownBlock) : Le (ob v) w w' :=
  ⟨h.os, h.tape, h.output, h.size, fun b hb hn => h.block b hb (fun e => hn (by simp [ob, ← e]))⟩
theorem Le.grown {w w' : World} {v : Value} (h : Le (ob v) w w') : w.grownBy w' v.ownBlock :=
  ⟨h.os, h.tape, h.output, h.size, fun b hb hn => h.block b hb (fun e => hn (Eq.symm (by simpa [ob] using e)))⟩

/-- what appending needs to know of the element type -/
structure Elt (P : Program) (t e : TypeId) (size bytes : Nat) (z : List Value) : Prop where
  sl : P.underlying t = some (.slice e)
  info : ∃ i zv, P.info? e = some i ∧ i.zero = some zv ∧ i.size = size ∧ i.bytes = bytes ∧ zv.cells = z.toArray
  pos : 0 < size
  len : z.length = size

/-- a row of the call's own: v has n elements, of the cells cs -/
def Own (w : World) (e sz : Nat) (v : Value) (n : Nat) (cs : List Value) : Prop := w.ownsRow 0 e sz v n cs
theorem Own.nil (w : World) (e sz : Nat) : Own w e sz (.slice none 0 0) 0 [] := World.ownsRow_nil _ _ _ _
theorem Own.lt {w : World} {e sz n : Nat} {v : Value} {cs : List Value} (h : Own w e sz v n cs) : ∀ b ∈ ob v, b < w.heap.size := fun b hb => (World.ownsRow.lt h b (by simpa [ob] using hb)).2
theorem Own.kept {w w' : World} {e sz n : Nat} {v : Value} {cs : List Value} {W : List Nat} (h : Own w e sz v n cs) (hl : Le W w w') (hn : ∀ b ∈ ob v, b ∉ W) : Own w' e sz v n cs := by
  refine ⟨h.1, ?_⟩
  rcases h.2 with h2 | ⟨g, cap, cur, rfl, hb, hg, r⟩
  · exact .inl h2
  · exact .inr ⟨g, cap, cur, rfl, hb, hl.kept hg (hn g (by simp [ob, Value.ownBlock])), r⟩
theorem Own.kept0 {w w' : World} {e sz n : Nat} {v : Value} {cs : List Value} (h : Own w e sz v n cs) (hl : Le [] w w') : Own w' e sz v n cs := h.kept hl (by simp)
theorem Own.form {w : World} {e sz n : Nat} {v : Value} {cs : List Value} (h : Own w e sz v n cs) : ∃ p c, v = .slice p n c ∧ n ≤ c ∧ c ≤ maxLen := by
  rcases h.2 with ⟨rfl, rfl⟩ | ⟨g, cap, cur, rfl, _, _, h1, h2, _⟩
  · exact ⟨none, 0, rfl, Nat.le_refl _, by decide⟩
  · exact ⟨_, _, rfl, h1, h2⟩
theorem Own.cells {w : World} {e sz n : Nat} {v : Value} {cs : List Value} (h : Own w e sz v n cs) (h0 : 0 < n) : ∃ g c, v = .slice (some ⟨g, 0, none⟩) n c ∧ Cs w g 0 cs ∧ g ∈ ob v := by
  rcases h.2 with ⟨rfl, rfl⟩ | ⟨g, cap, cur, rfl, _, hg, h1, h2, h3, h4⟩
  · omega
  · exact ⟨g, cap, rfl, ⟨cur, e, _, cur.toList.drop (n * sz), hg, by simp only [List.drop_zero]; rw [← h4, List.take_append_drop]⟩, by simp [ob, Value.ownBlock]⟩

section
variable {P : Program} {w : World}
theorem run_append {t ty e size bytes : Nat} {z : List Value} (E : Elt P t e size bytes z) {v : Value} {n : Nat} {xs : List Value} (hown : Own w e size v n xs)
    {a : Addr} {m c : Nat} {news : List Value} (hl : news.length = m * size) (hnews : ∀ j u, news[j]? = some u → w.cell? (a.add j) = some u) (h1 : ∀ u ∈ news, u.oneCell' = true)
    (hbytes : (n + m) * bytes ≤ 140737488355328) (hmax : n + m ≤ maxLen) :
    ∃ v' w', (Builtin.append_ #[t, t] ty #[v, .slice (some a) m c]).run P w = .ok v' w' ∧ Own w' e size v' (n + m) (xs ++ news) ∧ Le (ob v) w w' ∧ (∀ b ∈ ob v', b ∈ ob v ∨ w.heap.size ≤ b) := by
  obtain ⟨i, zv, hi, hz, hs, hb, hzc⟩ := E.info
  have hzs : zv.cells.size = size := by rw [hzc]; simp [E.len]
  rcases hown.2 with ⟨rfl, rfl⟩ | ⟨g, cap, cur, rfl, _, hg, hnc, hcm, hcs, htake⟩
  · have hx : xs = [] := List.eq_nil_of_length_eq_zero (by simpa using hown.1)
    subst hx
    obtain ⟨v', w', hr, ho, hgr, _⟩ := run_append_own (P := P) w w.heap.size t ty e i zv size bytes E.sl hi hz hs hb hzs E.pos _ 0 [] (World.ownsRow_nil _ _ _ _) a m c news hl hnews h1 hmax hbytes (Nat.le_refl _)
    refine ⟨v', w', hr, ⟨ho.1, ?_⟩, Le.of_grown hgr, fun b hb => .inr (ho.lt b (by simpa [ob] using hb)).1⟩
    rcases ho.2 with h2 | ⟨g, cap, cur, rfl, hb, r⟩
    · exact .inl h2
    · exact .inr ⟨g, cap, cur, rfl, Nat.zero_le _, r⟩
  · obtain ⟨v', w', hr, ho, hgr, _⟩ := run_append_own (P := P) w 0 t ty e i zv size bytes E.sl hi hz hs hb hzs E.pos _ n xs hown a m c news hl hnews h1 hmax hbytes (Nat.zero_le _)
    refine ⟨v', w', hr, ho, Le.of_grown hgr, ?_⟩
    by_cases hroom : n + m ≤ cap
    · have hfit : n * i.size + news.length ≤ cur.size := by rw [hl, hcs, hs, ← Nat.add_mul]; exact Nat.mul_le_mul_right _ hroom
      have hr' := run_append_room (P := P) w t ty e i E.sl hi g n cap cur hg a m c news (by rw [hs]; exact hl) hnews h1 hroom hfit
      rw [hr'] at hr
      injection hr with hv hw
      subst hv
      intro b hb; exact .inl (by simpa [ob, Value.ownBlock] using hb)
    · have holds : ∀ j u, xs[j]? = some u → w.cell? ((⟨g, 0, none⟩ : Addr).add j) = some u := World.ownsRow.cells hown (g := g) rfl
      have hmx : n + m ≤ 9223372036854775807 := by simp only [maxLen] at hmax; omega
      have hr' := run_append_grow (P := P) w t ty e i zv E.sl hi hz ⟨g, 0, none⟩ n cap xs (by rw [hs]; exact hown.1) holds a m c news (by rw [hs]; exact hl) hnews (by omega) (by omega) (growslice_fits (by omega) (by rw [hb]; exact hbytes))
      rw [hr'] at hr
      injection hr with hv hw
      subst hv
      intro b hb; exact .inr (by simp [ob, Value.ownBlock] at hb; omega)
theorem run_append0 {t ty e size bytes : Nat} {z : List Value} (E : Elt P t e size bytes z) {v : Value} {n : Nat} {xs : List Value} (hown : Own w e size v n xs) (p : Option Addr) (c : Nat) :
    (Builtin.append_ #[t, t] ty #[v, .slice p 0 c]).run P w = .ok v w := by
  obtain ⟨i, zv, hi, hz, hs, hb, hzc⟩ := E.info
  obtain ⟨q, cap, rfl, hle, _⟩ := hown.form
  cases p <;> cases q <;> simp [Builtin.append_, run_underlying E.sl, sizeOf, typeInfo, hi, Builtin.lenOf, hle, Builtin.firstCells, loadCells, loadCellsFrom, storeCells]
end

theorem Rd.one {S : Nat → Prop} {w : World} : ∀ {d : D} {cs : List Value}, Rd S w d cs → (∀ v, d = .val v → v.oneCell' = true) → True := fun _ _ => trivial

/-! ### rows of elements that are told one by one -/
/-- the cells cs are those of the elements xs, each of sz cells -/
def RdX {β : Type} (enc : β → D) (sz : Nat) (S : Nat → Prop) (w : World) (xs : List β) (cs : List Value) : Prop := RdEach S w sz (xs.map enc) cs ∧ cs.length = xs.length * sz
theorem RdX.nil {β : Type} {enc : β → D} {sz : Nat} {S : Nat → Prop} {w : World} : RdX enc sz S w [] [] := ⟨by simp [RdEach], by simp⟩
theorem RdEach.append {S : Nat → Prop} {w : World} {sz : Nat} : ∀ {ds es : List D} {c1 c2 : List Value}, RdEach S w sz ds c1 → c1.length = ds.length * sz → RdEach S w sz es c2 → RdEach S w sz (ds ++ es) (c1 ++ c2)
  | [], es, c1, c2, h1, hl, h2 => by
    have : c1 = [] := List.eq_nil_of_length_eq_zero (by simpa using hl)
    subst this; simpa using h2
  | d :: ds, es, c1, c2, h1, hl, h2 => by
    simp only [RdEach, List.cons_append] at h1 ⊢
    obtain ⟨e1, e2, rfl, hs, h3, h4⟩ := h1
    refine ⟨e1, e2 ++ c2, by simp, hs, h3, RdEach.append h4 ?_ h2⟩
    simp only [List.length_append, List.length_cons, Nat.add_mul, hs] at hl; omega
theorem RdX.append {β : Type} {enc : β → D} {sz : Nat} {S : Nat → Prop} {w : World} {xs ys : List β} {c1 c2 : List Value} (h1 : RdX enc sz S w xs c1) (h2 : RdX enc sz S w ys c2) : RdX enc sz S w (xs ++ ys) (c1 ++ c2) :=
  ⟨by rw [List.map_append]; exact RdEach.append h1.1 (by simpa using h1.2) h2.1, by simp [h1.2, h2.2, Nat.add_mul]⟩
theorem RdX.one {β : Type} {enc : β → D} {sz : Nat} {S : Nat → Prop} {w : World} {x : β} {c1 : List Value} (h : Rd S w (enc x) c1) (hl : c1.length = sz) : RdX enc sz S w [x] c1 :=
  ⟨by simp only [List.map_cons, List.map_nil, RdEach]; exact ⟨c1, [], by simp, hl, h, trivial⟩, by simpa using hl⟩
theorem RdX.up {β : Type} {enc : β → D} {sz : Nat} {W : List Nat} {S S' : Nat → Prop} {w w' : World} {xs : List β} {cs : List Value} (hr : RdX enc sz S w xs cs) (h : Up W S w S' w') : RdX enc sz S' w' xs cs := ⟨RdEach.mono h.step hr.1, hr.2⟩

theorem RdEach.more {S : Nat → Prop} {w : World} {sz : Nat} : ∀ {ds : List D} {c1 : List Value} (c2 : List Value), RdEach S w sz ds c1 → RdEach S w sz ds (c1 ++ c2)
  | [], _, _, _ => by simp only [RdEach]
  | d :: ds, c1, c2, h => by
    simp only [RdEach] at h ⊢
    obtain ⟨e1, e2, rfl, hs, h3, h4⟩ := h
    exact ⟨e1, e2 ++ c2, by simp, hs, h3, RdEach.more c2 h4⟩
/-- an own row, read: it is not written any more -/
theorem Own.read {β : Type} {enc : β → D} {e sz : Nat} {S : Nat → Prop} {w : World} {v : Value} {xs : List β} {cs : List Value} (h : Own w e sz v xs.length cs) (hx : RdX enc sz S w xs cs) (hA : ∀ b ∈ ob v, S b) : RdL enc sz S w v xs := by
  unfold RdL
  simp only [Rd, List.length_map]
  rcases h.2 with ⟨rfl, h0⟩ | ⟨g, cap, cur, rfl, _, hg, h1, h2, h3, h4⟩
  · refine ⟨none, 0, by rw [h0], by omega, by decide, .inl ?_⟩
    have : xs = [] := List.eq_nil_of_length_eq_zero h0
    subst this; rfl
  · refine ⟨_, _, rfl, h1, h2, .inr ⟨g, 0, cur, e, _, rfl, hA g (by simp [ob, Value.ownBlock]), hg, ?_⟩⟩
    have := RdEach.more (cur.toList.drop (xs.length * sz)) hx.1
    rw [← h4, List.take_append_drop] at this
    simpa using this

/-- cells of a source slice -/
theorem RdEach.split {S : Nat → Prop} {w : World} {sz : Nat} : ∀ {ds : List D} {cs : List Value}, RdEach S w sz ds cs → ∃ c1 c2, cs = c1 ++ c2 ∧ c1.length = ds.length * sz ∧ RdEach S w sz ds c1
  | [], cs, _ => ⟨[], cs, rfl, by simp, by simp only [RdEach]⟩
  | d :: ds, cs, h => by
    simp only [RdEach] at h
    obtain ⟨e1, e2, rfl, hs, h3, h4⟩ := h
    obtain ⟨f1, f2, rfl, hl, h5⟩ := RdEach.split h4
    refine ⟨e1 ++ f1, f2, by simp, by simp [hs, hl, Nat.add_mul]; omega, ?_⟩
    simp only [RdEach]
    exact ⟨e1, f1, rfl, hs, h3, h5⟩
theorem RdL.source {β : Type} {enc : β → D} {sz : Nat} {S : Nat → Prop} {w : World} {v : Value} {xs : List β} (h : RdL enc sz S w v xs) :
    (∃ p c, v = .slice p 0 c ∧ xs = []) ∨ ∃ b o c cs, v = .slice (some ⟨b, o, none⟩) xs.length c ∧ Cs w b o cs ∧ RdX enc sz S w xs cs := by
  unfold RdL at h
  simp only [Rd] at h
  obtain ⟨p, c, hv, h1, h2, h3⟩ := h
  rcases h3 with h3 | ⟨b, o, cells, T, fr, rfl, hb, hw, he⟩
  · have : xs = [] := by simpa using h3
    subst this
    exact .inl ⟨p, c, by simpa using hv, rfl⟩
  · obtain ⟨c1, c2, hc, hl, he1⟩ := RdEach.split he
    exact .inr ⟨b, o, c, c1, by simpa using hv, ⟨cells, T, fr, c2, hw, hc⟩, he1, by simpa using hl⟩

/-- every leaf of a datum is one cell -/
def One : D → Prop
  | .val v => v.oneCell' = true
  | .slice _ _ => True
  | .agg xs => ∀ x ∈ xs, One x
theorem Rd.oneCell {S : Nat → Prop} {w : World} : ∀ {d : D} {cs : List Value}, One d → Rd S w d cs → ∀ u ∈ cs, u.oneCell' = true := by
  intro d
  induction d using One.induct with
  | case1 v => intro cs h hr u hu; simp only [Rd] at hr; subst hr; simp at hu; subst hu; simpa [One] using h
  | case2 sz xs =>
    intro cs h hr u hu
    simp only [Rd] at hr
    obtain ⟨p, c, rfl, _⟩ := hr
    simp at hu; subst hu; rfl
  | case3 xs ih =>
    intro cs h hr u hu
    simp only [Rd] at hr
    have h' : ∀ x ∈ xs, One x := by simpa [One] using h
    clear h
    induction xs generalizing cs with
    | nil => simp only [RdAll] at hr; subst hr; simp at hu
    | cons x xs ih2 =>
      simp only [RdAll] at hr
      obtain ⟨c1, c2, rfl, h1, h2⟩ := hr
      rcases List.mem_append.1 hu with h3 | h3
      · exact ih x (by simp) (h' x (by simp)) h1 u h3
      · exact ih2 (fun y hy => ih y (by simp [hy])) h2 h3 (fun y hy => h' y (by simp [hy]))
theorem RdEach.oneCell {S : Nat → Prop} {w : World} {sz : Nat} : ∀ {ds : List D} {cs : List Value}, (∀ d ∈ ds, One d) → RdEach S w sz ds cs → cs.length = ds.length * sz → ∀ u ∈ cs, u.oneCell' = true
  | [], cs, _, _, hl, u, hu => by
    have : cs = [] := List.eq_nil_of_length_eq_zero (by simpa using hl)
    subst this; simp at hu
  | d :: ds, cs, h, hr, hl, u, hu => by
    simp only [RdEach] at hr
    obtain ⟨c1, c2, rfl, hs, h1, h2⟩ := hr
    rcases List.mem_append.1 hu with h3 | h3
    · exact Rd.oneCell (h d (by simp)) h1 u h3
    · exact RdEach.oneCell (fun y hy => h y (by simp [hy])) h2 (by simp only [List.length_append, List.length_cons, Nat.add_mul, hs] at hl; omega) u h3
end Go.Proofs.YtbaaojaoadjnmaeDoor.Gx
