/- ReplayTexts: Text and Read of package replay give what the reference gives, for every list of choices and text of bulk at most 1048576. This text: append. Conditions: none beyond those that the statement itself names. -/
import Derived.Test.YtbaaojaoadjnmaeDoorGxF
namespace Go.Proofs.YtbaaojaoadjnmaeDoor.Gx
open Go.RowKit

theorem one_I {k : IntKind} {x : Int} : One (eI k x) := by simp [eI, One, Value.oneCell']
theorem one_B {x : Bool} : One (eB x) := by simp [eB, One, Value.oneCell']
theorem one_S {x : Str} : One (eS x) := by simp [eS, One, bs, Value.oneCell']
theorem one_L {β : Type} {enc : β → D} {sz : Nat} {xs : List β} : One (eL enc sz xs) := by simp [eL, One]

/-- where appended elements come from -/
def Src {β : Type} (enc : β → D) (sz : Nat) (S : Nat → Prop) (w : World) (v : Value) (ys : List β) : Prop :=
  (∃ p c, v = .slice p 0 c ∧ ys = []) ∨ ∃ b o c cs, v = .slice (some ⟨b, o, none⟩) ys.length c ∧ Cs w b o cs ∧ RdX enc sz S w ys cs
theorem RdL.src {β : Type} {enc : β → D} {sz : Nat} {S : Nat → Prop} {w : World} {v : Value} {xs : List β} (h : RdL enc sz S w v xs) : Src enc sz S w v xs := h.source
theorem OwnL.src {β : Type} {enc : β → D} {e sz B : Nat} {S : Nat → Prop} {w : World} {v : Value} {xs : List β} (h : OwnL enc e sz B S w v xs) : Src enc sz S w v xs := by
  obtain ⟨cs, ho, hx⟩ := h.row
  by_cases h0 : xs.length = 0
  · obtain ⟨p, c, rfl, _⟩ := ho.form
    exact .inl ⟨p, c, by rw [h0], List.eq_nil_of_length_eq_zero h0⟩
  · obtain ⟨g, c, rfl, hC, _⟩ := ho.cells (by omega)
    exact .inr ⟨g, 0, c, cs, rfl, hC, hx⟩

theorem set_fold : ∀ (c done tl zs : List Value), c.length = tl.length → ∀ off, off = done.length →
    (c.zipIdx 0).foldl (fun cs (x : Value × Nat) => cs.setIfInBounds (off + x.2) x.1) (done ++ tl ++ zs).toArray = (done ++ c ++ zs).toArray := by
  have key : ∀ (c tl done zs : List Value) (j off : Nat), c.length = tl.length → off + j = done.length →
      (c.zipIdx j).foldl (fun cs (x : Value × Nat) => cs.setIfInBounds (off + x.2) x.1) (done ++ tl ++ zs).toArray = (done ++ c ++ zs).toArray := by
    intro c
    induction c with
    | nil => intro tl done zs j off hl _; have : tl = [] := List.eq_nil_of_length_eq_zero (by simpa using hl.symm); subst this; simp
    | cons x c ih =>
      intro tl done zs j off hl hj
      cases tl with
      | nil => simp at hl
      | cons t tl =>
        simp only [List.zipIdx_cons, List.foldl_cons]
        have : (done ++ t :: tl ++ zs).toArray.setIfInBounds (off + j) x = ((done ++ [x]) ++ tl ++ zs).toArray := by
          rw [hj]; simp
        rw [this, ih tl (done ++ [x]) zs (j + 1) off (by simpa using hl) (by simp; omega)]
        simp
  intro c done tl zs hl off ho
  exact key c tl done zs 0 off hl (by omega)

def enum {β : Type} : Nat → List β → List (Nat × β)
  | _, [] => []
  | k, x :: xs => (k, x) :: enum (k + 1) xs
theorem enum_map {β γ : Type} (f : β → γ) : ∀ (k : Nat) (xs : List β), (enum k xs).map (fun p => (p.1, f p.2)) = enum k (xs.map f)
  | _, [] => rfl
  | k, x :: xs => by simp [enum, enum_map f (k + 1) xs]
theorem fill_all (size : Nat) : ∀ (vs : List Value) (k : Nat) (done zs : List Value), done.length = k * size → zs.length = vs.length * size → (∀ v ∈ vs, v.cells.size = size) →
    Instr.fill (fun i => some (i * size, size)) (done ++ zs).toArray (enum k vs) = some (done ++ vs.flatMap (fun v => v.cells.toList)).toArray
  | [], k, done, zs, _, hz, _ => by
    have : zs = [] := List.eq_nil_of_length_eq_zero (by simpa using hz)
    subst this; simp [Instr.fill, enum]
  | v :: vs, k, done, zs, hd, hz, hv => by
    have h1 := hv v (by simp)
    have hlen : size ≤ zs.length := by rw [hz]; simp [Nat.add_mul]
    have hz2 : zs = zs.take size ++ zs.drop size := (List.take_append_drop _ _).symm
    simp only [enum, Instr.fill]
    rw [if_neg (by simp [h1, hd]; omega)]
    have hf := set_fold v.cells.toList done (zs.take size) (zs.drop size) (by simp [h1]; omega) (k * size) hd.symm
    have hz3 : (v.cells.zipIdx).foldl (fun cs (x : Value × Nat) => cs.setIfInBounds (k * size + x.2) x.1) (done ++ zs).toArray = (done ++ v.cells.toList ++ zs.drop size).toArray := by
      rw [← hf]
      conv => lhs; rw [hz2]
      rw [← Array.foldl_toList]; simp
    have hz4 := fill_all size vs (k + 1) (done ++ v.cells.toList) (zs.drop size) (by simp [h1, hd, Nat.add_mul]) (by simp [hz, Nat.add_mul]) (fun u hu => hv u (by simp [hu]))
    rw [← hz3] at hz4
    simpa using hz4

theorem run_buildSlice {P : Program} {w : World} {t e size bytes m : Nat} {z : List Value} (E : Elt P t e size bytes z) {vs : List Value} (hm : vs.length = m) (hsz : m * size ≤ 16777216) (hv : ∀ v ∈ vs, v.cells.size = size) :
    (Instr.buildSlice t m (enum 0 vs).toArray).run P w = .ok (.slice (some ⟨w.heap.size, 0, none⟩) m m) (w.alloc (.cells (vs.flatMap (fun v => v.cells.toList)).toArray e)) := by
  obtain ⟨i, zv, hi, hz, hs, hb, hzc⟩ := E.info
  have hf : ∀ zs : List Value, zs.length = m * size → Instr.fill (fun i => some (i * size, size)) zs.toArray (enum 0 vs) = some (vs.flatMap (fun v => v.cells.toList)).toArray := fun zs hl => by
    have := fill_all size vs 0 [] zs (by simp) (by rw [hl, hm]) hv
    simpa using this
  have hf2 : ∀ a : Array Value, a.size = m * size → Instr.fill (fun i => some (i * size, size)) a (enum 0 vs) = some (vs.flatMap (fun v => v.cells.toList)).toArray := fun a ha => by
    have := hf a.toList (by simpa using ha)
    simpa using this
  have n1 : ¬ (m * size > 2 ^ 24) := by omega
  have hso : (sizeOf e).run P w = .ok size w := by simp [sizeOf, typeInfo, hi, hs]
  unfold Instr.buildSlice
  simp only [Sem.run_bind, run_underlying E.sl, Result.andThen_ok, hso, if_neg n1]
  by_cases h0 : m * size = 0
  · simp only [h0, if_true, Sem.run_bind, Sem.run_pure, Result.andThen_ok]
    rw [hf2 _ (by simp [h0])]
    simp [newRow, run_newObj_alloc]
  · have hzz : (zeroValue e).run P w = .ok zv w := by simp [zeroValue, typeInfo, hi, hz]
    simp only [h0, if_false, Sem.run_bind, Sem.run_pure, Result.andThen_ok, hzz]
    rw [hf2 _ (by simp)]
    simp [newRow, run_newObj_alloc]

section
variable {α β : Type} {out : α} {F : Option α} {n : Nat} {L : List (Nat × Value)} {w : World} {P : Program} {Q : Exit → Act → World → Prop} {S : Nat → Prop}
variable {ops : Array Oper} {rest : List Oper} {ty : TypeId} {pos : String} {aft : Array Edge} {d : Nat}

theorem G.buildSlice {enc : β → D} {t e sz bytes m B : Nat} {z : List Value} {xs : List Operand} {vs : List Value} {ys : List β} {cs : List Value} {parts : Array (Nat × Operand)} (hd : Nat.blt d n = true) (E : Elt P t e sz bytes z) (hp : parts.toList = enum 0 xs) (hx : evs L xs = some vs) (hm : ys.length = m) (hsz : m * sz ≤ 16777216)
    (hvs : vs.length = m) (hv : ∀ v ∈ vs, v.cells.size = sz) (hc : vs.flatMap (fun v => v.cells.toList) = cs) (hr : RdX enc sz S w ys cs) (hB : B ≤ w.heap.size) (hS : ∀ b, S b → b < w.heap.size)
    (h : ∀ v w', Up [] S w S w' → OwnL enc e sz B S w' v ys → (∀ b ∈ ob v, w.heap.size ≤ b) → G out F n ((d, v) :: L) w' (wpList P ops Q rest)) :
    G out F n L w (wpList P ops Q (⟨some d, .buildSlice t m parts, ty, pos, aft, none⟩ :: rest)) := by
  have hlen : m ≤ maxLen := by
    have h1 : 0 < sz := E.pos
    have : m ≤ m * sz := Nat.le_mul_of_pos_right _ h1
    simp only [maxLen]; omega
  have hU : Up [] S w S (w.alloc (.cells cs.toArray e)) := Up.of_le hS (Le.alloc _ _)
  refine G.value (v := .slice (some ⟨w.heap.size, 0, none⟩) m m) (w' := w.alloc (.cells cs.toArray e)) hd (fun a ha => ?_) (h _ _ hU ⟨?_, ?_, cs, ?_, hr.up hU⟩ ?_)
  · simp only [execOp]
    refine run_value_of ?_
    have hmap : (parts.map fun (p : Nat × Operand) => (p.1, a.eval p.2)) = (enum 0 vs).toArray := by
      apply Array.ext'
      rw [Array.toList_map, hp, enum_map, ha.evals hx]
    rw [hmap, run_buildSlice E hvs hsz hv, hc]
  · intro b hb; simp [ob, Value.ownBlock] at hb; omega
  · intro b hb hs; simp [ob, Value.ownBlock] at hb; have := hS b hs; omega
  · refine ⟨by rw [hr.2], .inr ⟨w.heap.size, m, cs.toArray, by rw [hm], Nat.zero_le _, heap_alloc_new _ _, by omega, hlen, by simp [hr.2, hm], by rw [← hr.2]; simp⟩⟩
  · intro b hb; simp [ob, Value.ownBlock] at hb; omega

theorem G.append {enc : β → D} {t e sz bytes lim B : Nat} {z : List Value} {x y : Operand} {v src : Value} {xs ys : List β} {F2 : List β → Option α} (hd : Nat.blt d n = true) (E : Elt P t e sz bytes z) (hx : ev L x = some v) (hy : ev L y = some src) (hlim : lim * bytes ≤ 140737488355328) (hlim2 : lim ≤ 9223372036854775807) (hOne : ∀ y : β, One (enc y))
    (ho : OwnL enc e sz B S w v xs) (hs : Src enc sz S w src ys) (hB : B ≤ w.heap.size) (hS : ∀ b, S b → b < w.heap.size)
    (h : ∀ zs v' w', app lim xs ys = some zs → Up (ob v) S w S w' → OwnL enc e sz B S w' v' zs → (∀ b ∈ ob v', b ∈ ob v ∨ w.heap.size ≤ b) → G out (F2 zs) n ((d, v') :: L) w' (wpList P ops Q rest)) :
    G out ((app lim xs ys).bind F2) n L w (wpList P ops Q (⟨some d, .call { callee := .builtin .append, args := #[x, y], argTypes := #[t, t] }, ty, pos, aft, none⟩ :: rest)) :=
  G.bind fun zs hz => by
    obtain ⟨hle, rfl⟩ := app_some hz
    obtain ⟨cs, hown, hX⟩ := ho.row
    rcases hs with ⟨p, c, rfl, rfl⟩ | ⟨b, o, c, news, rfl, hC, hY⟩
    · have hr : ∀ cc, (Go.builtin .append #[t, t] ty cc #[v, .slice p 0 c]).run P w = .ok (.value v) w := fun cc => by
        simp [Go.builtin, run_append0 (ty := ty) E hown p c]
      refine G.builtin (xs := [x, y]) (vs := [v, .slice p 0 c]) hd (by simp [evs, hx, hy]) hr (h _ v w hz (Up.of_le1 hS ho.apart (Le.refl _ _)) (by simpa using ho) (fun b hb => .inl hb))
    · have hl : news.length = ys.length * sz := hY.2
      have hmax : xs.length + ys.length ≤ maxLen := by simp only [maxLen]; omega
      have hby : (xs.length + ys.length) * bytes ≤ 140737488355328 := Nat.le_trans (Nat.mul_le_mul_right _ hle) hlim
      obtain ⟨v', w', hr, ho', hle', hob⟩ := run_append (P := P) (w := w) (ty := ty) E hown (a := ⟨b, o, none⟩) (c := c) hl
        (fun j u hj => by rw [add_plain]; exact hC.cell hj) (RdEach.oneCell (by intro d hd; obtain ⟨y, _, rfl⟩ := List.mem_map.1 hd; exact hOne y) hY.1 (by simpa using hl)) hby hmax
      have hU : Up (ob v) S w S w' := Up.of_le1 hS ho.apart hle'
      refine G.builtin (xs := [x, y]) (vs := [v, .slice (some ⟨b, o, none⟩) ys.length c]) (v := v') (w' := w') hd (by simp [evs, hx, hy]) (fun cc => by simp [Go.builtin, hr]) (h _ v' w' hz hU ⟨?_, ?_, cs ++ news, by simpa using ho', (hX.up hU).append (hY.up hU)⟩ hob)
      · intro k hk
        rcases hob k hk with h1 | h1
        · exact ho.born k h1
        · omega
      · intro k hk hs
        rcases hob k hk with h1 | h1
        · exact ho.apart k h1 hs
        · have := hS k hs; omega
end
end Go.Proofs.YtbaaojaoadjnmaeDoor.Gx
