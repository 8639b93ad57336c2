/- roadstead: ScopeSays. This text: HxB. Conditions: none beyond those that the statement itself names. -/
import Derived.Test.YthbgngdoihkodacHxA
namespace Go.Proofs.Ythbgngdoihkodac.Hx
open Go.RowKit

/-! ### rows of the call's own -/
/-- v has n elements, of the cells cs; they lie in a block of its own, or there is no room at all -/
def Row (w : World) (e sz : Nat) (v : Value) (n : Nat) (cs : List Value) : Prop :=
  cs.length = n * sz ∧ ∃ p c, v = .slice p n c ∧ n ≤ c ∧ c ≤ maxLen ∧ (c = 0 ∨ ∃ g o cur, p = some ⟨g, o, none⟩ ∧ 0 < c ∧ w.heap[g]? = some (.cells cur e) ∧ o + c * sz ≤ cur.size ∧ (cur.toList.drop o).take (n * sz) = cs)

/-! ### what is owned -/
inductive Res where
  | cells (g : Nat) (t : TypeId) (ds : List D)
  | row (v : Value) (e sz : Nat) (ds : List D)
  | map (g : Nat) (es : List (Value × D))
def Res.fp : Res → List Nat
  | .cells g _ _ => [g]
  | .row v _ _ _ => ob v
  | .map g _ => [g]
/-- the entries of a map: keys, values, stamps -/
def Ents (S : Nat → Prop) (w : World) : List (Value × D) → List MapEntry → Prop
  | [], es => es = []
  | (k, d) :: l, es => ∃ e es', es = e :: es' ∧ e.key = k ∧ RdV S w d e.val ∧ Ents S w l es'
def Res.ok (S : Nat → Prop) (w : World) : Res → Prop
  | .cells g t ds => ∃ cs, w.heap[g]? = some (.cells cs.toArray t (0, 0)) ∧ RdCs S w ds cs
  | .row v e sz ds => ∃ cs, Row w e sz v ds.length cs ∧ RdEach S w sz ds cs
  | .map g l => ∃ es clock, w.heap[g]? = some (.map es clock) ∧ Ents S w l es.toList ∧ (es.toList.map (·.born)).Nodup ∧ ∀ e ∈ es.toList, e.born < clock
def fps (R : List Res) : List Nat := R.flatMap Res.fp

theorem Ents.mono {S S' : Nat → Prop} {w w' : World} (h : ∀ b o, S b → w.heap[b]? = some o → S' b ∧ w'.heap[b]? = some o) : ∀ {l : List (Value × D)} {es : List MapEntry}, Ents S w l es → Ents S' w' l es
  | [], es, he => by simpa only [Ents] using he
  | (k, d) :: l, es, he => by
    simp only [Ents] at he ⊢
    obtain ⟨e, es', rfl, h1, h2, h3⟩ := he
    exact ⟨e, es', rfl, h1, h2.mono h, Ents.mono h h3⟩
theorem Row.kept {w w' : World} {e sz n : Nat} {v : Value} {cs : List Value} (h : Row w e sz v n cs) (hk : ∀ b ∈ ob v, w'.heap[b]? = w.heap[b]?) : Row w' e sz v n cs := by
  obtain ⟨h0, p, c, rfl, h1, h2, h3⟩ := h
  refine ⟨h0, p, c, rfl, h1, h2, ?_⟩
  rcases h3 with h3 | ⟨g, o, cur, rfl, hc, h4, h5⟩
  · exact .inl h3
  · exact .inr ⟨g, o, cur, rfl, hc, (hk g (by simp [ob_some hc])).trans h4, h5⟩
theorem Row.lt {w : World} {e sz n : Nat} {v : Value} {cs : List Value} (h : Row w e sz v n cs) : ∀ b ∈ ob v, b < w.heap.size := by
  obtain ⟨h0, p, c, rfl, h1, h2, h3⟩ := h
  rcases h3 with rfl | ⟨g, o, cur, rfl, hc, h4, h5⟩
  · simp [ob_nil]
  · intro b hb
    have : b = g := by simpa [ob_some hc] using hb
    subst this; exact lt_of_block h4
theorem Row.form {w : World} {e sz n : Nat} {v : Value} {cs : List Value} (h : Row w e sz v n cs) : ∃ p c, v = .slice p n c ∧ n ≤ c ∧ c ≤ maxLen := by
  obtain ⟨h0, p, c, rfl, h1, h2, h3⟩ := h
  exact ⟨p, c, rfl, h1, h2⟩
/-- a resource outside of what is written -/
theorem Res.ok.up {S S' : Nat → Prop} {w w' : World} {W : List Nat} {r : Res} (h : r.ok S w) (u : Up W S w S' w') (hd : ∀ b ∈ r.fp, b ∉ W) : r.ok S' w' := by
  cases r with
  | cells g t ds =>
    simp only [Res.ok] at h ⊢
    obtain ⟨cs, h1, h2⟩ := h
    exact ⟨cs, u.le.kept h1 (hd g (by simp [Res.fp])), h2.up u⟩
  | row v e sz ds =>
    simp only [Res.ok] at h ⊢
    obtain ⟨cs, h1, h2⟩ := h
    exact ⟨cs, h1.kept (fun b hb => u.le.block b (h1.lt b hb) (hd b hb)), h2.up u⟩
  | map g l =>
    simp only [Res.ok] at h ⊢
    obtain ⟨es, clock, h1, h2, h3⟩ := h
    exact ⟨es, clock, u.le.kept h1 (hd g (by simp [Res.fp])), h2.mono u.step, h3⟩
theorem Res.ok.lt {S : Nat → Prop} {w : World} {r : Res} (h : r.ok S w) : ∀ b ∈ r.fp, b < w.heap.size := by
  cases r with
  | cells g t ds =>
    obtain ⟨cs, h1, h2⟩ := h
    intro b hb; have : b = g := by simpa [Res.fp] using hb
    subst this; exact lt_of_block h1
  | row v e sz ds =>
    obtain ⟨cs, h1, h2⟩ := h
    exact h1.lt
  | map g l =>
    obtain ⟨es, clock, h1, h2, h3⟩ := h
    intro b hb; have : b = g := by simpa [Res.fp] using hb
    subst this; exact lt_of_block h1

/-! ### slots -/
def look : List (Nat × D) → Nat → Option D
  | [], _ => none
  | (j, d) :: L, i => match Nat.beq i j with
    | true => some d
    | false => look L i
/-- the package-level variables: stable, and read as told -/
def Globs (Γ : List (Nat × D)) (S : Nat → Prop) (w : World) : Prop := ∀ g d, look Γ g = some d → Rd S w (.ptr d) [.pointer (some ⟨g, 0, none⟩)]
/-- a constant -/
def cv : Value → D
  | .agg cs => .agg (cs.toList.map .val)
  | v => .val v
def ev (Γ L : List (Nat × D)) : Operand → Option D
  | .tmp t => look L t
  | .const v => some (cv v)
  | .global g => (look Γ g).map .ptr
  | .func f => some (.val (.func (.func f) #[] #[]))

structure Fr (n : Nat) (S : Nat → Prop) (w : World) (L : List (Nat × D)) (a : Act) : Prop where
  size : a.tmps.size = n
  defers : a.defers = []
  at_ : ∀ i d, look L i = some d → ∃ v, a.tmps[i]? = some v ∧ RdV S w d v
theorem RdV.val {S : Nat → Prop} {w : World} {u v : Value} : RdV S w (.val u) v ↔ v = u := by simp [RdV, Rd]
theorem RdCs.vals {S : Nat → Prop} {w : World} : ∀ cs : List Value, RdCs S w (cs.map .val) cs
  | [] => by simp [RdCs]
  | v :: cs => by simp only [List.map_cons, RdCs]; exact ⟨v, cs, rfl, by simp [Rd], RdCs.vals cs⟩
theorem RdV.cv {S : Nat → Prop} {w : World} (v : Value) : RdV S w (cv v) v := by
  cases v <;> simp only [Hx.cv, RdV.val]
  rename_i cs
  simp only [RdV]
  exact ⟨cs.toList, by simp, RdCs.vals _⟩
section
variable {Γ L : List (Nat × D)} {n : Nat} {S S' : Nat → Prop} {w w' : World} {a : Act}
theorem Fr.eval (h : Fr n S w L a) (hg : Globs Γ S w) {x : Operand} {d : D} (hx : ev Γ L x = some d) : RdV S w d (a.eval x) := by
  cases x with
  | tmp t =>
    simp only [ev] at hx
    obtain ⟨v, h1, h2⟩ := h.at_ _ _ hx
    simpa [Act.eval, Array.getD_eq_getD_getElem?, h1] using h2
  | const u => simp only [ev, Option.some.injEq] at hx; subst hx; exact RdV.cv u
  | global g =>
    simp only [ev, Option.map_eq_some_iff] at hx
    obtain ⟨d0, h1, rfl⟩ := hx
    have := hg g d0 h1
    simpa only [RdV, Act.eval] using this
  | func f => simp only [ev, Option.some.injEq] at hx; subst hx; exact RdV.val.2 rfl
theorem Fr.up {W : List Nat} (h : Fr n S w L a) (u : Up W S w S' w') : Fr n S' w' L a := ⟨h.size, h.defers, fun i d hd => by
  obtain ⟨v, h1, h2⟩ := h.at_ i d hd
  exact ⟨v, h1, h2.up u⟩⟩
theorem Fr.put (h : Fr n S w L a) {d : Nat} {dv : D} {v : Value} (hd : Nat.blt d n = true) (hv : RdV S w dv v) : Fr n S w ((d, dv) :: L) (a.put (some d) v) := by
  have hd' : d < a.tmps.size := by rw [h.size]; exact of_eq_true (by rw [← Nat.blt_eq]; exact eq_true hd)
  refine ⟨by simp [Act.put, h.size], by simp [Act.put, h.defers], fun i u hu => ?_⟩
  simp only [look] at hu
  by_cases e : i = d
  · subst e
    simp only [Nat.beq_refl, Option.some.injEq] at hu
    subst hu
    exact ⟨v, by simp [Act.put, hd'], hv⟩
  · have : Nat.beq i d = false := by
      cases hb : Nat.beq i d with
      | true => exact absurd (Nat.eq_of_beq_eq_true hb) e
      | false => rfl
    rw [this] at hu
    obtain ⟨u', h2, h3⟩ := h.at_ _ _ hu
    refine ⟨u', ?_, h3⟩
    simp only [Act.put, Array.getElem?_setIfInBounds]
    rw [if_neg (by omega)]; exact h2
theorem Fr.sub {L' : List (Nat × D)} (h : Fr n S w L a) (hs : ∀ i d, look L' i = some d → ∃ d0, look L i = some d0 ∧ ∀ v, RdV S w d0 v → RdV S w d v) : Fr n S w L' a := ⟨h.size, h.defers, fun i d hd => by
  obtain ⟨d0, h1, h2⟩ := hs i d hd
  obtain ⟨v, h3, h4⟩ := h.at_ i d0 h1
  exact ⟨v, h3, h2 v h4⟩⟩
end
/-- the slots that are kept -/
def keep (L : List (Nat × D)) : List Nat → List (Nat × D)
  | [] => []
  | i :: is => match look L i with
    | some d => (i, d) :: keep L is
    | none => keep L is
theorem look_keep {L : List (Nat × D)} : ∀ {is : List Nat} {i d}, look (keep L is) i = some d → look L i = some d
  | [], _, _, h => by simp [keep, look] at h
  | j :: is, i, d, h => by
    unfold keep at h
    split at h
    · rename_i u hu
      simp only [look] at h
      split at h
      · rename_i hb
        have := Nat.eq_of_beq_eq_true hb
        subst this
        rw [hu]; exact h
      · exact look_keep h
    · exact look_keep h
/-- the slots at a call's begin -/
def args0 : Nat → List D → List (Nat × D)
  | _, [] => []
  | i, d :: ds => (i, d) :: args0 (i + 1) ds
theorem look_args0 : ∀ (ds : List D) (k i : Nat) (d : D), look (args0 k ds) i = some d → ∃ j, i = k + j ∧ ds[j]? = some d
  | [], _, _, _, h => by simp [args0, look] at h
  | u :: ds, k, i, d, h => by
    simp only [args0, look] at h
    split at h
    · rename_i hb
      exact ⟨0, by have := Nat.eq_of_beq_eq_true hb; omega, by simpa using h⟩
    · obtain ⟨j, hj, hv⟩ := look_args0 ds (k + 1) i d h
      exact ⟨j + 1, by omega, by simpa using hv⟩
theorem RdVs.length {S : Nat → Prop} {w : World} : ∀ {ds : List D} {vs : List Value}, RdVs S w ds vs → vs.length = ds.length
  | [], vs, h => by simp only [RdVs] at h; subst h; rfl
  | d :: ds, vs, h => by
    simp only [RdVs] at h
    obtain ⟨v, vs', rfl, h1, h2⟩ := h
    simp [RdVs.length h2]
theorem RdVs.at {S : Nat → Prop} {w : World} : ∀ {ds : List D} {vs : List Value} {i : Nat} {d : D}, RdVs S w ds vs → ds[i]? = some d → ∃ v, vs[i]? = some v ∧ RdV S w d v
  | d0 :: ds, vs, 0, d, h, hd => by
    simp only [RdVs] at h
    obtain ⟨v, vs', rfl, h1, h2⟩ := h
    simp only [List.getElem?_cons_zero, Option.some.injEq] at hd
    subst hd
    exact ⟨v, rfl, h1⟩
  | d0 :: ds, vs, i + 1, d, h, hd => by
    simp only [RdVs] at h
    obtain ⟨v, vs', rfl, h1, h2⟩ := h
    simpa using RdVs.at h2 (by simpa using hd)
  | [], vs, i, d, h, hd => by simp at hd
theorem Fr.enter {S : Nat → Prop} {w : World} (n : Nat) {ds : List D} {vs : List Value} (hv : RdVs S w ds vs) (h : ds.length ≤ n) : Fr n S w (args0 0 ds) { tmps := vs.toArray ++ Array.replicate (n - vs.toArray.size) undef, defers := [] } := by
  have hl := hv.length
  refine ⟨by simp; omega, rfl, fun i d hd => ?_⟩
  obtain ⟨j, rfl, hj⟩ := look_args0 ds 0 i d hd
  obtain ⟨v, h1, h2⟩ := hv.at hj
  have hlt := (List.getElem?_eq_some_iff.1 h1).1
  refine ⟨v, ?_, h2⟩
  simp only [Nat.zero_add]
  rw [Array.getElem?_append_left (by simpa using hlt)]
  simpa using h1

/-! ### the state: slots, and what is owned -/
/-- where one comes from: what may be written, what was stable, the world -/
structure Base where
  W : List Nat
  S : Nat → Prop
  w : World
structure Sep (Γ : List (Nat × D)) (B : Base) (S : Nat → Prop) (w : World) (R : List Res) : Prop where
  up : Up B.W B.S B.w S w
  glob : Globs Γ S w
  ok : ∀ r ∈ R, r.ok S w
  nodup : (fps R).Nodup
  own : ∀ b ∈ fps R, ¬ S b ∧ (b ∈ B.W ∨ B.w.heap.size ≤ b)
section
variable {Γ : List (Nat × D)} {B : Base} {S S' : Nat → Prop} {w w' : World} {R R' : List Res}
theorem Sep.live (h : Sep Γ B S w R) : ∀ b, S b → b < w.heap.size := h.up.live
theorem Sep.lt (h : Sep Γ B S w R) : ∀ b ∈ fps R, b < w.heap.size := fun b hb => by
  obtain ⟨r, hr, hb⟩ := List.mem_flatMap.1 hb
  exact (h.ok r hr).lt b hb
theorem Sep.apart (h : Sep Γ B S w R) : ∀ b ∈ fps R, ¬ S b := fun b hb => (h.own b hb).1
theorem Globs.up {W : List Nat} (h : Globs Γ S w) (u : Up W S w S' w') : Globs Γ S' w' := fun g d hg => (h g d hg).up u
end
theorem fps_cons {r : Res} {R : List Res} : fps (r :: R) = r.fp ++ fps R := by simp [fps]
theorem fps_append {R R' : List Res} : fps (R ++ R') = fps R ++ fps R' := by simp [fps]
theorem mem_fps_of {r : Res} {R : List Res} (h : r ∈ R) : ∀ b ∈ r.fp, b ∈ fps R := fun b hb => List.mem_flatMap.2 ⟨r, h, hb⟩

/-- what is owned, picked by place (the places of what is left each time), and what is left -/
def pull : List Res → List Nat → List Res × List Res
  | R, [] => ([], R)
  | R, i :: is => match R[i]? with
    | some r => (r :: (pull (R.eraseIdx i) is).1, (pull (R.eraseIdx i) is).2)
    | none => pull R is
theorem perm_eraseIdx : ∀ {R : List Res} {i : Nat} {r : Res}, R[i]? = some r → (r :: R.eraseIdx i).Perm R
  | x :: R, 0, r, h => by
    simp only [List.getElem?_cons_zero, Option.some.injEq] at h
    subst h; exact List.Perm.refl _
  | x :: R, i + 1, r, h => by
    have := perm_eraseIdx (R := R) (i := i) (r := r) (by simpa using h)
    exact (List.Perm.swap x r _).trans (this.cons x)
  | [], i, r, h => by simp at h
theorem pull_perm : ∀ (is : List Nat) (R : List Res), ((pull R is).1 ++ (pull R is).2).Perm R
  | [], R => List.Perm.refl _
  | i :: is, R => by
    unfold pull
    split
    · rename_i r hr
      exact ((pull_perm is (R.eraseIdx i)).cons r).trans (perm_eraseIdx hr)
    · exact pull_perm is R
theorem perm_set : ∀ {R : List Res} {i : Nat} {r r' : Res}, R[i]? = some r → (r' :: R.eraseIdx i).Perm (R.set i r')
  | x :: R, 0, r, r', h => List.Perm.refl _
  | x :: R, i + 1, r, r', h => by
    have := perm_set (R := R) (i := i) (r := r) (r' := r') (by simpa using h)
    exact (List.Perm.swap x r' _).trans (this.cons x)
  | [], i, r, r', h => by simp at h
theorem fps_perm {R R' : List Res} (h : R.Perm R') : (fps R).Perm (fps R') := h.flatMap_right _

section
variable {Γ : List (Nat × D)} {B : Base} {S S' : Nat → Prop} {w w' : World} {R R' Rp Rq Rr : List Res}
theorem Sep.perm (h : Sep Γ B S w R) (p : R.Perm R') : Sep Γ B S w R' :=
  ⟨h.up, h.glob, fun r hr => h.ok r (p.mem_iff.2 hr), (fps_perm p).nodup_iff.1 h.nodup, fun b hb => h.own b ((fps_perm p).mem_iff.2 hb)⟩
theorem Sep.left (h : Sep Γ B S w (R ++ R')) : Sep Γ B S w R :=
  ⟨h.up, h.glob, fun r hr => h.ok r (List.mem_append.2 (.inl hr)), (by have := h.nodup; rw [fps_append] at this; exact (List.nodup_append.1 this).1), fun b hb => h.own b (by rw [fps_append]; exact List.mem_append.2 (.inl hb))⟩
/-- what is owned here, seen from here -/
theorem Sep.rebase (h : Sep Γ B S w R) : Sep Γ ⟨fps R, S, w⟩ S w R :=
  ⟨Up.refl h.live h.apart, h.glob, h.ok, h.nodup, fun b hb => ⟨h.apart b hb, .inl hb⟩⟩
/-- a part changes, the rest stays -/
theorem Sep.frame (h : Sep Γ B S w (Rp ++ Rr)) (k : Sep Γ ⟨fps Rp, S, w⟩ S' w' Rq) : Sep Γ B S' w' (Rq ++ Rr) := by
  have hn := h.nodup
  rw [fps_append] at hn
  obtain ⟨n1, n2, n3⟩ := List.nodup_append.1 hn
  have u : Up (fps Rp) S w S' w' := k.up
  have hr : ∀ b ∈ fps Rr, b ∉ fps Rp ∧ b < w.heap.size ∧ ¬ S b := fun b hb => ⟨fun h2 => n3 b h2 b hb rfl, h.lt b (by rw [fps_append]; simp [hb]), h.apart b (by rw [fps_append]; simp [hb])⟩
  refine ⟨h.up.trans u (fun b hb => (h.own b (by rw [fps_append]; simp [hb])).2), k.glob, fun r hr0 => ?_, ?_, fun b hb => ?_⟩
  · rcases List.mem_append.1 hr0 with h1 | h1
    · exact k.ok r h1
    · exact (h.ok r (by simp [h1])).up u (fun b hb => (hr b (mem_fps_of h1 b hb)).1)
  · rw [fps_append]
    refine List.nodup_append.2 ⟨k.nodup, n2, fun a ha b hb e => ?_⟩
    subst e
    obtain ⟨h1, h2, h3⟩ := hr a hb
    rcases (k.own a ha).2 with h4 | h4
    · exact h1 h4
    · have : w.heap.size ≤ a := h4
      omega
  · rw [fps_append] at hb
    rcases List.mem_append.1 hb with h1 | h1
    · refine ⟨k.apart b h1, ?_⟩
      rcases (k.own b h1).2 with h4 | h4
      · exact (h.own b (by rw [fps_append]; simp [show b ∈ fps Rp from h4])).2
      · have h5 : w.heap.size ≤ b := h4
        have := h.up.le.size
        exact .inr (by omega)
    · obtain ⟨h2, h3, h4⟩ := hr b h1
      exact ⟨fun hs => h4 (u.old b h3 h2 hs), (h.own b (by rw [fps_append]; simp [h1])).2⟩
/-- one thing changes -/
theorem Sep.set (h : Sep Γ B S w R) {i : Nat} {r r' : Res} (hi : R[i]? = some r) (hl : Le r.fp w w') (hok : r'.ok S w') (hn : r'.fp.Nodup) (hf : ∀ b ∈ r'.fp, b ∈ r.fp ∨ w.heap.size ≤ b) : Sep Γ B S w' (R.set i r') := by
  have hm : r ∈ R := List.mem_of_getElem? hi
  have ha : ∀ b ∈ r.fp, ¬ S b := fun b hb => h.apart b (mem_fps_of hm b hb)
  have u : Up r.fp S w S w' := Up.of_le h.live ha hl
  have h1 : Sep Γ B S w ([r] ++ R.eraseIdx i) := h.perm (perm_eraseIdx hi).symm
  have k : Sep Γ ⟨fps [r], S, w⟩ S w' [r'] := by
    have e : ∀ r : Res, fps [r] = r.fp := fun r => by simp [fps]
    refine ⟨by rw [e]; exact u, h.glob.up u, by simpa using hok, by rw [e]; exact hn, fun b hb => ?_⟩
    rw [e] at hb
    simp only [e]
    rcases hf b hb with h2 | h2
    · exact ⟨ha b h2, .inl h2⟩
    · exact ⟨fun hs => by have := h.live b hs; omega, .inr h2⟩
  exact (h1.frame k).perm (perm_set hi)
/-- one thing more -/
theorem Sep.add (h : Sep Γ B S w R) {r' : Res} (hl : Le [] w w') (hok : r'.ok S w') (hn : r'.fp.Nodup) (hf : ∀ b ∈ r'.fp, w.heap.size ≤ b) : Sep Γ B S w' (r' :: R) := by
  have u : Up [] S w S w' := Up.of_le h.live (by simp) hl
  have h1 : Sep Γ B S w ([] ++ R) := h
  have k : Sep Γ ⟨fps [], S, w⟩ S w' [r'] := by
    refine ⟨u, h.glob.up u, by simpa using hok, by simpa [fps] using hn, fun b hb => ?_⟩
    have hb' : b ∈ r'.fp := by simpa [fps] using hb
    exact ⟨fun hs => by have := h.live b hs; have := hf b hb'; omega, .inr (hf b hb')⟩
  exact h1.frame k
/-- what is no more written becomes stable -/
theorem Sep.freeze (h : Sep Γ B S w R) {i : Nat} {r : Res} (hi : R[i]? = some r) : Sep Γ B (fun b => S b ∨ b ∈ r.fp) w (R.eraseIdx i) := by
  have h1 : Sep Γ B S w ([r] ++ R.eraseIdx i) := h.perm (perm_eraseIdx hi).symm
  have e : fps [r] = r.fp := by simp [fps]
  have k : Sep Γ ⟨fps [r], S, w⟩ (fun b => S b ∨ b ∈ r.fp) w [] := by
    have u : Up (fps [r]) S w (fun b => S b ∨ b ∈ r.fp) w := by
      rw [e]
      refine ⟨Le.refl _ _, fun b hb => h1.apart b (by rw [fps_append, e]; simp [hb]), fun b hb => .inl hb, fun b _ hn hs => hs.elim id (fun h2 => absurd h2 hn), fun b hs => ?_⟩
      rcases hs with hs | hs
      · exact h.live b hs
      · exact h1.lt b (by rw [fps_append, e]; simp [hs])
    exact ⟨u, h.glob.up u, by simp, by simp [fps], by simp [fps]⟩
  exact h1.frame k
end
end Go.Proofs.Ythbgngdoihkodac.Hx
