/- roadstead: ScopeSays. This text: HxG. Conditions: none beyond those that the statement itself names. -/
import Derived.Test.YthbgngdoihkodacHxF
namespace Go.Proofs.Ythbgngdoihkodac.Hx
open Go.RowKit
section
variable {Γ L : List (Nat × D)} {P : Program} {n : Nat} {R : List Res} {dd : Option Nat} {ty : TypeId} {pos : String} {aft : Array Edge} {g : Option (Nat × Bool)} {β : Type} {Q : Exit → Act → World → Prop}
theorem le_sub {R : List Res} {i : Nat} {r : Res} {w w' : World} (hi : R[i]? = some r) (h : Le r.fp w w') : Le (fps R) w w' := h.mono fun m hm => .inl (mem_fps_of (List.mem_of_getElem? hi) m hm)
theorem le_none {W : List Nat} {w w' : World} (h : Le [] w w') : Le W w w' := h.mono fun m hm => by cases hm

/-! ### builds -/
inductive Evp (Γ L : List (Nat × D)) : List (Nat × Operand) → List (Nat × D) → Prop
  | nil : Evp Γ L [] []
  | cons {i : Nat} {x : Operand} {d : D} {xs : List (Nat × Operand)} {ds : List (Nat × D)} (h : Ev Γ L x d) (t : Evp Γ L xs ds) : Evp Γ L ((i, x) :: xs) ((i, d) :: ds)
/-- places of a struct's cells, and what goes there -/
def putAt (ds : List D) (o : Nat) (cs : List D) : List D := ds.take o ++ cs ++ ds.drop (o + cs.length)
def RdPs (S : Nat → Prop) (w : World) : List (Nat × D) → List (Nat × Value) → Prop
  | [], vs => vs = []
  | (i, d) :: ds, vs => ∃ v vs', vs = (i, v) :: vs' ∧ RdV S w d v ∧ RdPs S w ds vs'
theorem Evp.eval {S : Nat → Prop} {w : World} {a : Act} (ha : Fr n S w L a) (hg : Globs Γ S w) : ∀ {xs : List (Nat × Operand)} {ds : List (Nat × D)}, Evp Γ L xs ds → RdPs S w ds (xs.map fun p => (p.1, a.eval p.2))
  | _, _, .nil => by simp [RdPs]
  | _, _, .cons h t => by
    simp only [List.map_cons, RdPs]
    exact ⟨_, _, rfl, h.eval ha hg, Evp.eval ha hg t⟩
theorem RdCs.put {S : Nat → Prop} {w : World} {ds cs : List D} {vs us : List Value} {o : Nat} (h : RdCs S w ds vs) (k : RdCs S w cs us) : RdCs S w (putAt ds o cs) (vs.take o ++ us ++ vs.drop (o + us.length)) := by
  unfold putAt
  rw [k.length]
  exact RdCs.append.2 ⟨_, _, rfl, RdCs.append.2 ⟨_, _, rfl, h.take o, k⟩, h.drop _⟩
/-- where the parts go: place of the part ↦ offset, size -/
def putParts (at_ : Nat → Option (Nat × Nat)) (R : List Res) : List D → List (Nat × D) → Option (List D)
  | ds, [] => some ds
  | ds, (i, d) :: ps => match at_ i with
    | some (o, s) => match Nat.beq d.cells.length s, Nat.ble (o + s) ds.length with
      | true, true => putParts at_ R (putAt ds o d.cells) ps
      | _, _ => none
    | none => none
theorem set_fold1 (c vs : List Value) (o : Nat) (h : o + c.length ≤ vs.length) :
    c.toArray.zipIdx.foldl (fun cs (x : Value × Nat) => cs.setIfInBounds (o + x.2) x.1) vs.toArray = (vs.take o ++ c ++ vs.drop (o + c.length)).toArray := by
  have h1 := set_fold c (vs.take o) ((vs.drop o).take c.length) (vs.drop (o + c.length)) (by simp; omega) o (by simp; omega)
  have h2 : vs.take o ++ (vs.drop o).take c.length ++ vs.drop (o + c.length) = vs := by
    rw [List.append_assoc, ← List.drop_drop, List.take_append_drop, List.take_append_drop]
  rw [h2] at h1
  rw [← h1, ← Array.foldl_toList]
  congr 1
  simp
theorem fill_parts {S : Nat → Prop} {w : World} {at_ : Nat → Option (Nat × Nat)} (hok : ∀ r ∈ R, r.ok S w) : ∀ {ps : List (Nat × D)} {vs : List (Nat × Value)} {ds out : List D} {cs : List Value},
    (∀ p ∈ ps, OneC R p.2) → RdPs S w ps vs → RdCs S w ds cs → putParts at_ R ds ps = some out → ∃ cs', Instr.fill at_ cs.toArray vs = some cs'.toArray ∧ RdCs S w out cs'
  | [], vs, ds, out, cs, h1, h2, h3, h4 => by
    simp only [RdPs] at h2
    simp only [putParts, Option.some.injEq] at h4
    subst h2 h4
    exact ⟨cs, by simp [Instr.fill], h3⟩
  | (i, d) :: ps, vs, ds, out, cs, h1, h2, h3, h4 => by
    simp only [RdPs] at h2
    obtain ⟨v, vs', rfl, hv, h2⟩ := h2
    unfold putParts at h4
    split at h4
    · rename_i o s hat
      split at h4
      · rename_i hb hle
        obtain ⟨us, e1, e2, e3⟩ := hv.cells (h1 _ (List.mem_cons_self ..)) hok
        have hs : us.length = s := by rw [e2.length]; exact Nat.eq_of_beq_eq_true hb
        have hle' : o + us.length ≤ cs.length := by rw [hs, h3.length]; exact Nat.le_of_ble_eq_true hle
        obtain ⟨cs', h5, h6⟩ := fill_parts hok (fun p hp => h1 p (List.mem_cons_of_mem _ hp)) h2 (h3.put (o := o) e2) h4
        refine ⟨cs', ?_, h6⟩
        unfold Instr.fill
        rw [hat]
        simp only
        rw [if_neg (by rw [e1]; simp [hs]; omega), e1, set_fold1 _ _ _ hle']
        exact h5
      · cases h4
    · cases h4
/-- what building a value needs to know of its type -/
structure Blt (P : Program) (t : TypeId) (z : List Value) (at_ : Nat → Option (Nat × Nat)) : Prop where
  run : ∀ w pv cells, Instr.fill at_ z.toArray pv.toList = some cells → (Instr.build t pv).run P w = .ok (.agg cells) w
theorem Blt.struct {t : TypeId} {z : List Value} {fs : Array Field} {places : List (Nat × Nat)} (hz : (P.info? t).bind (·.zero) = some (.agg z.toArray)) (hu : P.underlying t = some (.struct fs))
    (hp : fs.toList.mapM (fun f => (P.info? f.type).map fun i => (f.offset, i.size)) = some places) : Blt P t z (fun i => places[i]?) := ⟨fun w pv cells h => by
  refine run_build w t pv cells ?_
  cases hi : P.info? t with
  | none => rw [hi] at hz; cases hz
  | some it =>
    rw [hi] at hz
    have hz' : it.zero = some (.agg z.toArray) := hz
    unfold Program.built
    simp only [hi, hu, hz', hp]
    simpa [Value.cells] using h⟩
theorem Blt.array {t e : TypeId} {m sz : Nat} {z : List Value} (hz : (P.info? t).bind (·.zero) = some (.agg z.toArray)) (hu : P.underlying t = some (.array m e))
    (hp : (P.info? e).map (·.size) = some sz) : Blt P t z (fun i => some (i * sz, sz)) := ⟨fun w pv cells h => by
  refine run_build w t pv cells ?_
  cases hi : P.info? t with
  | none => rw [hi] at hz; cases hz
  | some it =>
    rw [hi] at hz
    have hz' : it.zero = some (.agg z.toArray) := hz
    cases hie : P.info? e with
    | none => rw [hie] at hp; cases hp
    | some ie =>
      rw [hie] at hp
      have hp' : ie.size = sz := by simpa using hp
      unfold Program.built
      simp only [hi, hu, hz', hie]
      simpa [Value.cells, hp'] using h⟩
theorem V.build {t : TypeId} {parts : Array (Nat × Operand)} {z : List Value} {at_ : Nat → Option (Nat × Nat)} {pd : List (Nat × D)} {out : List D} (hb : Blt P t z at_) (hp : Evp Γ L parts.toList pd) (h1 : ∀ p ∈ pd, OneC R p.2) (hput : putParts at_ R (z.map .val) pd = some out) :
    Qv Γ P n L R ⟨dd, .build t parts, ty, pos, aft, g⟩ (.agg out) := fun S w W a ha hs => by
  obtain ⟨cs, h2, h3⟩ := fill_parts hs.ok h1 (hp.eval ha hs.glob) (RdCs.vals z) hput
  refine ⟨.agg cs.toArray, ⟨cs, rfl, h3⟩, fun w' _ => ?_⟩
  have : (parts.map fun (p : Nat × Operand) => (p.1, a.eval p.2)) = (parts.toList.map fun p => (p.1, a.eval p.2)).toArray := by
    apply Array.ext'; rw [Array.toList_map]
  simp only [execOp]
  exact run_value_of (by rw [this]; exact hb.run w' _ _ (by simpa using h2))

/-! ### new memory -/
theorem O.box {x : Operand} {t : TypeId} {d : D} (hx : Ev Γ L x d) (h1 : OneC R d) : Op1 Γ P n L R ⟨dd, .box t x, ty, pos, aft, none⟩ Q (fun g : Nat => .val (.pointer (some ⟨g, 0, none⟩))) (fun g => .cells g t d.cells :: R) :=
  Op1.run fun B a S w ha hs => by
    obtain ⟨cs, e1, e2, _⟩ := (hx.eval ha hs.glob).cells h1 hs.ok
    refine ⟨w.heap.size, _, w.alloc (.cells cs.toArray t), ?_, le_none (Le.alloc _ _), RdV.val.2 rfl, hs.add (Le.alloc _ _) ⟨cs, by rw [heap_alloc_new], e2.up (Up.of_le (W := []) hs.live (by simp) (Le.alloc _ _))⟩ (by simp [Res.fp]) (by simp [Res.fp])⟩
    simp only [execOp]
    exact run_value_of (by simp [Instr.box, run_newVar, e1])
theorem O.alloc {t : TypeId} {z : Value} {ds : List D} (hz : ∀ w, (zeroValue t).run P w = .ok z w) (hc : z.cells.toList.map .val = ds) : Op1 Γ P n L R ⟨dd, .alloc t, ty, pos, aft, none⟩ Q (fun g : Nat => .val (.pointer (some ⟨g, 0, none⟩))) (fun g => .cells g t ds :: R) :=
  Op1.run fun B a S w ha hs => by
    subst hc
    refine ⟨w.heap.size, _, w.alloc (.cells z.cells t), ?_, le_none (Le.alloc _ _), RdV.val.2 rfl, hs.add (Le.alloc _ _) ⟨z.cells.toList, by rw [heap_alloc_new], RdCs.vals _⟩ (by simp [Res.fp]) (by simp [Res.fp])⟩
    simp only [execOp]
    exact run_value_of (by simp [Instr.alloc, hz w, run_newVar])
theorem O.buildSlice {t e sz bytes m : Nat} {z : List Value} {xs : List Operand} {ds : List D} {parts : Array (Nat × Operand)} (E : Elt P t e sz bytes z) (hp : parts.toList = enum 0 xs) (hx : Evs Γ L xs ds) (hm : ds.length = m) (hsz : m * sz ≤ 16777216)
    (h1 : ∀ d ∈ ds, OneC R d) (hl : ∀ d ∈ ds, d.cells.length = sz) : Op1 Γ P n L R ⟨dd, .buildSlice t m parts, ty, pos, aft, none⟩ Q (fun v : Value => .val v) (fun v => .row v e sz ds :: R) :=
  Op1.run fun B a S w ha hs => by
    have hv := hx.eval ha hs.glob
    have hmap : (parts.map fun (p : Nat × Operand) => (p.1, a.eval p.2)) = (enum 0 (xs.map a.eval)).toArray := by
      apply Array.ext'
      rw [Array.toList_map, hp, enum_map]
    have key : ∀ {ds : List D} {vs : List Value}, RdVs S w ds vs → (∀ d ∈ ds, OneC R d) → (∀ d ∈ ds, d.cells.length = sz) → (∀ v ∈ vs, v.cells.size = sz) ∧ RdEach S w sz ds (vs.flatMap fun v => v.cells.toList) ∧ (vs.flatMap fun v => v.cells.toList).length = ds.length * sz := by
      intro ds
      induction ds with
      | nil => intro vs h _ _; simp only [RdVs] at h; subst h; simp [RdEach]
      | cons d ds ih =>
        intro vs h h1 hl
        simp only [RdVs] at h
        obtain ⟨v, vs', rfl, h2, h3⟩ := h
        obtain ⟨cs, e1, e2, _⟩ := h2.cells (h1 d (by simp)) hs.ok
        obtain ⟨k1, k2, k3⟩ := ih h3 (fun x hx => h1 x (by simp [hx])) (fun x hx => hl x (by simp [hx]))
        have hlen : cs.length = sz := by rw [e2.length]; exact hl d (by simp)
        refine ⟨fun u hu => ?_, ?_, ?_⟩
        · rcases List.mem_cons.1 hu with rfl | hu
          · rw [e1]; simpa using hlen
          · exact k1 u hu
        · simp only [List.flatMap_cons, RdEach, e1]
          exact ⟨cs, _, rfl, hlen, Rd.of_cs e2, k2⟩
        · simp only [List.flatMap_cons, List.length_append, e1, k3, List.length_cons, Nat.add_mul]; simp; omega
    obtain ⟨k1, k2, k3⟩ := key hv h1 hl
    have hlenv : (xs.map a.eval).length = m := by rw [List.length_map, hx.length, hm]
    have hlen : m ≤ maxLen := by
      have h1 : 0 < sz := E.pos
      have : m ≤ m * sz := Nat.le_mul_of_pos_right _ h1
      simp only [maxLen]; omega
    have hle : Le [] w (w.alloc (.cells ((xs.map a.eval).flatMap fun v => v.cells.toList).toArray e)) := Le.alloc _ _
    refine ⟨.slice (some ⟨w.heap.size, 0, none⟩) m m, _, w.alloc (.cells ((xs.map a.eval).flatMap fun v => v.cells.toList).toArray e), ?_, le_none hle, RdV.val.2 rfl, hs.add hle ⟨_, ⟨k3, _, m, by rw [hm], by omega, hlen, ?_⟩, k2.up (Up.of_le (W := []) hs.live (by simp) hle)⟩ (ob_nodup _) ?_⟩
    · simp only [execOp]
      refine run_value_of ?_
      rw [hmap, run_buildSlice E hlenv hsz k1]
    · rcases Nat.eq_zero_or_pos m with h | h
      · exact .inl h
      · exact .inr ⟨w.heap.size, 0, _, rfl, h, heap_alloc_new _ _, by simp only [List.size_toArray, k3, hm]; omega, by rw [← k3, List.toList_toArray, List.drop_zero, List.take_length]⟩
    · intro b hb
      simp only [Res.fp] at hb
      unfold ob at hb
      split at hb
      · rename_i h; cases h; simp at hb; omega
      · cases hb

/-! ### writes -/
theorem O.store {x y : Operand} {t T : TypeId} {b o i sz : Nat} {ds : List D} {d : D} (hx : ev Γ L x = some (.val (.pointer (some ⟨b, o, none⟩)))) (hy : Ev Γ L y d) (hi : R[i]? = some (.cells b T ds)) (h1 : OneC R d) (hS : Sz P t sz) (hl : d.cells.length = sz) (hfit : Nat.ble (o + sz) ds.length = true) :
    Op1 Γ P n L R ⟨none, .store t x y, ty, pos, aft, none⟩ Q (fun _ : Unit => .val undef) (fun _ => R.set i (.cells b T (putAt ds o d.cells))) :=
  Op1.skip rfl fun B a S w ha hs => by
    obtain ⟨cs, e1, e2, e3⟩ := (hy.eval ha hs.glob).cells h1 hs.ok
    obtain ⟨cur, hb, hc⟩ := hs.ok _ (List.mem_of_getElem? hi)
    have hlen : cs.length = sz := by rw [e2.length]; exact hl
    have hfit' : o + cs.length ≤ cur.length := by rw [hlen, hc.length]; exact Nat.le_of_ble_eq_true hfit
    have hst := run_storeCells_at P b o T cs 0 cur.toArray w hb (by simpa using hfit') e3
    simp only [Nat.add_zero, List.toList_toArray] at hst
    have hle : Le [b] w (w.setRow b (cur.take o ++ cs ++ cur.drop (o + cs.length)).toArray) := Le.setRow _ _ _
    refine ⟨(), w.setRow b (cur.take o ++ cs ++ cur.drop (o + cs.length)).toArray, ?_, le_sub hi hle, hs.set hi hle ⟨_, ?_, (hc.put e2).up (Up.of_le (W := [b]) hs.live (fun m hm => hs.apart m (mem_fps_of (List.mem_of_getElem? hi) m hm)) hle)⟩ (by simp [Res.fp]) (by simp [Res.fp])⟩
    · have hS' : Sz P t cs.length := by rw [hlen]; exact hS
      simp only [execOp, ev_val ha hs.glob hx]
      simp [Instr.storeAt, Instr.sureAddr, storeVar, e1, hS' w, hst]
    · simp only [World.setRow]
      rw [Array.getElem?_modify, if_pos rfl, hb]; rfl
theorem RdEach.set {S : Nat → Prop} {w : World} {sz : Nat} : ∀ {ds : List D} {cs us : List Value} {k : Nat} {d' : D}, RdEach S w sz ds cs → k < ds.length → us.length = sz → Rd S w d' us → RdEach S w sz (ds.set k d') (cs.take (k * sz) ++ us ++ cs.drop (k * sz + sz))
  | d :: ds, cs, us, 0, d', h, hk, hl, hr => by
    simp only [RdEach] at h
    obtain ⟨c1, c2, rfl, h1, h2, h3⟩ := h
    simp only [List.set_cons_zero, RdEach]
    refine ⟨us, c2, ?_, hl, hr, h3⟩
    rw [← h1]; simp
  | d :: ds, cs, us, k + 1, d', h, hk, hl, hr => by
    simp only [RdEach] at h
    obtain ⟨c1, c2, rfl, h1, h2, h3⟩ := h
    have := RdEach.set (k := k) h3 (by simpa using hk) hl hr
    simp only [List.set_cons_succ, RdEach]
    refine ⟨c1, _, ?_, h1, h2, this⟩
    have e1 : (k + 1) * sz = c1.length + k * sz := by rw [h1, Nat.succ_mul]; omega
    rw [e1, List.take_append, List.take_of_length_le (by omega), show c1.length + k * sz - c1.length = k * sz by omega, show c1.length + k * sz + sz = c1.length + (k * sz + sz) by omega, List.drop_append, List.drop_of_length_le (by omega), show c1.length + (k * sz + sz) - c1.length = k * sz + sz by omega]
    simp
  | [], cs, us, k, d', h, hk, hl, hr => by simp at hk
theorem O.store_row {x y : Operand} {t e : TypeId} {v : Value} {o i sz k j m : Nat} {ds : List D} {d dk d' : D} (hx : ev Γ L x = some (.rp v o)) (hy : Ev Γ L y d) (hi : R[i]? = some (.row v e sz ds)) (ho : k * sz + j = o) (hd : ds[k]? = some dk) (h1 : OneC R d) (hS : Sz P t m) (hl : d.cells.length = m) (hfit : j + m ≤ sz) (hlk : dk.cells.length = sz) (hput : putAt dk.cells j d.cells = d'.cells) :
    Op1 Γ P n L R ⟨none, .store t x y, ty, pos, aft, none⟩ Q (fun _ : Unit => .val undef) (fun _ => R.set i (.row v e sz (ds.set k d'))) :=
  Op1.skip rfl fun B a S w ha hs => by
    subst ho
    obtain ⟨us, e1, e2, e3⟩ := (hy.eval ha hs.glob).cells h1 hs.ok
    have hm := List.mem_of_getElem? hi
    have hlt := (List.getElem?_eq_some_iff.1 hd).1
    obtain ⟨cs, ⟨hcl, p, c, rfl, hnc, hcm, hrow⟩, hE⟩ := hs.ok _ hm
    rcases hrow with h | ⟨b, o, cur, rfl, hc0, hb, hoc, ht⟩
    · omega
    obtain ⟨c, rfl⟩ : ∃ c', c = c' + 1 := ⟨c - 1, by omega⟩
    have hev := rp_eval ha hs.glob hx
    have hul : us.length = m := by rw [e2.length]; exact hl
    have hkc : k * sz + sz ≤ ds.length * sz := by rw [← Nat.succ_mul]; exact Nat.mul_le_mul_right _ hlt
    have hdc : ds.length * sz ≤ (c + 1) * sz := Nat.mul_le_mul_right _ hnc
    have hfit' : o + (k * sz + j) + us.length ≤ cur.size := by omega
    have hst := run_storeCells_at P b (o + (k * sz + j)) e us 0 cur w hb (by simpa using hfit') e3
    simp only [Nat.add_zero] at hst
    -- the element's cells
    have key : ∀ {ds : List D} {cs : List Value} {k : Nat} {d : D}, RdEach S w sz ds cs → ds[k]? = some d → ∃ c1 rest, cs.drop (k * sz) = c1 ++ rest ∧ c1.length = sz ∧ Rd S w d c1 := by
      intro ds
      induction ds with
      | nil => intro cs k d _ hd; simp at hd
      | cons d0 ds ih =>
        intro cs k d h hd
        simp only [RdEach] at h
        obtain ⟨c1, c2, rfl, hl, h1, h2⟩ := h
        cases k with
        | zero =>
          simp only [List.getElem?_cons_zero, Option.some.injEq] at hd
          subst hd
          exact ⟨c1, c2, by simp, hl, h1⟩
        | succ k =>
          obtain ⟨f1, rest, he, hl', hr⟩ := ih (k := k) h2 (by simpa using hd)
          refine ⟨f1, rest, ?_, hl', hr⟩
          rw [← he, Nat.succ_mul, Nat.add_comm, ← List.drop_drop]
          congr 1
          rw [← hl]; simp
    obtain ⟨c1, rest, h5, h6, h7⟩ := key hE hd
    have hnew : Rd S w d' (c1.take j ++ us ++ c1.drop (j + us.length)) := Rd.of_cs (hput ▸ h7.cs.put e2)
    have hset := RdEach.set (k := k) hE hlt (us := c1.take j ++ us ++ c1.drop (j + us.length)) (by simp [hul]; omega) hnew
    have hle : Le [b] w (w.setRow b (cur.toList.take (o + (k * sz + j)) ++ us ++ cur.toList.drop (o + (k * sz + j) + us.length)).toArray) := Le.setRow _ _ _
    have hfp : (Res.row (.slice (some ⟨b, o, none⟩) ds.length (c + 1)) e sz ds).fp = [b] := rfl
    have hcsl : cs.length = ds.length * sz := hcl
    refine ⟨(), w.setRow b (cur.toList.take (o + (k * sz + j)) ++ us ++ cur.toList.drop (o + (k * sz + j) + us.length)).toArray, ?_, le_sub hi (hfp ▸ hle), hs.set hi (hfp ▸ hle) ⟨_, ⟨?_, some ⟨b, o, none⟩, c + 1, by simp, by simpa using hnc, hcm, .inr ⟨b, o, (cur.toList.take (o + (k * sz + j)) ++ us ++ cur.toList.drop (o + (k * sz + j) + us.length)).toArray, rfl, hc0, ?_, ?_, ?_⟩⟩, hset.up (Up.of_le (W := [b]) hs.live (fun q hq => hs.apart q (mem_fps_of hm q (by rw [hfp]; exact hq))) hle)⟩ (ob_nodup (.slice (some ⟨b, o, none⟩) ds.length (c + 1))) (fun q hq => .inl hq)⟩
    · have hS' : Sz P t us.length := by rw [hul]; exact hS
      simp only [execOp, hev]
      simp [Instr.storeAt, Instr.sureAddr, storeVar, e1, hS' w, hst]
    · simp only [List.length_append, List.length_take, List.length_drop, List.length_set]; omega
    · simp only [World.setRow]
      rw [Array.getElem?_modify, if_pos rfl, hb]; rfl
    · simp only [List.size_toArray, List.length_append, List.length_take, List.length_drop, Array.length_toList]; omega
    · -- the cells, as they lie
      have hcur : cur.toList = cur.toList.take o ++ (cs ++ (cur.toList.drop o).drop (ds.length * sz)) := by
        rw [← ht, List.take_append_drop, List.take_append_drop]
      have hcs : cs = cs.take (k * sz) ++ (c1 ++ rest) := by rw [← h5, List.take_append_drop]
      have ho : o ≤ cur.toList.length := by simp; omega
      generalize hA : cur.toList.take o = A at hcur
      generalize hZ : (cur.toList.drop o).drop (ds.length * sz) = Z at hcur
      have hAl : A.length = o := by rw [← hA]; simp; omega
      generalize hX : cs.take (k * sz) = X at hcs
      have hXl : X.length = k * sz := by rw [← hX]; simp; omega
      have hrl : X.length + (c1.length + rest.length) = ds.length * sz := by rw [← hcsl, hcs]; simp
      have hsp : c1 = c1.take j ++ ((c1.drop j).take us.length ++ c1.drop (j + us.length)) := by
        rw [← List.drop_drop, List.take_append_drop, List.take_append_drop]
      have hR : cs.drop (k * sz + sz) = rest := by
        rw [hcs, ← List.append_assoc, List.drop_append_of_le_length (by simp; omega), List.drop_of_length_le (by simp; omega)]; rfl
      simp only [List.length_set]
      rw [List.toList_toArray, hR]
      have hfull : cur.toList = (A ++ X ++ c1.take j) ++ ((c1.drop j).take us.length ++ (c1.drop (j + us.length) ++ rest ++ Z)) := by
        rw [hcur, hcs]
        conv => lhs; rw [hsp]
        simp [List.append_assoc]
      have hj1 : (A ++ X ++ c1.take j).length = o + (k * sz + j) := by simp; omega
      have hj2 : ((c1.drop j).take us.length).length = us.length := by simp; omega
      generalize (c1.drop j).take us.length = M at hfull hj2
      rw [hfull]
      rw [List.take_left' hj1]
      have hdrop : ((A ++ X ++ c1.take j) ++ (M ++ (c1.drop (j + us.length) ++ rest ++ Z))).drop (o + (k * sz + j) + us.length) = c1.drop (j + us.length) ++ rest ++ Z := by
        rw [← List.drop_drop, ← hj1, List.drop_left, ← hj2, List.drop_left]
      rw [hdrop]
      have e1 : A ++ X ++ c1.take j ++ us ++ (c1.drop (j + us.length) ++ rest ++ Z) = A ++ (X ++ (c1.take j ++ us ++ c1.drop (j + us.length)) ++ rest ++ Z) := by simp [List.append_assoc]
      rw [e1, ← hAl, List.drop_left]
      have hlen2 : (X ++ (c1.take j ++ us ++ c1.drop (j + us.length)) ++ rest).length = ds.length * sz := by simp; omega
      rw [List.take_left' hlen2]

end
end Go.Proofs.Ythbgngdoihkodac.Hx
