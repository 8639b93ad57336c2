/- roadstead: ScopeSays. This text: HxI. Conditions: none beyond those that the statement itself names. -/
import Derived.Test.YthbgngdoihkodacHxH
namespace Go.Proofs.Ythbgngdoihkodac.Hx
open Go.RowKit Go.MapKept
/-! ### maps, as lists of pairs -/
section
variable {κ ν : Type} [DecidableEq κ]
def mget : List (κ × ν) → κ → Option ν
  | [], _ => none
  | (a, x) :: m, k => if a = k then some x else mget m k
def mput : List (κ × ν) → κ → ν → List (κ × ν)
  | [], k, x => [(k, x)]
  | (a, y) :: m, k, x => if a = k then (k, x) :: m else (a, y) :: mput m k x
def mdel : List (κ × ν) → κ → List (κ × ν)
  | [], _ => []
  | (a, y) :: m, k => if a = k then m else (a, y) :: mdel m k
end
/-- keys: of a kind that '==' tells apart -/
structure Keys (P : Program) (kt : TypeId) {κ : Type} (kv : κ → Value) : Prop where
  kind : ∃ d, P.underlying kt = some d ∧ ∀ k, IsKey d (kv k)
  inj : ∀ a b, kv a = kv b → a = b
  same : ∀ k, Instr.sameBits 10000 (kv k) (kv k) = true
theorem Keys.str {P : Program} {kt : TypeId} (h : P.underlying kt = some .string) : Keys P kt bs := ⟨⟨_, h, fun k => by simp [IsKey, bs]⟩, fun a b h => by simpa [bs] using h, fun k => by simp [Instr.sameBits, bs, bytes_beq]⟩
theorem Keys.int {P : Program} {kt : TypeId} {k : IntKind} (h : P.underlying kt = some (.int k)) : Keys P kt (Value.int k) := ⟨⟨_, h, fun x => by simp [IsKey]⟩, fun a b h => by simpa using h, fun x => by simp [Instr.sameBits]⟩
def encM {κ ν : Type} (kv : κ → Value) (enc : ν → D) (m : List (κ × ν)) : List (Value × D) := m.map fun p => (kv p.1, enc p.2)
section
variable {κ ν : Type} [DecidableEq κ] {kv : κ → Value} {enc : ν → D} {S : Nat → Prop} {w : World}
theorem ents_keys {κ ν : Type} {kv : κ → Value} {enc : ν → D} {S : Nat → Prop} {w : World} : ∀ {m : List (κ × ν)} {es : List MapEntry}, Ents S w (encM kv enc m) es → ∀ x ∈ es, ∃ k, x.key = kv k
  | [], es, h, x, hx => by simp only [encM, List.map_nil, Ents] at h; subst h; cases hx
  | (a, y) :: m, es, h, x, hx => by
    simp only [encM, List.map_cons, Ents] at h
    obtain ⟨e, es', rfl, h1, h2, h3⟩ := h
    rcases List.mem_cons.1 hx with rfl | hx
    · exact ⟨a, h1⟩
    · exact ents_keys h3 x hx
/-- looking up -/
theorem ents_find {d : TypeDesc} (hk : ∀ k, IsKey d (kv k)) (inj : ∀ a b, kv a = kv b → a = b) (k : κ) : ∀ {m : List (κ × ν)} {es : List MapEntry} (i : Nat), Ents S w (encM kv enc m) es →
    (mget m k = none ∧ Instr.findNow d (kv k) es i = some none ∧ ∀ y e, e.key = kv k → RdV S w (enc y) e.val → Ents S w (encM kv enc (mput m k y)) (es ++ [e])) ∨
    ∃ x j e, mget m k = some x ∧ Instr.findNow d (kv k) es i = some (some (i + j, e.val)) ∧ es[j]? = some e ∧ e.key = kv k ∧ RdV S w (enc x) e.val ∧
      (∀ y v', RdV S w (enc y) v' → Ents S w (encM kv enc (mput m k y)) (es.modify j fun e => { e with key := kv k, val := v' })) ∧ Ents S w (encM kv enc (mdel m k)) (es.eraseIdx j)
  | [], es, i, h => by
    simp only [encM, List.map_nil, Ents] at h
    subst h
    exact .inl ⟨rfl, rfl, fun y e h1 h2 => by simp only [mput, encM, List.map_cons, List.map_nil, Ents, List.nil_append]; exact ⟨e, [], rfl, h1, h2, rfl⟩⟩
  | (a, x) :: m, es, i, h => by
    simp only [encM, List.map_cons, Ents] at h
    obtain ⟨e, es', rfl, h1, h2, h3⟩ := h
    obtain ⟨r, hr, hiff⟩ := sameNow_of_keys (hk k) (hk a)
    rw [← h1] at hr
    by_cases e0 : a = k
    · subst e0
      have hrt : r = true := hiff.2 rfl
      subst hrt
      right
      refine ⟨x, 0, e, by simp [mget], by simp [Instr.findNow, hr], rfl, h1, h2, fun y v' hv => ?_, by simpa [mdel, encM] using h3⟩
      simp only [mput, if_pos, encM, List.map_cons, Ents, List.modify_zero_cons]
      exact ⟨_, _, rfl, rfl, hv, h3⟩
    · have hrf : r = false := by
        cases r with
        | false => rfl
        | true => exact absurd (inj _ _ (hiff.1 rfl)).symm e0
      subst hrf
      rcases ents_find hk inj k (i + 1) h3 with ⟨k1, k2, k3⟩ | ⟨x', j, e', k1, k2, k3, k4, k5, k6, k7⟩
      · left
        refine ⟨by simp [mget, e0, k1], by simp [Instr.findNow, hr, k2], fun y e2 he hv => ?_⟩
        simp only [mput, if_neg e0, encM, List.map_cons, Ents, List.cons_append]
        exact ⟨e, _, rfl, h1, h2, k3 y e2 he hv⟩
      · right
        refine ⟨x', j + 1, e', by simp [mget, e0, k1], by simp [Instr.findNow, hr, k2]; omega, by simpa using k3, k4, k5, fun y v' hv => ?_, ?_⟩
        · simp only [mput, if_neg e0, encM, List.map_cons, Ents, List.modify_succ_cons]
          exact ⟨e, _, rfl, h1, h2, k6 y v' hv⟩
        · simp only [mdel, if_neg e0, encM, List.map_cons, Ents, List.eraseIdx_cons_succ]
          exact ⟨e, _, rfl, h1, h2, k7⟩
end
theorem Le.setMap {w : World} {g : Nat} {o' : Obj} : Le [g] w { w with heap := w.heap.setIfInBounds g o' } :=
  ⟨rfl, rfl, rfl, by simp, fun k hk hn => by
    have : k ≠ g := by simpa using hn
    simp [Ne.symm this]⟩
section
variable {Γ L : List (Nat × D)} {P : Program} {n : Nat} {R : List Res} {dd : Option Nat} {ty : TypeId} {pos : String} {aft : Array Edge} {g : Option (Nat × Bool)} {Q : Exit → Act → World → Prop} {κ ν : Type} [DecidableEq κ] {kv : κ → Value} {enc : ν → D}
theorem O.makeMap {κ ν : Type} {kv : κ → Value} {enc : ν → D} {t : TypeId} : Op1 Γ P n L R ⟨dd, .makeMap t none, ty, pos, aft, none⟩ Q (fun b : Nat => .val (.map (some b))) (fun b => .map b (encM kv enc []) :: R) := Op1.run fun B a S w ha hs => by
  refine ⟨w.heap.size, _, w.alloc (.map #[] 0), ?_, le_none (Le.alloc _ _), RdV.val.2 rfl, hs.add (Le.alloc _ _) ⟨#[], 0, heap_alloc_new _ _, by simp [encM, Ents], by simp, by simp⟩ (by simp [Res.fp]) (by simp [Res.fp])⟩
  simp only [execOp]
  exact run_value_of (by simpa using run_makeMap_plain (P := P) w t)
theorem run_lookup {t kt et : TypeId} {zv : Value} {m : List (κ × ν)} {b clock : Nat} {es : Array MapEntry} {S : Nat → Prop} {w : World} (K : Keys P kt kv) (hU : ∀ w, (underlying t).run P w = .ok (.map kt et) w) (hz : ∀ w, (zeroValue et).run P w = .ok zv w) (z : ν) (hzr : ∀ S w, RdV S w (enc z) zv) (k : κ)
    (hE : Ents S w (encM kv enc m) es.toList) :
    ∃ v, RdV S w (enc ((mget m k).getD z)) v ∧ ∀ w', w'.heap[b]? = some (.map es clock) → (Instr.lookup t (.map (some b)) (kv k) true).run P w' = .ok (.tuple #[v, .bool (mget m k).isSome]) w' ∧ (Instr.lookup t (.map (some b)) (kv k) false).run P w' = .ok v w' := by
  obtain ⟨d, hd, hkey⟩ := K.kind
  have hck : ∀ e w', (Instr.checkKey e 10000 kt (kv k)).run P w' = .ok () w' := fun e w' => run_checkKey hd (hkey k) e 9999
  rcases ents_find hkey K.inj k 0 hE with ⟨k1, k2, _⟩ | ⟨x', j, e', k1, k2, k3, k4, k5, _⟩
  · refine ⟨zv, by rw [k1]; exact hzr S w, fun w' hb => ?_⟩
    have hf := run_findKey (P := P) (w := w') hd k2
    constructor <;> simp [Instr.lookup, hU w', Go.MapKept.run_getObj_map hb, hck, hf, hz w', k1]
  · refine ⟨e'.val, by rw [k1]; exact k5, fun w' hb => ?_⟩
    have hf := run_findKey (P := P) (w := w') hd k2
    constructor <;> simp [Instr.lookup, hU w', Go.MapKept.run_getObj_map hb, hck, hf, k1]
theorem V.lookup {x ix : Operand} {t kt et : TypeId} {zv : Value} {m : List (κ × ν)} {k : κ} {b i : Nat} (K : Keys P kt kv) (hU : ∀ w, (underlying t).run P w = .ok (.map kt et) w) (hz : ∀ w, (zeroValue et).run P w = .ok zv w) (z : ν) (hzr : ∀ S w, RdV S w (enc z) zv)
    (hx : ev Γ L x = some (.val (.map (some b)))) (hk : ev Γ L ix = some (.val (kv k))) (hi : R[i]? = some (.map b (encM kv enc m))) : Qv Γ P n L R ⟨dd, .lookup t x ix false, ty, pos, aft, g⟩ (enc ((mget m k).getD z)) := fun S w W a ha hs => by
  have hm := List.mem_of_getElem? hi
  obtain ⟨es, clock, hb, hE, _⟩ := hs.ok _ hm
  have hbW : b ∉ W := hs.off b (mem_fps_of hm b (by simp [Res.fp]))
  obtain ⟨v, hv, hr⟩ := run_lookup (P := P) (b := b) (clock := clock) K hU hz z hzr k hE
  refine ⟨v, hv, fun w' hw => ?_⟩
  simp only [execOp, ev_val ha hs.glob hx, ev_val ha hs.glob hk]
  exact run_value_of (hr w' (hw.kept hb hbW)).2
theorem V.lookup_ok {x ix : Operand} {t kt et : TypeId} {zv : Value} {m : List (κ × ν)} {k : κ} {b i : Nat} (K : Keys P kt kv) (hU : ∀ w, (underlying t).run P w = .ok (.map kt et) w) (hz : ∀ w, (zeroValue et).run P w = .ok zv w) (z : ν) (hzr : ∀ S w, RdV S w (enc z) zv)
    (hx : ev Γ L x = some (.val (.map (some b)))) (hk : ev Γ L ix = some (.val (kv k))) (hi : R[i]? = some (.map b (encM kv enc m))) : Qv Γ P n L R ⟨dd, .lookup t x ix true, ty, pos, aft, g⟩ (.tup [enc ((mget m k).getD z), eB (mget m k).isSome]) := fun S w W a ha hs => by
  have hm := List.mem_of_getElem? hi
  obtain ⟨es, clock, hb, hE, _⟩ := hs.ok _ hm
  have hbW : b ∉ W := hs.off b (mem_fps_of hm b (by simp [Res.fp]))
  obtain ⟨v, hv, hr⟩ := run_lookup (P := P) (b := b) (clock := clock) K hU hz z hzr k hE
  refine ⟨.tuple #[v, .bool (mget m k).isSome], by simp only [RdV, RdVs]; exact ⟨[v, .bool (mget m k).isSome], rfl, v, _, rfl, hv, _, _, rfl, RdV.val.2 rfl, rfl⟩, fun w' hw => ?_⟩
  simp only [execOp, ev_val ha hs.glob hx, ev_val ha hs.glob hk]
  exact run_value_of (hr w' (hw.kept hb hbW)).1
theorem V.lookup_nil {κ ν : Type} {kv : κ → Value} {enc : ν → D} {x ix : Operand} {t kt et : TypeId} {zv : Value} {k : κ} (K : Keys P kt kv) (hU : ∀ w, (underlying t).run P w = .ok (.map kt et) w) (hz : ∀ w, (zeroValue et).run P w = .ok zv w) (z : ν) (hzr : ∀ S w, RdV S w (enc z) zv)
    (hx : ev Γ L x = some (.val (.map none))) (hk : ev Γ L ix = some (.val (kv k))) : Qp Γ P n L ⟨dd, .lookup t x ix false, ty, pos, aft, g⟩ (enc z) := fun S w a ha hg => by
  obtain ⟨d, hd, hkey⟩ := K.kind
  refine ⟨zv, hzr S w, fun w' => ?_⟩
  simp only [execOp, ev_val ha hg hx, ev_val ha hg hk]
  have hck : ∀ e, (Instr.checkKey e 10000 kt (kv k)).run P w' = .ok () w' := fun e => run_checkKey hd (hkey k) e 9999
  have hf : (Instr.findKey kt (kv k) []).run P w' = .ok none w' := run_findKey hd rfl
  exact run_value_of (by simp [Instr.lookup, hU w', hck, hf, hz w'])
theorem V.len_map {κ ν : Type} {kv : κ → Value} {enc : ν → D} {m : List (κ × ν)} {x : Operand} {t kt et : TypeId} {b i : Nat} (hU : ∀ w, (underlying t).run P w = .ok (.map kt et) w) (hx : ev Γ L x = some (.val (.map (some b)))) (hi : R[i]? = some (.map b (encM kv enc m))) :
    Qv Γ P n L R ⟨dd, .call { callee := .builtin .len, args := #[x], argTypes := #[t] }, ty, pos, aft, g⟩ (eI .i64 (m.length : Int)) := fun S w W a ha hs => by
  have hm := List.mem_of_getElem? hi
  obtain ⟨es, clock, hb, hE, _⟩ := hs.ok _ hm
  have hbW : b ∉ W := hs.off b (mem_fps_of hm b (by simp [Res.fp]))
  have hlen : ∀ {m : List (κ × ν)} {es : List MapEntry}, Ents S w (encM kv enc m) es → es.length = m.length := by
    intro m
    induction m with
    | nil => intro es h; simp only [encM, List.map_nil, Ents] at h; subst h; rfl
    | cons p m ih =>
      intro es h
      simp only [encM, List.map_cons, Ents] at h
      obtain ⟨e, es', rfl, h1, h2, h3⟩ := h
      simp [ih h3]
  have hl := hlen hE
  have h1 := ev_val ha hs.glob hx
  have hsz : es.size = m.length := by simpa using hl
  exact ⟨_, RdV.val.2 rfl, fun w' hw => by simp [execOp, resolve, invoke, h1, Go.builtin, Builtin.len_, hU w', goInt, Go.MapKept.run_getObj_map (hw.kept hb hbW), hsz]⟩
theorem O.mapUpdate {x ix y : Operand} {t kt et : TypeId} {m : List (κ × ν)} {k : κ} {b i : Nat} {u : ν} (K : Keys P kt kv) (hU : ∀ w, (underlying t).run P w = .ok (.map kt et) w)
    (hx : ev Γ L x = some (.val (.map (some b)))) (hk : ev Γ L ix = some (.val (kv k))) (hy : Ev Γ L y (enc u)) (hi : R[i]? = some (.map b (encM kv enc m))) : Op1 Γ P n L R ⟨none, .mapUpdate t x ix y, ty, pos, aft, none⟩ Q (fun _ : Unit => .val undef) (fun _ => R.set i (.map b (encM kv enc (mput m k u)))) :=
  Op1.skip rfl fun B a S w ha hs => by
    have hm := List.mem_of_getElem? hi
    obtain ⟨es, clock, hb, hE, hst, hcl⟩ := hs.ok _ hm
    obtain ⟨d, hd, hkey⟩ := K.kind
    have hck : ∀ e, (Instr.checkKey e 10000 kt (kv k)).run P w = .ok () w := fun e => run_checkKey hd (hkey k) e 9999
    have hv := hy.eval ha hs.glob
    have hmon : ∀ o', ∀ b' o, S b' → w.heap[b']? = some o → S b' ∧ ({ w with heap := w.heap.setIfInBounds b o' } : World).heap[b']? = some o := fun o' b' o h1 h2 => ⟨h1, by
      have hne : b' ≠ b := fun e => by subst e; exact hs.apart b' (mem_fps_of hm b' (by simp [Res.fp])) h1
      simpa [Ne.symm hne] using h2⟩
    have hblt : b < w.heap.size := lt_of_block hb
    rcases ents_find hkey K.inj k 0 hE with ⟨k1, k2, k3⟩ | ⟨x', j, e', k1, k2, k3, k4, k5, k6, _⟩
    · have hf := run_findKey (P := P) (w := w) hd k2
      let o' : Obj := .map (es.push { key := kv k, val := a.eval y, born := clock }) (clock + 1)
      refine ⟨(), { w with heap := w.heap.setIfInBounds b o' }, ?_, le_sub hi Le.setMap, hs.set hi Le.setMap ⟨es.push { key := kv k, val := a.eval y, born := clock }, clock + 1, by simp [hblt, o'], ?_, ?_, ?_⟩ (by simp [Res.fp]) (by simp [Res.fp])⟩
      · simp only [execOp, ev_val ha hs.glob hx, ev_val ha hs.glob hk]
        simp [Instr.mapUpdate, hU w, Go.MapKept.run_getObj_map hb, hck, hf, Go.MapKept.run_setObj_map _ hb, o']
      · rw [Array.toList_push]; exact (k3 u { key := kv k, val := a.eval y, born := clock } rfl hv).mono (hmon o')
      · rw [Array.toList_push, List.map_append, List.map_cons, List.map_nil]
        refine List.nodup_append.2 ⟨hst, by simp, fun p hp q hq => ?_⟩
        obtain ⟨e, he, rfl⟩ := List.mem_map.1 hp
        have := hcl e he
        have hq' : q = clock := by simpa using hq
        subst hq'
        exact Nat.ne_of_lt this
      · intro e he
        rw [Array.toList_push] at he
        rcases List.mem_append.1 he with h1 | h1
        · have := hcl e h1; omega
        · have h2 : e = { key := kv k, val := a.eval y, born := clock } := by simpa using h1
          subst h2; show clock < clock + 1; omega
    · have hf := run_findKey (P := P) (w := w) hd k2
      have hj : j < es.size := by have := (List.getElem?_eq_some_iff.1 k3).1; simpa using this
      have hej : es[j]? = some e' := by rw [← Array.getElem?_toList]; exact k3
      let o' : Obj := .map (es.modify j fun e => { e with key := kv k, val := a.eval y }) clock
      have hmap : ((es.modify j fun e => { e with key := kv k, val := a.eval y }).toList.map (·.born)) = es.toList.map (·.born) := by
        rw [Array.toList_modify]
        apply List.ext_getElem?
        intro q
        simp only [List.getElem?_map, List.getElem?_modify]
        by_cases hq : j = q
        · subst hq; cases es.toList[j]? <;> simp
        · simp [hq]
      refine ⟨(), { w with heap := w.heap.setIfInBounds b o' }, ?_, le_sub hi Le.setMap, hs.set hi Le.setMap ⟨es.modify j fun e => { e with key := kv k, val := a.eval y }, clock, by simp [hblt, o'], ?_, ?_, ?_⟩ (by simp [Res.fp]) (by simp [Res.fp])⟩
      · simp only [execOp, ev_val ha hs.glob hx, ev_val ha hs.glob hk]
        simp [Instr.mapUpdate, hU w, Go.MapKept.run_getObj_map hb, hck, hf, Go.MapKept.run_setObj_map _ hb, o', Instr.keyThatStays, hej, k4, K.same]
      · rw [Array.toList_modify]; exact (k6 u _ hv).mono (hmon o')
      · rw [hmap]; exact hst
      · intro e he
        have : e.born ∈ (es.modify j fun e => { e with key := kv k, val := a.eval y }).toList.map (·.born) := List.mem_map.2 ⟨e, he, rfl⟩
        rw [hmap] at this
        obtain ⟨e2, h1, h2⟩ := List.mem_map.1 this
        rw [← h2]; exact hcl e2 h1
theorem O.delete {x ix : Operand} {t t2 kt et : TypeId} {m : List (κ × ν)} {k : κ} {b i : Nat} (K : Keys P kt kv) (hU : ∀ w, (underlying t).run P w = .ok (.map kt et) w)
    (hx : ev Γ L x = some (.val (.map (some b)))) (hk : ev Γ L ix = some (.val (kv k))) (hi : R[i]? = some (.map b (encM kv enc m))) : Op1 Γ P n L R ⟨dd, .call { callee := .builtin .delete, args := #[x, ix], argTypes := #[t, t2] }, ty, pos, aft, none⟩ Q (fun _ : Unit => .tup []) (fun _ => R.set i (.map b (encM kv enc (mdel m k)))) :=
  Op1.run fun B a S w ha hs => by
    have hm := List.mem_of_getElem? hi
    obtain ⟨es, clock, hb, hE, hst, hcl⟩ := hs.ok _ hm
    obtain ⟨d, hd, hkey⟩ := K.kind
    have hck : ∀ e, (Instr.checkKey e 10000 kt (kv k)).run P w = .ok () w := fun e => run_checkKey hd (hkey k) e 9999
    have hmon : ∀ o', ∀ b' o, S b' → w.heap[b']? = some o → S b' ∧ ({ w with heap := w.heap.setIfInBounds b o' } : World).heap[b']? = some o := fun o' b' o h1 h2 => ⟨h1, by
      have hne : b' ≠ b := fun e => by subst e; exact hs.apart b' (mem_fps_of hm b' (by simp [Res.fp])) h1
      simpa [Ne.symm hne] using h2⟩
    have hblt : b < w.heap.size := lt_of_block hb
    have htup : RdV S w (.tup []) (.tuple #[]) := by simp only [RdV, RdVs]; exact ⟨[], rfl, rfl⟩
    have hdel0 : ∀ {m : List (κ × ν)}, mget m k = none → mdel m k = m := by
      intro m
      induction m with
      | nil => intro _; rfl
      | cons p m ih =>
        intro h
        simp only [mget] at h
        split at h
        · cases h
        · rename_i hne; simp [mdel, hne, ih h]
    rcases ents_find hkey K.inj k 0 hE with ⟨k1, k2, k3⟩ | ⟨x', j, e', k1, k2, k3, k4, k5, _, k7⟩
    · have hf := run_findKey (P := P) (w := w) hd k2
      let o' : Obj := .map es clock
      refine ⟨(), _, { w with heap := w.heap.setIfInBounds b o' }, run_builtin (ev_val ha hs.glob hx) (ev_val ha hs.glob hk) (fun cc => ?_), le_sub hi Le.setMap, htup, hs.set hi Le.setMap ⟨es, clock, by simp [hblt, o'], ?_, hst, hcl⟩ (by simp [Res.fp]) (by simp [Res.fp])⟩
      · simp [Go.builtin, Builtin.delete_, hU w, Go.MapKept.run_getObj_map hb, hck, hf, Go.MapKept.run_setObj_map _ hb, o']
      · rw [hdel0 k1]; exact hE.mono (hmon o')
    · have hf := run_findKey (P := P) (w := w) hd k2
      have hj : j < es.size := by have := (List.getElem?_eq_some_iff.1 k3).1; simpa using this
      let o' : Obj := .map (es.eraseIdxIfInBounds j) clock
      have htl : (es.eraseIdxIfInBounds j).toList = es.toList.eraseIdx j := by
        unfold Array.eraseIdxIfInBounds
        simp [hj]
      have hsub : (es.toList.eraseIdx j).Sublist es.toList := List.eraseIdx_sublist _ _
      refine ⟨(), _, { w with heap := w.heap.setIfInBounds b o' }, run_builtin (ev_val ha hs.glob hx) (ev_val ha hs.glob hk) (fun cc => ?_), le_sub hi Le.setMap, htup, hs.set hi Le.setMap ⟨es.eraseIdxIfInBounds j, clock, by simp [hblt, o'], ?_, ?_, ?_⟩ (by simp [Res.fp]) (by simp [Res.fp])⟩
      · simp [Go.builtin, Builtin.delete_, hU w, Go.MapKept.run_getObj_map hb, hck, hf, Go.MapKept.run_setObj_map _ hb, o']
      · rw [htl]; exact k7.mono (hmon o')
      · rw [htl]; exact (hsub.map _).nodup hst
      · intro e he; rw [htl] at he; exact hcl e (hsub.subset he)
end
end Go.Proofs.Ythbgngdoihkodac.Hx
