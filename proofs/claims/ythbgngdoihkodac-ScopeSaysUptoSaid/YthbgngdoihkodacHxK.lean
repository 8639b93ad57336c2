/- roadstead: ScopeSays. This text: HxK. Conditions: none beyond those that the statement itself names. -/
import Derived.Test.YthbgngdoihkodacHxJ
namespace Go.Proofs.Ythbgngdoihkodac.Hx
open Go.RowKit
/-! ### regions that draw their order -/
/-- B1 is a later place of B0's way; R0 is not touched from there on -/
structure Reb (Γ : List (Nat × D)) (B0 B1 : Base) (R0 : List Res) : Prop where
  up : Up B0.W B0.S B0.w B1.S B1.w
  sub : ∀ b ∈ B1.W, b ∈ B0.W ∨ B0.w.heap.size ≤ b
  still : Still Γ B1.S B1.w R0 B1.W
  nodup : (fps R0).Nodup
  own : ∀ b ∈ fps R0, ¬ B1.S b ∧ (b ∈ B0.W ∨ B0.w.heap.size ≤ b)
theorem Reb.back {Γ : List (Nat × D)} {B0 B1 : Base} {R0 R : List Res} {S : Nat → Prop} {w : World} (h : Reb Γ B0 B1 R0) (hs : Sep Γ B1 S w R) : Sep Γ B0 S w (R ++ R0) := by
  have hlt : ∀ b ∈ fps R0, b < B1.w.heap.size := fun b hb => by
    obtain ⟨r, hr, hb⟩ := List.mem_flatMap.1 hb
    exact (h.still.ok r hr).lt b hb
  refine ⟨h.up.trans hs.up h.sub, hs.glob, fun r hr => ?_, ?_, fun b hb => ?_⟩
  · rcases List.mem_append.1 hr with h1 | h1
    · exact hs.ok r h1
    · exact (h.still.ok r h1).up hs.up (fun b hb => h.still.off b (mem_fps_of h1 b hb))
  · rw [fps_append]
    refine List.nodup_append.2 ⟨hs.nodup, h.nodup, fun a ha b hb e => ?_⟩
    subst e
    have h1 := hlt a hb
    rcases (hs.own a ha).2 with h2 | h2
    · exact h.still.off a hb h2
    · omega
  · rw [fps_append] at hb
    rcases List.mem_append.1 hb with h1 | h1
    · refine ⟨hs.apart b h1, ?_⟩
      rcases (hs.own b h1).2 with h2 | h2
      · exact h.sub b h2
      · have := h.up.le.size; exact .inr (by omega)
    · obtain ⟨h2, h3⟩ := h.own b h1
      exact ⟨fun hS => h2 (hs.up.old b (hlt b h1) (h.still.off b h1) hS), h3⟩
def del (L : List (Nat × D)) (d : Nat) : List (Nat × D) :=
  match L with
  | [] => []
  | (i, x) :: L => match Nat.beq i d with
    | true => del L d
    | false => (i, x) :: del L d
theorem look_del : ∀ {L : List (Nat × D)} {d i : Nat} {x : D}, look (del L d) i = some x → i ≠ d ∧ look L i = some x
  | [], d, i, x, h => by simp [del, look] at h
  | (j, y) :: L, d, i, x, h => by
    unfold del at h
    split at h
    · rename_i hb
      have hj := Nat.eq_of_beq_eq_true hb
      obtain ⟨h1, h2⟩ := look_del h
      refine ⟨h1, ?_⟩
      simp only [look]
      have : Nat.beq i j = false := by
        cases hb2 : Nat.beq i j with
        | false => rfl
        | true => exact absurd ((Nat.eq_of_beq_eq_true hb2).trans hj) h1
      rw [this]; exact h2
    · rename_i hb
      simp only [look] at h ⊢
      split at h
      · rename_i hb2
        have := Nat.eq_of_beq_eq_true hb2
        subst this
        refine ⟨fun e => ?_, h⟩
        subst e; simp at hb
      · rename_i hb2
        obtain ⟨h1, h2⟩ := look_del h
        exact ⟨h1, h2⟩
theorem look_append {L1 L2 : List (Nat × D)} {i : Nat} {x : D} (h : look (L1 ++ L2) i = some x) : look L1 i = some x ∨ look L2 i = some x := by
  induction L1 with
  | nil => exact .inr h
  | cons p L1 ih =>
    obtain ⟨j, y⟩ := p
    simp only [List.cons_append, look] at h ⊢
    split at h
    · exact .inl h
    · exact ih h
theorem Fr.del {n d : Nat} {S : Nat → Prop} {w : World} {L : List (Nat × D)} {a : Act} {v : Value} (h : Fr n S w L a) : Fr n S w (del L d) (a.put (some d) v) := ⟨by simp [Act.put, h.size], by simp [Act.put, h.defers], fun i x hx => by
  obtain ⟨h1, h2⟩ := look_del hx
  obtain ⟨u, h3, h4⟩ := h.at_ _ _ h2
  refine ⟨u, ?_, h4⟩
  simp only [Act.put, Array.getElem?_setIfInBounds]
  rw [if_neg (by omega)]; exact h3⟩
theorem Fr.both {n : Nat} {S : Nat → Prop} {w : World} {L1 L2 : List (Nat × D)} {a : Act} (h1 : Fr n S w L1 a) (h2 : Fr n S w L2 a) : Fr n S w (L2 ++ L1) a := ⟨h1.size, h1.defers, fun i x hx => (look_append hx).elim (h2.at_ i x) (h1.at_ i x)⟩
/-- while the pure side says 'out': from slots that were told at the region's begin (L1), slots that are told now (L2), what is not touched (R0), what is owned (R), C goes -/
def GH (Γ : List (Nat × D)) (B0 B1 : Base) {α : Type} (out : α) (F : Option α) (n : Nat) (L1 L2 : List (Nat × D)) (R0 R : List Res) (C : Act → World → Prop) : Prop :=
  F = some out → Reb Γ B0 B1 R0 → ∀ a S w, Fr n B1.S B1.w L1 a → Fr n S w L2 a → Sep Γ B1 S w R → C a w
section
variable {Γ : List (Nat × D)} {B B0 B1 : Base} {α β : Type} {out : α} {F : Option α} {n : Nat} {L L1 L2 : List (Nat × D)} {R R' R0 Rt : List Res} {P : Program} {Q : Exit → Act → World → Prop} {K C : Act → World → Prop}
variable {ops : Array Oper} {ty : TypeId} {pos : String} {aft : Array Edge} {d : Nat} {o : Op} {fuel : Nat} {listed : Array Bool}
theorem Fr.now {S : Nat → Prop} {w : World} {a : Act} (hs : Sep Γ B1 S w R) (h1 : Fr n B1.S B1.w L1 a) (h2 : Fr n S w L2 a) : Fr n S w (L2 ++ L1) a := (h1.up hs.up).both h2
theorem G.draw {id : Nat} {l : List Oper} (js : List Nat) (hm : P.follows .mixedOrders = true) (k : Nat) (hk : l.toArray.size = k) (hp : pull R js = (Rt, R0))
    (h : ∀ B1, GH Γ B0 B1 out F n L [] R0 Rt (wpAnyH P .any l.toArray Q (fun w' => Le B1.W B1.w w') k (Array.replicate k false))) : G Γ B0 out F n L R ((Code.region id l.toArray true).wp P Q) := fun hF a S w ha hs => by
  subst hk
  have hpp := pull_perm js R
  rw [hp] at hpp
  have hs1 : Sep Γ B0 S w (Rt ++ R0) := hs.perm hpp.symm
  have u : Up ([] : List Nat) S w S w.drew := Up.of_le hs.live (by simp) (Le.drew w)
  have hs2 : Sep Γ B0 S w.drew (Rt ++ R0) := by
    have := (show Sep Γ B0 S w ([] ++ (Rt ++ R0)) from hs1).frame (Rq := []) (S' := S) (w' := w.drew) ⟨by simpa [fps] using u, hs.glob.up u, by simp, by simp [fps], by simp [fps]⟩
    simpa using this
  have hn := hs2.nodup
  rw [fps_append] at hn
  obtain ⟨n1, n2, n3⟩ := List.nodup_append.1 hn
  have hR : Reb Γ B0 ⟨fps Rt, S, w.drew⟩ R0 := ⟨hs2.up, fun b hb => (hs2.own b (by rw [fps_append]; simp [show b ∈ fps Rt from hb])).2, ⟨hs2.glob, hs2.live, fun b hb => hs2.apart b (by rw [fps_append]; simp [show b ∈ fps Rt from hb]), fun r hr => hs2.ok r (by simp [hr]), fun b hb hb2 => n3 b hb2 b hb rfl⟩, n2,
    fun b hb => ⟨hs2.apart b (by rw [fps_append]; simp [hb]), (hs2.own b (by rw [fps_append]; simp [hb])).2⟩⟩
  exact wp_region_held hm (h ⟨fps Rt, S, w.drew⟩ hF hR a S w.drew (ha.up u) ⟨ha.size, ha.defers, fun i d hd => by simp [look] at hd⟩ hs2.left.rebase)
theorem GH.take (i : Nat) {dv : D} (hi : ops[i]? = some ⟨some d, o, ty, pos, aft, none⟩) (hd : Nat.blt d n = true) (hs : Region.noSelect ops = true) (hf : Region.free .any ops listed i = true) (hr : (Region.ready .any ops listed).contains i = true)
    (hq : Qv Γ P n L1 R0 ⟨some d, o, ty, pos, aft, none⟩ dv) (hQ : ∀ c a w v, Q (.panic c) (a.put (some d) v) w → Q (.panic c) a w)
    (h : GH Γ B0 B1 out F n ((d, dv) :: L1) (del L2 d) R0 R (wpAnyH P .any ops Q (fun w' => Le B1.W B1.w w') fuel (listed.setIfInBounds i true))) : GH Γ B0 B1 out F n L1 L2 R0 R (wpAnyH P .any ops Q (fun w' => Le B1.W B1.w w') (fuel + 1) listed) := fun hF hB a S w h1 h2 hsep => by
  obtain ⟨v, hv, hrun⟩ := hq B1.S B1.w B1.W a h1 hB.still
  exact wpAnyH_take hi hs hf hr (fun c a w => hQ c a w v) (.inl ⟨rfl, fun w' hw' => hrun w' hw'⟩) hsep.up.le (h hF hB _ S w (h1.put hd hv) h2.del hsep)
theorem GH.takep (i : Nat) {dv : D} (hi : ops[i]? = some ⟨some d, o, ty, pos, aft, none⟩) (hd : Nat.blt d n = true) (hs : Region.noSelect ops = true) (hf : Region.free .any ops listed i = true) (hr : (Region.ready .any ops listed).contains i = true)
    (hq : Qp Γ P n (L2 ++ L1) ⟨some d, o, ty, pos, aft, none⟩ dv) (hQ : ∀ c a w v, Q (.panic c) (a.put (some d) v) w → Q (.panic c) a w)
    (h : GH Γ B0 B1 out F n (del L1 d) ((d, dv) :: L2) R0 R (wpAnyH P .any ops Q (fun w' => Le B1.W B1.w w') fuel (listed.setIfInBounds i true))) : GH Γ B0 B1 out F n L1 L2 R0 R (wpAnyH P .any ops Q (fun w' => Le B1.W B1.w w') (fuel + 1) listed) := fun hF hB a S w h1 h2 hsep => by
  obtain ⟨v, hv, hrun⟩ := hq S w a (Fr.now hsep h1 h2) hsep.glob
  exact wpAnyH_take hi hs hf hr (fun c a w => hQ c a w v) (.inl ⟨rfl, fun w' _ => hrun w'⟩) hsep.up.le (h hF hB _ S w h1.del (h2.put hd hv) hsep)
theorem GH.take_y (i : Nat) {dv : D} {gi dg : Nat} {b c : Bool} (hi : ops[i]? = some ⟨some d, o, ty, pos, aft, some (gi, b)⟩) (hd : Nat.blt d n = true) (hs : Region.noSelect ops = true) (hf : Region.free .any ops listed i = true) (hr : (Region.ready .any ops listed).contains i = true)
    (ho : (ops[gi]?).bind (·.dst) = some dg) (hv : look (L2 ++ L1) dg = some (.val (.bool c))) (hc : c = b)
    (hq : Qv Γ P n L1 R0 ⟨some d, o, ty, pos, aft, some (gi, b)⟩ dv) (hQ : ∀ c a w v, Q (.panic c) (a.put (some d) v) w → Q (.panic c) a w)
    (h : GH Γ B0 B1 out F n ((d, dv) :: L1) (del L2 d) R0 R (wpAnyH P .any ops Q (fun w' => Le B1.W B1.w w') fuel (listed.setIfInBounds i true))) : GH Γ B0 B1 out F n L1 L2 R0 R (wpAnyH P .any ops Q (fun w' => Le B1.W B1.w w') (fuel + 1) listed) := fun hF hB a S w h1 h2 hsep => by
  have hy : yielded ops a.tmps gi = some b := yielded_of ho (by rw [← hc]; exact look_bool (Fr.now hsep h1 h2) hv)
  obtain ⟨v, hv, hrun⟩ := hq B1.S B1.w B1.W a h1 hB.still
  exact wpAnyH_take hi hs hf hr (fun c a w => hQ c a w v) (.inl ⟨by simp [Region.wanted, hy], fun w' hw' => hrun w' hw'⟩) hsep.up.le (h hF hB _ S w (h1.put hd hv) h2.del hsep)
theorem GH.takep_y (i : Nat) {dv : D} {gi dg : Nat} {b c : Bool} (hi : ops[i]? = some ⟨some d, o, ty, pos, aft, some (gi, b)⟩) (hd : Nat.blt d n = true) (hs : Region.noSelect ops = true) (hf : Region.free .any ops listed i = true) (hr : (Region.ready .any ops listed).contains i = true)
    (ho : (ops[gi]?).bind (·.dst) = some dg) (hv : look (L2 ++ L1) dg = some (.val (.bool c))) (hc : c = b)
    (hq : Qp Γ P n (L2 ++ L1) ⟨some d, o, ty, pos, aft, some (gi, b)⟩ dv) (hQ : ∀ c a w v, Q (.panic c) (a.put (some d) v) w → Q (.panic c) a w)
    (h : GH Γ B0 B1 out F n (del L1 d) ((d, dv) :: L2) R0 R (wpAnyH P .any ops Q (fun w' => Le B1.W B1.w w') fuel (listed.setIfInBounds i true))) : GH Γ B0 B1 out F n L1 L2 R0 R (wpAnyH P .any ops Q (fun w' => Le B1.W B1.w w') (fuel + 1) listed) := fun hF hB a S w h1 h2 hsep => by
  have hy : yielded ops a.tmps gi = some b := yielded_of ho (by rw [← hc]; exact look_bool (Fr.now hsep h1 h2) hv)
  obtain ⟨v, hv, hrun⟩ := hq S w a (Fr.now hsep h1 h2) hsep.glob
  exact wpAnyH_take hi hs hf hr (fun c a w => hQ c a w v) (.inl ⟨by simp [Region.wanted, hy], fun w' _ => hrun w'⟩) hsep.up.le (h hF hB _ S w h1.del (h2.put hd hv) hsep)
theorem GH.take_n (i : Nat) {gi dg : Nat} {b c : Bool} (hi : ops[i]? = some ⟨some d, o, ty, pos, aft, some (gi, b)⟩) (hd : Nat.blt d n = true) (hs : Region.noSelect ops = true) (hf : Region.free .any ops listed i = true) (hr : (Region.ready .any ops listed).contains i = true)
    (ho : (ops[gi]?).bind (·.dst) = some dg) (hv : look (L2 ++ L1) dg = some (.val (.bool c))) (hc : c = !b) (hQ : ∀ c a w v, Q (.panic c) (a.put (some d) v) w → Q (.panic c) a w)
    (h : GH Γ B0 B1 out F n ((d, .val undef) :: L1) (del L2 d) R0 R (wpAnyH P .any ops Q (fun w' => Le B1.W B1.w w') fuel (listed.setIfInBounds i true))) : GH Γ B0 B1 out F n L1 L2 R0 R (wpAnyH P .any ops Q (fun w' => Le B1.W B1.w w') (fuel + 1) listed) := fun hF hB a S w h1 h2 hsep => by
  have hy : yielded ops a.tmps gi = some c := yielded_of ho (look_bool (Fr.now hsep h1 h2) hv)
  exact wpAnyH_take hi hs hf hr (fun c a w => hQ c a w undef) (.inr ⟨by subst hc; cases b <;> simp [Region.wanted, hy], rfl⟩) hsep.up.le (h hF hB _ S w (h1.put hd (RdV.val.2 rfl)) h2.del hsep)
theorem GH.take_u (i : Nat) {gi dg : Nat} {b : Bool} (hi : ops[i]? = some ⟨some d, o, ty, pos, aft, some (gi, b)⟩) (hd : Nat.blt d n = true) (hs : Region.noSelect ops = true) (hf : Region.free .any ops listed i = true) (hr : (Region.ready .any ops listed).contains i = true)
    (ho : (ops[gi]?).bind (·.dst) = some dg) (hv : look (L2 ++ L1) dg = some (.val undef)) (hQ : ∀ c a w v, Q (.panic c) (a.put (some d) v) w → Q (.panic c) a w)
    (h : GH Γ B0 B1 out F n ((d, .val undef) :: L1) (del L2 d) R0 R (wpAnyH P .any ops Q (fun w' => Le B1.W B1.w w') fuel (listed.setIfInBounds i true))) : GH Γ B0 B1 out F n L1 L2 R0 R (wpAnyH P .any ops Q (fun w' => Le B1.W B1.w w') (fuel + 1) listed) := fun hF hB a S w h1 h2 hsep => by
  obtain ⟨u, h3, h4⟩ := (Fr.now hsep h1 h2).at_ _ _ hv
  rw [RdV.val] at h4; subst h4
  have hy : yielded ops a.tmps gi = none := by
    simp only [yielded, ho, Option.bind_some, h3]
    simp [undef]
  exact wpAnyH_take hi hs hf hr (fun c a w => hQ c a w undef) (.inr ⟨by simp [Region.wanted, hy], rfl⟩) hsep.up.le (h hF hB _ S w (h1.put hd (RdV.val.2 rfl)) h2.del hsep)
theorem GH.all (rs : List Nat) (hr : Region.ready .any ops listed = rs) (hne : rs ≠ [])
    (h : ∀ i ∈ rs, GH Γ B0 B1 out F n L1 L2 R0 R (wpOp P ops Q i (fun a' w' => Le B1.W B1.w w' ∧ wpAnyH P .any ops Q (fun w' => Le B1.W B1.w w') fuel (listed.setIfInBounds i true) a' w'))) : GH Γ B0 B1 out F n L1 L2 R0 R (wpAnyH P .any ops Q (fun w' => Le B1.W B1.w w') (fuel + 1) listed) := fun hF hB a S w h1 h2 hs =>
  wpAnyH_all hr hne fun i hi => h i hi hF hB a S w h1 h2 hs
theorem all_cons {p : Nat → Prop} {i : Nat} {l : List Nat} (h : p i) (hl : ∀ j ∈ l, p j) : ∀ j ∈ i :: l, p j := List.forall_mem_cons.2 ⟨h, hl⟩
theorem GH.loud {γ : Type} {dv : γ → D} {R' : γ → List Res} {i : Nat} (hi : ops[i]? = some ⟨some d, o, ty, pos, aft, none⟩) (hd : Nat.blt d n = true) (hop : Op1 Γ P n (L2 ++ L1) R ⟨some d, o, ty, pos, aft, none⟩ Q dv R')
    (h : ∀ x, GH Γ B0 B1 out F n (del L1 d) ((d, dv x) :: L2) R0 (R' x) K) : GH Γ B0 B1 out F n L1 L2 R0 R (wpOp P ops Q i (fun a' w' => Le B1.W B1.w w' ∧ K a' w')) := fun hF hB a S w h1 h2 hs => by
  unfold wpOp
  rw [hi]
  simp only [Region.wanted, if_true]
  refine .inl (hop B1 a S w _ (Fr.now hs h1 h2) hs fun x v S' w' u hv hs' => ⟨hs'.up.le, ?_⟩)
  exact h x hF hB _ S' w' h1.del ((h2.up u).put hd hv) hs'
theorem GH.loudn {γ : Type} {dv : γ → D} {R' : γ → List Res} {i : Nat} (hi : ops[i]? = some ⟨none, o, ty, pos, aft, none⟩) (hop : Op1 Γ P n (L2 ++ L1) R ⟨none, o, ty, pos, aft, none⟩ Q dv R')
    (h : ∀ x, GH Γ B0 B1 out F n L1 L2 R0 (R' x) K) : GH Γ B0 B1 out F n L1 L2 R0 R (wpOp P ops Q i (fun a' w' => Le B1.W B1.w w' ∧ K a' w')) := fun hF hB a S w h1 h2 hs => by
  unfold wpOp
  rw [hi]
  simp only [Region.wanted, if_true]
  refine .inl (hop B1 a S w _ (Fr.now hs h1 h2) hs fun x v S' w' u hv hs' => ⟨hs'.up.le, ?_⟩)
  exact h x hF hB _ S' w' h1 (h2.up u) hs'
theorem exec_guard {ρ : Operand → Value} {dst : Option Nat} {g g' : Option (Nat × Bool)} : execOp ρ ⟨dst, o, ty, pos, aft, g⟩ = execOp ρ ⟨dst, o, ty, pos, aft, g'⟩ := rfl
theorem GH.loud_y {γ : Type} {dv : γ → D} {R' : γ → List Res} {i gi dg : Nat} {b c : Bool} (hi : ops[i]? = some ⟨some d, o, ty, pos, aft, some (gi, b)⟩) (hd : Nat.blt d n = true)
    (ho : (ops[gi]?).bind (·.dst) = some dg) (hv : look (L2 ++ L1) dg = some (.val (.bool c))) (hc : c = b) (hop : Op1 Γ P n (L2 ++ L1) R ⟨some d, o, ty, pos, aft, none⟩ Q dv R')
    (h : ∀ x, GH Γ B0 B1 out F n (del L1 d) ((d, dv x) :: L2) R0 (R' x) K) : GH Γ B0 B1 out F n L1 L2 R0 R (wpOp P ops Q i (fun a' w' => Le B1.W B1.w w' ∧ K a' w')) := fun hF hB a S w h1 h2 hs => by
  have hy : yielded ops a.tmps gi = some b := yielded_of ho (by rw [← hc]; exact look_bool (Fr.now hs h1 h2) hv)
  unfold wpOp
  rw [hi]
  have : Region.wanted ⟨some d, o, ty, pos, aft, some (gi, b)⟩ (yielded ops a.tmps) = true := by simp [Region.wanted, hy]
  simp only [this, if_true]
  refine .inl ?_
  have := hop B1 a S w (fun a' w' => Le B1.W B1.w w' ∧ K a' w') (Fr.now hs h1 h2) hs fun x v S' w' u hv hs' => ⟨hs'.up.le, h x hF hB _ S' w' h1.del ((h2.up u).put hd hv) hs'⟩
  exact this
theorem GH.skip {i gi dg : Nat} {b c : Bool} (hi : ops[i]? = some ⟨some d, o, ty, pos, aft, some (gi, b)⟩) (hd : Nat.blt d n = true)
    (ho : (ops[gi]?).bind (·.dst) = some dg) (hv : look (L2 ++ L1) dg = some (.val (.bool c))) (hc : c = !b)
    (h : GH Γ B0 B1 out F n ((d, .val undef) :: L1) (del L2 d) R0 R K) : GH Γ B0 B1 out F n L1 L2 R0 R (wpOp P ops Q i (fun a' w' => Le B1.W B1.w w' ∧ K a' w')) := fun hF hB a S w h1 h2 hs => by
  have hy : yielded ops a.tmps gi = some c := yielded_of ho (look_bool (Fr.now hs h1 h2) hv)
  unfold wpOp
  rw [hi]
  have : ¬ Region.wanted ⟨some d, o, ty, pos, aft, some (gi, b)⟩ (yielded ops a.tmps) = true := by subst hc; cases b <;> simp [Region.wanted, hy]
  simp only [this, if_false]
  exact ⟨hs.up.le, h hF hB _ S w (h1.put hd (RdV.val.2 rfl)) h2.del hs⟩
/-- a datum that no memory bears -/
def Ind (d : D) : Prop := ∀ S w S' w' v, RdV S w d v → RdV S' w' d v
theorem Ind.val {v : Value} : Ind (.val v) := fun _ _ _ _ _ h => by rw [RdV.val] at h ⊢; exact h
theorem Ind.err {b : Bool} : Ind (.err b) := fun _ _ _ _ _ h => by simpa only [RdV, Rd] using h
theorem Ind.rp {v : Value} {o : Nat} : Ind (.rp v o) := fun _ _ _ _ _ h => by simpa only [RdV, Rd] using h
theorem GH.lift {dv : D} (hI : Ind dv) (h : GH Γ B0 B1 out F n ((d, dv) :: L1) (del L2 d) R0 R C) : GH Γ B0 B1 out F n L1 ((d, dv) :: L2) R0 R C := fun hF hB a S w h1 h2 hs => by
  have hd : look ((d, dv) :: L2) d = some dv := by simp [look]
  obtain ⟨v, h3, h4⟩ := h2.at_ _ _ hd
  refine h hF hB a S w ⟨h1.size, h1.defers, fun i x hx => ?_⟩ ⟨h2.size, h2.defers, fun i x hx => ?_⟩ hs
  · simp only [look] at hx
    split at hx
    · rename_i hb
      have := Nat.eq_of_beq_eq_true hb
      subst this
      simp only [Option.some.injEq] at hx; subst hx
      exact ⟨v, h3, hI _ _ _ _ _ h4⟩
    · exact h1.at_ i x hx
  · obtain ⟨hi, hx⟩ := look_del hx
    refine h2.at_ i x ?_
    simp only [look]
    have : Nat.beq i d = false := by
      cases hb : Nat.beq i d with
      | true => exact absurd (Nat.eq_of_beq_eq_true hb) hi
      | false => rfl
    rw [this]; exact hx
theorem GH.view {dv dv' : D} (e : dv = dv') (h : GH Γ B0 B1 out F n L1 ((d, dv') :: L2) R0 R C) : GH Γ B0 B1 out F n L1 ((d, dv) :: L2) R0 R C := by subst e; exact h
theorem GH.view1 {dv dv' : D} (e : dv = dv') (h : GH Γ B0 B1 out F n ((d, dv') :: L1) L2 R0 R C) : GH Γ B0 B1 out F n ((d, dv) :: L1) L2 R0 R C := by subst e; exact h
theorem GH.byb {c : Bool} (h1 : c = true → GH Γ B0 B1 out F n L1 L2 R0 R C) (h2 : c = false → GH Γ B0 B1 out F n L1 L2 R0 R C) : GH Γ B0 B1 out F n L1 L2 R0 R C := by
  cases hc : c
  · exact h2 hc
  · exact h1 hc
/-- all have come up: back to the call's own begin -/
theorem GH.done {is js : List Nat} {L' : List (Nat × D)} (hr : Region.ready .any ops listed = []) (hL : keep (L2 ++ L1) is = L') (hR : (pull (R ++ R0) js).1 = R') (h : G Γ B0 out F n L' R' (Q .normal)) : GH Γ B0 B1 out F n L1 L2 R0 R (wpAnyH P .any ops Q (fun w' => Le B1.W B1.w w') fuel listed) := fun hF hB a S w h1 h2 hs =>
  wpAnyH_done hr (h hF a S w ((Fr.now hs h1 h2).sub fun i d hd => ⟨d, look_keep (hL ▸ hd), fun _ h => h⟩) (hR ▸ ((hB.back hs).perm (pull_perm js _).symm).left)) fuel
/-- a code comes to a state that J tells of -/
theorem G.cutc {c : Code} (J : Act → World → Prop) (h1 : G Γ B () (some ()) n L R (c.wp P (Exit.then J Q))) (h2 : ∀ a w', J a w' → F = some out → Q .normal a w') : G Γ B out F n L R (c.wp P Q) := fun hF a S w ha hs => by
  refine wp_mono (h1 rfl a S w ha hs) fun e a' w' hq => ?_
  cases e with
  | normal => exact h2 a' w' hq hF
  | exit id => exact hq
  | goto l => exact hq
  | ret => exact hq
  | panic c => exact hq
  | outgrown => exact hq
end
end Go.Proofs.Ythbgngdoihkodac.Hx
namespace Go.Proofs.Ythbgngdoihkodac.Hx
section
variable {Γ : List (Nat × D)} {B0 B1 : Base} {α : Type} {out : α} {F : Option α} {n : Nat} {L1 L2 L2' : List (Nat × D)} {R R' R0 : List Res} {C : Act → World → Prop}
/-- what a row reads as when it is no more written -/
theorem row_sl {S : Nat → Prop} {w : World} {v : Value} {e sz : Nat} {ds : List D} (h : Res.ok S w (.row v e sz ds)) : RdV (fun b => S b ∨ b ∈ ob v) w (.sl sz ds) v := by
  obtain ⟨cs, ⟨h1, p, c, rfl, h2, h3, h4⟩, h5⟩ := h
  simp only [RdV, Rd]
  refine ⟨p, c, rfl, h2, h3, ?_⟩
  rcases h4 with h4 | ⟨g, o, cur, rfl, hc, hg, hle, ht⟩
  · left; exact List.eq_nil_of_length_eq_zero (by omega)
  · right
    refine ⟨g, o, cur, e, _, rfl, .inr (by rw [ob_some hc]; simp), hg, ?_⟩
    have key : ∀ {ds : List D} {c1 : List Value} (c2 : List Value), RdEach S w sz ds c1 → RdEach S w sz ds (c1 ++ c2) := by
      intro ds
      induction ds with
      | nil => intro c1 c2 _; simp only [RdEach]
      | cons d ds ih =>
        intro c1 c2 h
        simp only [RdEach] at h ⊢
        obtain ⟨e1, e2, rfl, hl, h1, h2⟩ := h
        exact ⟨e1, e2 ++ c2, by simp, hl, h1, ih c2 h2⟩
    have := key ((cur.toList.drop o).drop (ds.length * sz)) h5
    rw [← ht, List.take_append_drop] at this
    exact RdEach.mono (fun b o hb ho => ⟨.inl hb, ho⟩) this
theorem GH.freeze (i : Nat) {v : Value} {e sz : Nat} {ds : List D} (hi : R[i]? = some (.row v e sz ds)) (hL : ∀ S w, RdV S w (.sl sz ds) v → Wks S w L2 L2') (hR : ∀ S w, RdV S w (.sl sz ds) v → WkR S w (R.eraseIdx i) R')
    (h : GH Γ B0 B1 out F n L1 L2' R0 R' C) : GH Γ B0 B1 out F n L1 L2 R0 R C := fun hF hB a S w h1 ha hs => by
  have hv := row_sl (hs.ok _ (List.mem_of_getElem? hi))
  have hf := hs.freeze hi
  have ha' : Fr n (fun b => S b ∨ b ∈ ob v) w L2 a := ⟨ha.size, ha.defers, fun i d hd => by
    obtain ⟨u, h1, h2⟩ := ha.at_ i d hd
    exact ⟨u, h1, h2.mono fun b o hb ho => ⟨.inl hb, ho⟩⟩⟩
  exact h hF hB a _ w h1 (ha'.sub fun i d hd => (hL _ w hv).look i d hd) (hf.wk (hR _ w hv))
theorem GH.nilrow (e sz : Nat) (p : Option Addr) (h : GH Γ B0 B1 out F n L1 L2 R0 (.row (.slice p 0 0) e sz [] :: R) C) : GH Γ B0 B1 out F n L1 L2 R0 R C := fun hF hB a S w h1 h2 hs =>
  h hF hB a S w h1 h2 (hs.add (Le.refl _ _) ⟨[], ⟨by simp, p, 0, rfl, Nat.le_refl _, by decide, .inl rfl⟩, by simp [RdEach]⟩ (by simp [Res.fp, ob_nil]) (by simp [Res.fp, ob_nil]))
end
end Go.Proofs.Ythbgngdoihkodac.Hx
