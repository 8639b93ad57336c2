/- roadstead: ScopeSays. This text: HxC. Conditions: none beyond those that the statement itself names. -/
import Derived.Test.YthbgngdoihkodacHxB
namespace Go.Proofs.Ythbgngdoihkodac.Hx
open Go.RowKit

/-- while the pure side says 'out', from a state of which L and R tell, C goes -/
def G (Γ : List (Nat × D)) (B : Base) {α : Type} (out : α) (F : Option α) (n : Nat) (L : List (Nat × D)) (R : List Res) (C : Act → World → Prop) : Prop :=
  F = some out → ∀ a S w, Fr n S w L a → Sep Γ B S w R → C a w
/-- a state of which L and R tell -/
def Ass (Γ : List (Nat × D)) (B : Base) (n : Nat) (L : List (Nat × D)) (R : List Res) (a : Act) (w : World) : Prop := ∃ S, Fr n S w L a ∧ Sep Γ B S w R

/-- an operation yields what reads as dv, and changes what is owned from R to R' -/
def Op1 (Γ : List (Nat × D)) (P : Program) (n : Nat) (L : List (Nat × D)) (R : List Res) (o : Oper) (Q : Exit → Act → World → Prop) {γ : Type} (dv : γ → D) (R' : γ → List Res) : Prop :=
  ∀ (B : Base) a S w K, Fr n S w L a → Sep Γ B S w R →
    (∀ x v S' w', Up (fps R) S w S' w' → RdV S' w' (dv x) v → Sep Γ B S' w' (R' x) → K (a.put o.dst v) w') → o.wp P a w K Q
/-- what is there while the blocks W are written -/
structure Still (Γ : List (Nat × D)) (S : Nat → Prop) (w : World) (R : List Res) (W : List Nat) : Prop where
  glob : Globs Γ S w
  live : ∀ b, S b → b < w.heap.size
  out : ∀ b ∈ W, ¬ S b
  ok : ∀ r ∈ R, r.ok S w
  off : ∀ b ∈ fps R, b ∉ W
/-- an operation yields what reads as dv, and writes nothing; at any time -/
def Qv (Γ : List (Nat × D)) (P : Program) (n : Nat) (L : List (Nat × D)) (R : List Res) (o : Oper) (dv : D) : Prop :=
  ∀ S w W a, Fr n S w L a → Still Γ S w R W → ∃ v, RdV S w dv v ∧ ∀ w', Le W w w' → (execOp a.eval o).run P w' = .ok (.value v) w'

/-- an operation yields what reads as dv, whatever the memory is -/
def Qp (Γ : List (Nat × D)) (P : Program) (n : Nat) (L : List (Nat × D)) (o : Oper) (dv : D) : Prop :=
  ∀ S w a, Fr n S w L a → Globs Γ S w → ∃ v, RdV S w dv v ∧ ∀ w', (execOp a.eval o).run P w' = .ok (.value v) w'
theorem Qp.qv {Γ L : List (Nat × D)} {P : Program} {n : Nat} {R : List Res} {o : Oper} {dv : D} (h : Qp Γ P n L o dv) : Qv Γ P n L R o dv := fun S w W a ha hs => by
  obtain ⟨v, h1, h2⟩ := h S w a ha hs.glob
  exact ⟨v, h1, fun w' _ => h2 w'⟩
theorem run_value_of {P : Program} {w w' : World} {m : Sem Value} {v : Value} (h : m.run P w = .ok v w') : (do pure (Next.value (← m)) : Sem Next).run P w = .ok (.value v) w' := by
  simp [h]
theorem Op1.q {Γ L : List (Nat × D)} {P : Program} {n : Nat} {R : List Res} {o : Oper} {Q : Exit → Act → World → Prop} {dv : D} (h : Qv Γ P n L R o dv) : Op1 Γ P n L R o Q (fun _ : Unit => dv) (fun _ => R) := fun B a S w K ha hs hK => by
  obtain ⟨v, h1, h2⟩ := h S w [] a ha ⟨hs.glob, hs.live, by simp, hs.ok, by simp⟩
  show Oper.wp _ _ _ _ _ _
  unfold Oper.wp
  rw [h2 w (Le.refl _ _), Oper.upon_value]
  exact hK () v S w (Up.refl hs.live hs.apart) h1 hs
/-- from a run -/
theorem Op1.run {Γ L : List (Nat × D)} {P : Program} {n : Nat} {R : List Res} {o : Oper} {Q : Exit → Act → World → Prop} {γ : Type} {dv : γ → D} {R' : γ → List Res}
    (h : ∀ B a S w, Fr n S w L a → Sep Γ B S w R → ∃ x v w', (execOp a.eval o).run P w = .ok (.value v) w' ∧ Le (fps R) w w' ∧ RdV S w' (dv x) v ∧ Sep Γ B S w' (R' x)) : Op1 Γ P n L R o Q dv R' := fun B a S w K ha hs hK => by
  obtain ⟨x, v, w', h1, h2, h3, h4⟩ := h B a S w ha hs
  show Oper.wp _ _ _ _ _ _
  unfold Oper.wp
  rw [h1, Oper.upon_value]
  exact hK x v S w' (Up.of_le hs.live hs.apart h2) h3 h4
theorem Op1.skip {Γ L : List (Nat × D)} {P : Program} {n : Nat} {R : List Res} {o : Oper} {Q : Exit → Act → World → Prop} {γ : Type} {R' : γ → List Res} (hd : o.dst = none)
    (h : ∀ B a S w, Fr n S w L a → Sep Γ B S w R → ∃ x w', (execOp a.eval o).run P w = .ok .skip w' ∧ Le (fps R) w w' ∧ Sep Γ B S w' (R' x)) : Op1 Γ P n L R o Q (fun _ => .val undef) R' := fun B a S w K ha hs hK => by
  obtain ⟨x, w', h1, h2, h4⟩ := h B a S w ha hs
  show Oper.wp _ _ _ _ _ _
  unfold Oper.wp
  rw [h1, Oper.upon_skip]
  exact hK x undef S w' (Up.of_le hs.live hs.apart h2) (RdV.val.2 rfl) h4

section
variable {Γ : List (Nat × D)} {B : Base} {α β : Type} {out : α} {F : Option α} {n : Nat} {L L' : List (Nat × D)} {R R' : List Res} {P : Program} {Q : Exit → Act → World → Prop} {K C : Act → World → Prop}
variable {ops : Array Oper} {rest : List Oper} {ty : TypeId} {pos : String} {aft : Array Edge} {d : Nat}

/-! ### state rules -/
theorem G.bind {F1 : Option β} {F2 : β → Option α} (h : ∀ r, F1 = some r → G Γ B out (F2 r) n L R C) : G Γ B out (F1.bind F2) n L R C := fun hF a S w ha hs => by
  cases hr : F1 with
  | none => rw [hr] at hF; cases hF
  | some r => rw [hr] at hF; exact h r hr hF a S w ha hs
theorem G.use {a : Act} {w : World} (hF : F = some out) (ha : Ass Γ B n L R a w) (h : G Γ B out F n L R C) : C a w := by
  obtain ⟨S, h1, h2⟩ := ha
  exact h hF a S w h1 h2
/-- the slots that are kept, what is owned in this order -/
theorem G.norm {is js : List Nat} (h1 : keep L is = L') (h2 : (pull R js).1 = R') (h : G Γ B out F n L' R' C) : G Γ B out F n L R C := fun hF a S w ha hs =>
  h hF a S w (ha.sub fun i d hd => ⟨d, look_keep (h1 ▸ hd), fun _ h => h⟩) (h2 ▸ (hs.perm (pull_perm js R).symm).left)
/-- weaker knowledge of the slots -/
def Wk (S : Nat → Prop) (w : World) (d d' : D) : Prop := ∀ v, RdV S w d v → RdV S w d' v
/-- entries that are told again, in order -/
inductive Wks (S : Nat → Prop) (w : World) : List (Nat × D) → List (Nat × D) → Prop
  | nil : Wks S w [] []
  | cons {i : Nat} {d d' : D} {L L' : List (Nat × D)} (h : Wk S w d d') (t : Wks S w L L') : Wks S w ((i, d) :: L) ((i, d') :: L')
theorem Wks.look {S : Nat → Prop} {w : World} : ∀ {L L' : List (Nat × D)}, Wks S w L L' → ∀ i d, look L' i = some d → ∃ d0, look L i = some d0 ∧ Wk S w d0 d
  | _, _, .nil, i, d, hd => by simp [Hx.look] at hd
  | _, _, .cons (i := j) h t, i, d, hd => by
    simp only [Hx.look] at hd ⊢
    split at hd
    · simp only [Option.some.injEq] at hd; subst hd; exact ⟨_, rfl, h⟩
    · exact Wks.look t i d hd
theorem Wk.refl {S : Nat → Prop} {w : World} {d : D} : Wk S w d d := fun _ h => h
theorem Wk.eq {S : Nat → Prop} {w : World} {d d' : D} (h : d = d') : Wk S w d d' := h ▸ Wk.refl
theorem Wk.trans {S : Nat → Prop} {w : World} {d d' d2 : D} (h : Wk S w d d') (k : Wk S w d' d2) : Wk S w d d2 := fun v hv => k v (h v hv)
theorem Wk.nil {S : Nat → Prop} {w : World} {sz : Nat} {p : Option Addr} : Wk S w (.val (.slice p 0 0)) (.sl sz []) := fun v hv => by
  rw [RdV.val] at hv; subst hv
  simp only [RdV, Rd]
  exact ⟨p, 0, rfl, Nat.le_refl _, by decide, by simp⟩
theorem Wk.noerr {S : Nat → Prop} {w : World} : Wk S w (.val .nilIface) (.err false) := fun v hv => by
  rw [RdV.val] at hv; subst hv
  simp only [RdV, Rd]
  exact ⟨_, rfl, IsErr.nil⟩
theorem Wk.someerr {S : Nat → Prop} {w : World} {t : TypeId} {p : Value} : Wk S w (.val (.iface t p)) (.err true) := fun v hv => by
  rw [RdV.val] at hv; subst hv
  simp only [RdV, Rd]
  exact ⟨_, rfl, IsErr.some⟩
/-- leafs, one by one -/
inductive WkC (S : Nat → Prop) (w : World) : List D → List D → Prop
  | nil : WkC S w [] []
  | cons {d d' : D} {ds ds' : List D} (l : d.leaf = true) (l' : d'.leaf = true) (h : Wk S w d d') (t : WkC S w ds ds') : WkC S w (d :: ds) (d' :: ds')
  | same {ds : List D} : WkC S w ds ds
theorem WkC.cs {S : Nat → Prop} {w : World} : ∀ {ds ds' : List D} {cs : List Value}, WkC S w ds ds' → RdCs S w ds cs → RdCs S w ds' cs
  | _, _, cs, .nil, hr => hr
  | _, _, cs, .same, hr => hr
  | _, _, cs, .cons l1 l2 h1 h2, hr => by
    simp only [RdCs] at hr ⊢
    obtain ⟨v, cs', rfl, h3, h4⟩ := hr
    exact ⟨v, cs', rfl, (RdV.leaf l2).1 (h1 v ((RdV.leaf l1).2 h3)), WkC.cs h2 h4⟩
/-- what is owned, told again -/
inductive WkR (S : Nat → Prop) (w : World) : List Res → List Res → Prop
  | nil : WkR S w [] []
  | same {r : Res} {R R' : List Res} (t : WkR S w R R') : WkR S w (r :: R) (r :: R')
  | cells {g : Nat} {T : TypeId} {ds ds' : List D} {R R' : List Res} (h : WkC S w ds ds') (t : WkR S w R R') : WkR S w (.cells g T ds :: R) (.cells g T ds' :: R')
theorem WkR.fps {S : Nat → Prop} {w : World} : ∀ {R R' : List Res}, WkR S w R R' → fps R' = fps R
  | _, _, .nil => rfl
  | _, _, .same t => by rw [fps_cons, fps_cons, t.fps]
  | _, _, .cells h t => by rw [fps_cons, fps_cons, t.fps]; rfl
theorem WkR.ok {S : Nat → Prop} {w : World} : ∀ {R R' : List Res}, WkR S w R R' → (∀ r ∈ R, r.ok S w) → ∀ r ∈ R', r.ok S w
  | _, _, .nil, h => h
  | _, _, .same t, h => fun r hr => by
    rcases List.mem_cons.1 hr with rfl | hr
    · exact h _ (by simp)
    · exact t.ok (fun r hr => h r (by simp [hr])) r hr
  | _, _, .cells hw t, h => fun r hr => by
    rcases List.mem_cons.1 hr with rfl | hr
    · obtain ⟨cs, h1, h2⟩ := h _ (List.mem_cons_self ..)
      exact ⟨cs, h1, hw.cs h2⟩
    · exact t.ok (fun r hr => h r (by simp [hr])) r hr
theorem Sep.wk {Γ : List (Nat × D)} {B : Base} {S : Nat → Prop} {w : World} {R R' : List Res} (h : Sep Γ B S w R) (k : WkR S w R R') : Sep Γ B S w R' :=
  ⟨h.up, h.glob, k.ok h.ok, by rw [k.fps]; exact h.nodup, by rw [k.fps]; exact h.own⟩
theorem Wk.agg {S : Nat → Prop} {w : World} {ds ds' : List D} (h : WkC S w ds ds') : Wk S w (.agg ds) (.agg ds') := fun v hv => by
  simp only [RdV] at hv ⊢
  obtain ⟨cs, rfl, hr⟩ := hv
  exact ⟨cs, rfl, h.cs hr⟩
theorem G.weak {L' : List (Nat × D)} (hw : ∀ S w, Wks S w L L') (h : G Γ B out F n L' R C) : G Γ B out F n L R C := fun hF a S w ha hs =>
  h hF a S w (ha.sub fun i d hd => (hw S w).look i d hd) hs
theorem G.weakR {R' : List Res} (hw : ∀ S w, WkR S w R R') (h : G Γ B out F n L R' C) : G Γ B out F n L R C := fun hF a S w ha hs => h hF a S w ha (hs.wk (hw S w))
theorem G.none_ : G Γ B out none n L R C := fun h => by cases h
/-- the newest entry is told in other words -/
theorem G.view {dv dv' : D} (e : dv = dv') (h : G Γ B out F n ((d, dv') :: L) R C) : G Γ B out F n ((d, dv) :: L) R C := by subst e; exact h
theorem G.viewW {dv dv' : D} (e : ∀ S w, Wk S w dv dv') (h : G Γ B out F n ((d, dv') :: L) R C) : G Γ B out F n ((d, dv) :: L) R C := fun hF a S w ha hs => h hF a S w (ha.sub fun i u hu => by
  simp only [look] at hu ⊢
  split at hu
  · rename_i hb
    simp only [Option.some.injEq] at hu; subst hu; exact ⟨dv, rfl, fun v hv => e S w v hv⟩
  · exact ⟨u, hu, fun _ h => h⟩) hs
/-- a row of the call's own is no more written -/
theorem G.freeze (i : Nat) {L' : List (Nat × D)} {v : Value} {e sz : Nat} {ds : List D} (hi : R[i]? = some (.row v e sz ds)) (hL : ∀ S w, RdV S w (.sl sz ds) v → Wks S w L L') (hR : ∀ S w, RdV S w (.sl sz ds) v → WkR S w (R.eraseIdx i) R')
    (h : G Γ B out F n L' R' C) : G Γ B out F n L R C := fun hF a S w ha hs => by
  have hv : RdV (fun b => S b ∨ b ∈ ob v) w (.sl sz ds) v := by
    obtain ⟨cs, ⟨h1, p, c, rfl, h2, h3, h4⟩, h5⟩ := hs.ok _ (List.mem_of_getElem? hi)
    simp only [RdV, Rd]
    refine ⟨p, c, rfl, h2, h3, ?_⟩
    rcases h4 with h4 | ⟨g, o, cur, rfl, hc, hg, hle, ht⟩
    · left; exact List.eq_nil_of_length_eq_zero (by omega)
    · right
      refine ⟨g, o, cur, e, _, rfl, .inr (by rw [ob_some hc]; simp), hg, ?_⟩
      have key : ∀ {ds : List D} {c1 : List Value} (c2 : List Value), RdEach S w sz ds c1 → RdEach S w sz ds (c1 ++ c2) := by
        intro ds
        induction ds with
        | nil => intro c1 c2 _; simp only [RdEach]
        | cons d ds ih =>
          intro c1 c2 h
          simp only [RdEach] at h ⊢
          obtain ⟨e1, e2, rfl, hl, h1, h2⟩ := h
          exact ⟨e1, e2 ++ c2, by simp, hl, h1, ih c2 h2⟩
      have := key ((cur.toList.drop o).drop (ds.length * sz)) h5
      rw [← ht, List.take_append_drop] at this
      exact RdEach.mono (fun b o hb ho => ⟨.inl hb, ho⟩) this
  have hf := hs.freeze hi
  have ha' : Fr n (fun b => S b ∨ b ∈ ob v) w L a := ⟨ha.size, ha.defers, fun i d hd => by
    obtain ⟨u, h1, h2⟩ := ha.at_ i d hd
    exact ⟨u, h1, h2.mono fun b o hb ho => ⟨.inl hb, ho⟩⟩⟩
  exact h hF a _ w (ha'.sub fun i d hd => (hL _ w hv).look i d hd) (hf.wk (hR _ w hv))
theorem Wk.fz {S : Nat → Prop} {w : World} {d : D} {v : Value} (h : RdV S w d v) : Wk S w (.val v) d := fun u hu => by
  rw [RdV.val] at hu; subst hu; exact h
/-- a row without elements more -/
theorem G.nilrow (e sz : Nat) (p : Option Addr) (h : G Γ B out F n L (.row (.slice p 0 0) e sz [] :: R) C) : G Γ B out F n L R C := fun hF a S w ha hs =>
  h hF a S w ha (hs.add (Le.refl _ _) ⟨[], ⟨by simp, p, 0, rfl, Nat.le_refl _, by decide, .inl rfl⟩, by simp [RdEach]⟩ (by simp [Res.fp, ob_nil]) (by simp [Res.fp, ob_nil]))

/-! ### codes -/
theorem G.seq {x y : Code} (h : ∀ K : Act → World → Prop, (∀ a w, y.wp P Q a w → K a w) → G Γ B out F n L R (x.wp P (Exit.then K Q))) : G Γ B out F n L R ((Code.seq x y).wp P Q) :=
  fun hF a S w ha hs => wp_seq_k fun K hK => h K hK hF a S w ha hs
theorem G.next_ {y : Code} {Q' : Exit → Act → World → Prop} (hK : ∀ a w, y.wp P Q' a w → K a w) (h : G Γ B out F n L R (y.wp P Q')) : G Γ B out F n L R (Exit.then K Q .normal) := fun hF a S w ha hs => hK _ _ (h hF a S w ha hs)
theorem G.skip (h : G Γ B out F n L R (Q .normal)) : G Γ B out F n L R (Code.skip.wp P Q) := fun hF a S w ha hs => wp_skip (h hF a S w ha hs)
theorem G.ret (h : G Γ B out F n L R (Q .ret)) : G Γ B out F n L R (Code.ret.wp P Q) := fun hF a S w ha hs => wp_ret (h hF a S w ha hs)
theorem G.exit {id : Nat} (h : G Γ B out F n L R (Q (.exit id))) : G Γ B out F n L R ((Code.exit id).wp P Q) := fun hF a S w ha hs => wp_exit (h hF a S w ha hs)
theorem G.block {id : Nat} {c : Code} (h : G Γ B out F n L R (c.wp P (Exit.inBlock id Q))) : G Γ B out F n L R ((Code.block id c).wp P Q) := fun hF a S w ha hs => wp_block (h hF a S w ha hs)
theorem G.eval_bool {x : Operand} {b : Bool} {S : Nat → Prop} {w : World} {a : Act} (hx : ev Γ L x = some (.val (.bool b))) (ha : Fr n S w L a) (hs : Sep Γ B S w R) : a.eval x = .bool b := RdV.val.1 (ha.eval hs.glob hx)
theorem G.cond {x : Operand} {c d : Code} {b : Bool} {F1 F2 : Option α} (hx : ev Γ L x = some (.val (.bool b))) (h1 : b = true → G Γ B out F1 n L R (c.wp P Q)) (h2 : b = false → G Γ B out F2 n L R (d.wp P Q)) :
    G Γ B out (if b = true then F1 else F2) n L R ((Code.cond x c d).wp P Q) := fun hF a S w ha hs => by
  cases b
  · exact wp_cond_false (G.eval_bool hx ha hs) (h2 rfl (by simpa using hF) a S w ha hs)
  · exact wp_cond_true (G.eval_bool hx ha hs) (h1 rfl (by simpa using hF) a S w ha hs)
theorem G.yes {x : Operand} {c d : Code} {b : Bool} (hx : ev Γ L x = some (.val (.bool b))) (hb : b = true) (h : G Γ B out F n L R (c.wp P Q)) : G Γ B out F n L R ((Code.cond x c d).wp P Q) := fun hF a S w ha hs => by
  subst hb; exact wp_cond_true (G.eval_bool hx ha hs) (h hF a S w ha hs)
theorem G.no {x : Operand} {c d : Code} {b : Bool} (hx : ev Γ L x = some (.val (.bool b))) (hb : b = false) (h : G Γ B out F n L R (d.wp P Q)) : G Γ B out F n L R ((Code.cond x c d).wp P Q) := fun hF a S w ha hs => by
  subst hb; exact wp_cond_false (G.eval_bool hx ha hs) (h hF a S w ha hs)
theorem G.region {id : Nat} {l : List Oper} (h : G Γ B out F n L R (wpList P l.toArray Q l)) : G Γ B out F n L R ((Code.region id l.toArray false).wp P Q) := fun hF a S w ha hs => wp_region_lit (h hF a S w ha hs)
theorem G.nil {ops : Array Oper} (h : G Γ B out F n L R (Q .normal)) : G Γ B out F n L R (wpList P ops Q []) := fun hF a S w ha hs => wpList_nil (h hF a S w ha hs)
theorem G.inB {id : Nat} (h : G Γ B out F n L R (Q .normal)) : G Γ B out F n L R (Exit.inBlock id Q .normal) := h
theorem G.inB_ret {id : Nat} (h : G Γ B out F n L R (Q .ret)) : G Γ B out F n L R (Exit.inBlock id Q .ret) := h
theorem G.inB_eq {id : Nat} (h : G Γ B out F n L R (Q .normal)) : G Γ B out F n L R (Exit.inBlock id Q (.exit id)) := fun hF a S w ha hs => by
  have := h hF a S w ha hs
  simpa [Exit.inBlock] using this
theorem G.inB_ne {id id' : Nat} (he : Nat.beq id' id = false) (h : G Γ B out F n L R (Q (.exit id'))) : G Γ B out F n L R (Exit.inBlock id Q (.exit id')) := fun hF a S w ha hs => by
  have := h hF a S w ha hs
  have hne : ¬ id' = id := fun e => by subst e; simp at he
  simpa [Exit.inBlock, hne] using this
theorem G.thn_ret (h : G Γ B out F n L R (Q .ret)) : G Γ B out F n L R (Exit.then K Q .ret) := h
theorem G.thn_exit {id : Nat} (h : G Γ B out F n L R (Q (.exit id))) : G Γ B out F n L R (Exit.then K Q (.exit id)) := h
/-- a part comes to some b, of which E tells; on with what follows -/
theorem G.join {c : Code} {F1 : Option β} {F2 : β → Option α} (E : β → Act → World → Prop) (h1 : ∀ b, F2 b = some out → G Γ B b F1 n L R (c.wp P (Exit.then (E b) Q)))
    (h2 : ∀ b, F1 = some b → ∀ a w', E b a w' → F2 b = some out → Q .normal a w') : G Γ B out (F1.bind F2) n L R (c.wp P Q) := fun hF a S w ha hs => by
  cases hr : F1 with
  | none => rw [hr] at hF; cases hF
  | some b =>
    rw [hr] at hF
    refine wp_mono (h1 b hF hr a S w ha hs) fun e a' w' hq => ?_
    cases e with
    | normal => exact h2 b hr a' w' hq hF
    | exit id => exact hq
    | goto l => exact hq
    | ret => exact hq
    | panic c => exact hq
    | outgrown => exact hq
theorem G.finE {E : Act → World → Prop} {r : α} (h : r = out → ∀ a w, Ass Γ B n L R a w → E a w) : G Γ B out (some r) n L R (Exit.then E Q .normal) := fun hF a S w ha hs => h (by simpa using hF) a w ⟨S, ha, hs⟩
/-- a round's end -/
theorem G.again {E : Act → World → Prop} (h : F = some out → ∀ a w, Ass Γ B n L R a w → E a w) : G Γ B out F n L R (Exit.then E Q .normal) := fun hF a S w ha hs => h hF a w ⟨S, ha, hs⟩
/-- a loop with a fuel of its own: J at k; a round ends at a smaller k -/
theorem wp_loop_fuel {c : Code} {Q : Exit → Act → World → Prop} (J : Nat → Act → World → Prop) (round : ∀ k a w, J k a w → c.wp P (Exit.then (fun a' w' => ∃ k', k' < k ∧ J k' a' w') Q) a w) :
    ∀ {k : Nat} {a : Act} {w : World}, J k a w → (Code.loop c).wp P Q a w := by
  intro k a w h0 b kk cs
  have key : ∀ n a w, J n a w → ∃ e a' w', Q e a' w' ∧ Arrives P (lone (b.at a (.code c :: .inLoop c :: kk)) cs w) b kk cs e a' w' := by
    intro n
    induction n using Nat.strongRecOn with
    | _ n ih =>
      intro a w hI
      obtain ⟨e, a₁, w₁, hq, harr⟩ := round n a w hI b (.inLoop c :: kk) cs
      cases e with
      | normal =>
        obtain ⟨k', hlt, hI₁⟩ := hq
        obtain ⟨e₂, a₂, w₂, hq₂, harr₂⟩ := ih k' hlt a₁ w₁ hI₁
        exact ⟨e₂, a₂, w₂, hq₂, .of_steps (Steps.trans harr (.one step_inLoop)) harr₂⟩
      | exit id => exact ⟨_, a₁, w₁, hq, .pass (x := .inLoop c) rfl (fun _ _ => .inl (by simp)) harr⟩
      | goto l => exact ⟨_, a₁, w₁, hq, .pass (x := .inLoop c) rfl (fun _ _ => .inl (by simp)) harr⟩
      | ret => exact ⟨_, a₁, w₁, hq, .pass (x := .inLoop c) rfl (fun _ _ => .inl (by simp)) harr⟩
      | panic ch => exact ⟨_, a₁, w₁, hq, .pass (x := .inLoop c) rfl (fun _ _ => .inl (by simp)) harr⟩
      | outgrown => exact ⟨_, a₁, w₁, hq, .pass (x := .inLoop c) rfl (fun _ _ => .inl (by simp)) harr⟩
  obtain ⟨e, a', w', hq, harr⟩ := key _ a w h0
  exact ⟨e, a', w', hq, .of_steps (.one step_loop) harr⟩
theorem G.loop {c : Code} (J : Nat → Act → World → Prop) (k : Nat) (h0 : F = some out → ∀ a w, Ass Γ B n L R a w → J k a w) (round : ∀ k a w, J k a w → c.wp P (Exit.then (fun a' w' => ∃ k', k' < k ∧ J k' a' w') Q) a w) :
    G Γ B out F n L R ((Code.loop c).wp P Q) := fun hF a S w ha hs => wp_loop_fuel J round (h0 hF a w ⟨S, ha, hs⟩)

/-! ### operations, one after the other -/
theorem G.op {γ : Type} {dv : γ → D} {R' : γ → List Res} {o : Op} (hd : Nat.blt d n = true) (h1 : Op1 Γ P n L R ⟨some d, o, ty, pos, aft, none⟩ (Q) dv R')
    (h : ∀ x, G Γ B out F n ((d, dv x) :: L) (R' x) (wpList P ops Q rest)) : G Γ B out F n L R (wpList P ops Q (⟨some d, o, ty, pos, aft, none⟩ :: rest)) := fun hF a S w ha hs =>
  wpList_plain rfl fun K hK => h1 B a S w K ha hs fun x v S' w' u hv hs' => hK _ _ (h x hF _ S' w' ((ha.up u).put hd hv) hs')
theorem G.opn {γ : Type} {dv : γ → D} {R' : γ → List Res} {o : Op} (h1 : Op1 Γ P n L R ⟨none, o, ty, pos, aft, none⟩ (Q) dv R')
    (h : ∀ x, G Γ B out F n L (R' x) (wpList P ops Q rest)) : G Γ B out F n L R (wpList P ops Q (⟨none, o, ty, pos, aft, none⟩ :: rest)) := fun hF a S w ha hs =>
  wpList_plain rfl fun K hK => h1 B a S w K ha hs fun x v S' w' u hv hs' => hK _ _ (h x hF _ S' w' (ha.up u) hs')
theorem G.q {dv : D} {o : Op} (hd : Nat.blt d n = true) (h1 : Qv Γ P n L R ⟨some d, o, ty, pos, aft, none⟩ dv)
    (h : G Γ B out F n ((d, dv) :: L) R (wpList P ops Q rest)) : G Γ B out F n L R (wpList P ops Q (⟨some d, o, ty, pos, aft, none⟩ :: rest)) := G.op hd (Op1.q h1) fun _ => h
end

theorem G.p {Γ : List (Nat × D)} {B : Base} {α : Type} {out : α} {F : Option α} {n : Nat} {L : List (Nat × D)} {R : List Res} {P : Program} {Q : Exit → Act → World → Prop} {ops : Array Oper} {rest : List Oper} {ty : TypeId} {pos : String} {aft : Array Edge} {d : Nat} {dv : D} {o : Op} (hd : Nat.blt d n = true) (h1 : Qp Γ P n L ⟨some d, o, ty, pos, aft, none⟩ dv)
    (h : G Γ B out F n ((d, dv) :: L) R (wpList P ops Q rest)) : G Γ B out F n L R (wpList P ops Q (⟨some d, o, ty, pos, aft, none⟩ :: rest)) := G.q hd h1.qv h

/-! ### operands -/
/-- an operand reads as d -/
def Ev (Γ L : List (Nat × D)) (x : Operand) (d : D) : Prop := ∃ d0, ev Γ L x = some d0 ∧ ∀ S w, Wk S w d0 d
theorem Ev.of {Γ L : List (Nat × D)} {x : Operand} {d : D} (h : ev Γ L x = some d) : Ev Γ L x d := ⟨d, h, fun _ _ => Wk.refl⟩
theorem Ev.wk {Γ L : List (Nat × D)} {x : Operand} {d d0 : D} (h : ev Γ L x = some d0) (k : ∀ S w, Wk S w d0 d) : Ev Γ L x d := ⟨d0, h, k⟩
theorem Ev.eq {Γ L : List (Nat × D)} {x : Operand} {d d0 : D} (h : ev Γ L x = some d0) (k : d0 = d) : Ev Γ L x d := ⟨d0, h, fun _ _ => Wk.eq k⟩
theorem Ev.nil {Γ L : List (Nat × D)} {x : Operand} {sz : Nat} {p : Option Addr} (h : ev Γ L x = some (.val (.slice p 0 0))) : Ev Γ L x (.sl sz []) := ⟨_, h, fun _ _ => Wk.nil⟩
inductive Evs (Γ L : List (Nat × D)) : List Operand → List D → Prop
  | nil : Evs Γ L [] []
  | cons {x : Operand} {d : D} {xs : List Operand} {ds : List D} (h : Ev Γ L x d) (t : Evs Γ L xs ds) : Evs Γ L (x :: xs) (d :: ds)
theorem Ev.eval {Γ L : List (Nat × D)} {x : Operand} {d : D} {n : Nat} {S : Nat → Prop} {w : World} {a : Act} (h : Ev Γ L x d) (ha : Fr n S w L a) (hg : Globs Γ S w) : RdV S w d (a.eval x) := by
  obtain ⟨d0, h1, h2⟩ := h
  exact h2 S w _ (ha.eval hg h1)
theorem Evs.eval {Γ L : List (Nat × D)} {n : Nat} {S : Nat → Prop} {w : World} {a : Act} (ha : Fr n S w L a) (hg : Globs Γ S w) : ∀ {xs : List Operand} {ds : List D}, Evs Γ L xs ds → RdVs S w ds (xs.map a.eval)
  | _, _, .nil => by simp [RdVs]
  | _, _, .cons h t => by
    simp only [List.map_cons, RdVs]
    exact ⟨_, _, rfl, h.eval ha hg, Evs.eval ha hg t⟩
theorem Evs.length {Γ L : List (Nat × D)} : ∀ {xs : List Operand} {ds : List D}, Evs Γ L xs ds → xs.length = ds.length
  | _, _, .nil => rfl
  | _, _, .cons _ t => by simp [Evs.length t]
end Go.Proofs.Ythbgngdoihkodac.Hx
