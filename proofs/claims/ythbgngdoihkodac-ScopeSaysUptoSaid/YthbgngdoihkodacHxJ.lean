/- roadstead: ScopeSays. This text: HxJ. Conditions: none beyond those that the statement itself names. -/
import Derived.Test.YthbgngdoihkodacHxI
namespace Go.Proofs.Ythbgngdoihkodac.Hx
open Go.RowKit
/-- it returns -/
def Rets (R : Value → World → Prop) (e : Ending) (w : World) : Prop := ∃ v, e = .returned v ∧ R v w
/-- what a call comes to: from arguments that read as ds, and what is owned R, to a result that reads as dv, and what is owned R' -/
def Post (Γ : List (Nat × D)) (B : Base) {γ : Type} (dv : γ → D) (R' : γ → List Res) (v : Value) (w' : World) : Prop := ∃ x S', RdV S' w' (dv x) v ∧ Sep Γ B S' w' (R' x)
def Ct (Γ : List (Nat × D)) (P : Program) (f : FuncId) {γ : Type} (ds : List D) (R : List Res) (dv : γ → D) (R' : γ → List Res) : Prop :=
  ∀ S w vs, RdVs S w ds vs → Sep Γ ⟨fps R, S, w⟩ S w R → Calls P f vs.toArray w (Rets (Post Γ ⟨fps R, S, w⟩ dv R'))
section
variable {Γ L : List (Nat × D)} {P : Program} {n : Nat} {R Rp Rr : List Res} {dd : Option Nat} {ty : TypeId} {pos : String} {aft : Array Edge} {Q : Exit → Act → World → Prop} {γ α : Type} {B : Base} {out : α} {F : Option α}
theorem O.call {f : FuncId} {xs : List Operand} {ts : Array TypeId} {ds : List D} {dv : γ → D} {Rq : γ → List Res} {is : List Nat} (hc : Ct Γ P f ds Rp dv Rq) (hx : Evs Γ L xs ds) (hf : ∀ args w, (callFunc f args).run P w = .ok (.enter f args) w) (hp : pull R is = (Rp, Rr)) :
    Op1 Γ P n L R ⟨dd, .call { callee := .value (.func f), args := xs.toArray, argTypes := ts }, ty, pos, aft, none⟩ Q dv (fun x => Rq x ++ Rr) := fun B a S w K ha hs hK => by
  have he := hx.eval ha hs.glob
  have hrun : (execOp a.eval ⟨dd, .call { callee := .value (.func f), args := xs.toArray, argTypes := ts }, ty, pos, aft, none⟩).run P w = .ok (.enter f (xs.map a.eval).toArray) w := by
    simp [execOp, resolve, Deferred.ofValue, Act.eval, invoke, hf]
  have hpp := pull_perm is R
  rw [hp] at hpp
  have hs1 : Sep Γ B S w (Rp ++ Rr) := hs.perm hpp.symm
  show Oper.wp _ _ _ _ _ _
  unfold Oper.wp
  rw [hrun, Oper.upon_enter]
  refine (hc S w _ he hs1.left.rebase).mono fun e w' hr => ?_
  obtain ⟨v, rfl, x, S', hv, hs'⟩ := hr
  refine hK x v S' w' ?_ hv (hs1.frame hs')
  refine hs'.up.mono (fun m hm => ?_) hs.apart
  exact (fps_perm hpp).mem_iff.1 (by rw [fps_append]; exact List.mem_append.2 (.inl hm))
/-- a call of a function value -/
theorem O.callv {f : FuncId} {c : Operand} {cap : List Value} {xs : List Operand} {ts : Array TypeId} {ds : List D} {dv : γ → D} {Rq : γ → List Res} {is : List Nat} (hc : Ct Γ P f (ds ++ cap.map .val) Rp dv Rq) (hcl : ev Γ L c = some (.val (.func (.func f) #[] cap.toArray))) (hx : Evs Γ L xs ds) (hf : ∀ args w, (callFunc f args).run P w = .ok (.enter f args) w) (hp : pull R is = (Rp, Rr)) :
    Op1 Γ P n L R ⟨dd, .call { callee := .value c, args := xs.toArray, argTypes := ts }, ty, pos, aft, none⟩ Q dv (fun x => Rq x ++ Rr) := fun B a S w K ha hs hK => by
  have he := hx.eval ha hs.glob
  have hcv : a.eval c = .func (.func f) #[] cap.toArray := ev_val ha hs.glob hcl
  have hrun : (execOp a.eval ⟨dd, .call { callee := .value c, args := xs.toArray, argTypes := ts }, ty, pos, aft, none⟩).run P w = .ok (.enter f (xs.map a.eval ++ cap).toArray) w := by
    simp [execOp, resolve, Deferred.ofValue, hcv, invoke, hf]
  have hpp := pull_perm is R
  rw [hp] at hpp
  have hs1 : Sep Γ B S w (Rp ++ Rr) := hs.perm hpp.symm
  have happ : ∀ {ds : List D} {vs : List Value}, RdVs S w ds vs → RdVs S w (ds ++ cap.map .val) (vs ++ cap) := by
    intro ds
    induction ds with
    | nil =>
      intro vs h; simp only [RdVs] at h; subst h
      simp only [List.nil_append]
      clear hcv hrun hcl hc
      induction cap with
      | nil => simp [RdVs]
      | cons v cap ih => simp only [List.map_cons, RdVs]; exact ⟨v, cap, rfl, RdV.val.2 rfl, ih⟩
    | cons d ds ih =>
      intro vs h
      simp only [RdVs, List.cons_append] at h ⊢
      obtain ⟨v, vs', rfl, h1, h2⟩ := h
      exact ⟨v, vs' ++ cap, rfl, h1, ih h2⟩
  show Oper.wp _ _ _ _ _ _
  unfold Oper.wp
  rw [hrun, Oper.upon_enter]
  refine (hc S w _ (happ he) hs1.left.rebase).mono fun e w' hr => ?_
  obtain ⟨v, rfl, x, S', hv, hs'⟩ := hr
  refine hK x v S' w' ?_ hv (hs1.frame hs')
  refine hs'.up.mono (fun m hm => ?_) hs.apart
  exact (fps_perm hpp).mem_iff.1 (by rw [fps_append]; exact List.mem_append.2 (.inl hm))
theorem V.makeFunc {fn : Fn} {xs : List Operand} {cap : List Value} (hx : Evs Γ L xs (cap.map .val)) : Qp Γ P n L ⟨dd, .makeFunc fn #[] xs.toArray, ty, pos, aft, none⟩ (.val (.func fn #[] cap.toArray)) := fun S w a ha hg => by
  have he := hx.eval ha hg
  have key : ∀ {cap vs : List Value}, RdVs S w (cap.map .val) vs → vs = cap := by
    intro cap
    induction cap with
    | nil => intro vs h; simpa [RdVs] using h
    | cons v cap ih =>
      intro vs h
      simp only [List.map_cons, RdVs] at h
      obtain ⟨u, vs', rfl, h1, h2⟩ := h
      rw [RdV.val.1 h1, ih h2]
  refine ⟨_, RdV.val.2 rfl, fun w' => ?_⟩
  simp only [execOp]
  have := key he
  exact run_value_of (by simp [Instr.makeFunc, this])
/-- a function's contract, by its code -/
theorem ct_of_G {f : FuncId} {fn : Func} {c : Code} {ds : List D} {dv : γ → D} {R' : γ → List Res} {nt : Nat} (hf : P.funcs[f]? = some fn) (hb : fn.body = some c) (hn : fn.ntmps = nt) (hl : Nat.ble ds.length nt = true)
    (h : ∀ B : Base, G Γ B out F nt (args0 0 ds) R (c.wp P (bodyPost P fn (Rets (Post Γ B dv R'))))) (hF : F = some out) : Ct Γ P f ds R dv R' := fun S w vs hv hs =>
  calls_of_wp hf hb (h _ hF _ S w (by subst hn; exact Fr.enter _ hv (Nat.le_of_ble_eq_true hl)) hs)

/-! ### the end of a function -/
theorem G.ret0 {fn : Func} {dv : γ → D} {R' : γ → List Res} (hres : fn.results = #[]) (x : γ) {is : List Nat} (hd : (dv x) = .tup []) (hR : (pull R is).1 = R' x) : G Γ B out F n L R (bodyPost P fn (Rets (Post Γ B dv R')) .ret) := fun hF a S w ha hs => by
  refine bodyPost_ret (v := .tuple #[]) (by simp [results, hres]) ha.defers ⟨_, rfl, x, S, ?_, hR ▸ (hs.perm (pull_perm is R).symm).left⟩
  rw [hd]; simp only [RdV, RdVs]; exact ⟨[], rfl, rfl⟩
theorem G.ret1 {fn : Func} {dv : γ → D} {R' : γ → List Res} {t : Nat} (hres : fn.results = #[.tmp t]) (x : γ) {is : List Nat} (hx : Ev Γ L (.tmp t) (dv x)) (hR : (pull R is).1 = R' x) : G Γ B out F n L R (bodyPost P fn (Rets (Post Γ B dv R')) .ret) := fun hF a S w ha hs => by
  have hv := hx.eval ha hs.glob
  refine bodyPost_ret (results_tmp hres a.tmps P w) ha.defers ⟨_, rfl, x, S, ?_, hR ▸ (hs.perm (pull_perm is R).symm).left⟩
  simpa [Act.eval] using hv
theorem G.retc {fn : Func} {dv : γ → D} {R' : γ → List Res} {p g i sz : Nat} {t : TypeId} {ds : List D} (hres : fn.results = #[.cell p t]) (x : γ) {is : List Nat} (hx : look L p = some (.val (.pointer (some ⟨g, 0, none⟩)))) (hi : R[i]? = some (.cells g t ds)) (hA : Ag P t true) (hS : Sz P t sz) (hl : ds.length = sz) (hd : dv x = .agg ds) (hR : (pull R is).1 = R' x) : G Γ B out F n L R (bodyPost P fn (Rets (Post Γ B dv R')) .ret) := fun hF a S w ha hs => by
  obtain ⟨u, h1, h2⟩ := ha.at_ _ _ hx
  rw [RdV.val] at h2; subst h2
  obtain ⟨cs, hb, hc⟩ := hs.ok _ (List.mem_of_getElem? hi)
  have hlen := hc.length
  subst hl
  refine bodyPost_ret (v := .agg cs.toArray) ?_ ha.defers ⟨_, rfl, x, S, ?_, hR ▸ (hs.perm (pull_perm is R).symm).left⟩
  · simp only [results, hres, h1, Array.getD_eq_getD_getElem?, Option.getD_some]
    have := run_loadVar_agg (P := P) (w := w) hA (hlen ▸ hS) (Cs.of_block hb)
    simp [this, h1, asAddr]
  · rw [hd]; simp only [RdV]; exact ⟨cs, rfl, hc⟩
theorem G.ret2 {fn : Func} {dv : γ → D} {R' : γ → List Res} {t u : Nat} (hres : fn.results = #[.tmp t, .tmp u]) (x : γ) {is : List Nat} {d1 d2 : D} (hd : dv x = .tup [d1, d2]) (hx : Ev Γ L (.tmp t) d1) (hy : Ev Γ L (.tmp u) d2) (hR : (pull R is).1 = R' x) : G Γ B out F n L R (bodyPost P fn (Rets (Post Γ B dv R')) .ret) := fun hF a S w ha hs => by
  have h1 := hx.eval ha hs.glob
  have h2 := hy.eval ha hs.glob
  refine bodyPost_ret (results_tmp2 hres a.tmps P w) ha.defers ⟨_, rfl, x, S, ?_, hR ▸ (hs.perm (pull_perm is R).symm).left⟩
  rw [hd]; simp only [RdV, RdVs]
  exact ⟨[_, _], rfl, _, _, rfl, by simpa [Act.eval] using h1, _, _, rfl, by simpa [Act.eval] using h2, rfl⟩
theorem G.ret3 {fn : Func} {dv : γ → D} {R' : γ → List Res} {t u s : Nat} (hres : fn.results = #[.tmp t, .tmp u, .tmp s]) (x : γ) {is : List Nat} {d1 d2 d3 : D} (hd : dv x = .tup [d1, d2, d3]) (hx : Ev Γ L (.tmp t) d1) (hy : Ev Γ L (.tmp u) d2) (hz : Ev Γ L (.tmp s) d3) (hR : (pull R is).1 = R' x) : G Γ B out F n L R (bodyPost P fn (Rets (Post Γ B dv R')) .ret) := fun hF a S w ha hs => by
  have h1 := hx.eval ha hs.glob
  have h2 := hy.eval ha hs.glob
  have h3 := hz.eval ha hs.glob
  simp only [Act.eval] at h1 h2 h3
  refine bodyPost_ret (v := .tuple [a.tmps.getD t undef, a.tmps.getD u undef, a.tmps.getD s undef].toArray) ?_ ha.defers ⟨_, rfl, x, S, ?_, hR ▸ (hs.perm (pull_perm is R).symm).left⟩
  · simp [results, hres]
  · rw [hd]; simp only [RdV, RdVs]
    exact ⟨[_, _, _], rfl, _, _, rfl, h1, _, _, rfl, h2, _, _, rfl, h3, rfl⟩

/-! ### guards -/
variable {ops : Array Oper} {rest : List Oper} {d : Nat}
theorem yielded_of {a : Act} {gi dg : Nat} {b : Bool} (ho : (ops[gi]?).bind (·.dst) = some dg) (hv : a.tmps[dg]? = some (.bool b)) : yielded ops a.tmps gi = some b := by
  simp [yielded, ho, hv]
theorem look_bool {S : Nat → Prop} {w : World} {a : Act} {dg : Nat} {c : Bool} (ha : Fr n S w L a) (hv : look L dg = some (.val (.bool c))) : a.tmps[dg]? = some (.bool c) := by
  obtain ⟨u, h1, h2⟩ := ha.at_ _ _ hv
  rw [RdV.val] at h2; subst h2; exact h1
theorem G.guard_yes {o : Op} {dst : Option Nat} {gi dg : Nat} {b c : Bool} (ho : (ops[gi]?).bind (·.dst) = some dg) (hv : look L dg = some (.val (.bool c))) (hc : c = b)
    (h : G Γ B out F n L R (wpList P ops Q (⟨dst, o, ty, pos, aft, none⟩ :: rest))) : G Γ B out F n L R (wpList P ops Q (⟨dst, o, ty, pos, aft, some (gi, b)⟩ :: rest)) := fun hF a S w ha hs => by
  have h1 := h hF a S w ha hs
  have hy : yielded ops a.tmps gi = some b := yielded_of ho (by rw [← hc]; exact look_bool ha hv)
  unfold wpList at h1 ⊢
  simp only [Region.wanted, if_true] at h1
  have : Region.wanted ⟨dst, o, ty, pos, aft, some (gi, b)⟩ (yielded ops a.tmps) = true := by simp [Region.wanted, hy]
  rw [if_pos this]
  exact h1
theorem G.skip_s {o : Op} {gi dg : Nat} {b c : Bool} (ho : (ops[gi]?).bind (·.dst) = some dg) (hv : look L dg = some (.val (.bool c))) (hc : c = !b) (hd : Nat.blt d n = true)
    (h : G Γ B out F n ((d, .val undef) :: L) R (wpList P ops Q rest)) : G Γ B out F n L R (wpList P ops Q (⟨some d, o, ty, pos, aft, some (gi, b)⟩ :: rest)) := fun hF a S w ha hs => by
  have hy : yielded ops a.tmps gi = some c := yielded_of ho (look_bool ha hv)
  unfold wpList
  have : ¬ Region.wanted ⟨some d, o, ty, pos, aft, some (gi, b)⟩ (yielded ops a.tmps) = true := by subst hc; cases b <;> simp [Region.wanted, hy]
  rw [if_neg this]
  exact h hF _ S w (ha.put hd (RdV.val.2 rfl)) hs
theorem G.skip_n {o : Op} {gi dg : Nat} {b c : Bool} (ho : (ops[gi]?).bind (·.dst) = some dg) (hv : look L dg = some (.val (.bool c))) (hc : c = !b)
    (h : G Γ B out F n L R (wpList P ops Q rest)) : G Γ B out F n L R (wpList P ops Q (⟨none, o, ty, pos, aft, some (gi, b)⟩ :: rest)) := fun hF a S w ha hs => by
  have hy : yielded ops a.tmps gi = some c := yielded_of ho (look_bool ha hv)
  unfold wpList
  have : ¬ Region.wanted ⟨none, o, ty, pos, aft, some (gi, b)⟩ (yielded ops a.tmps) = true := by subst hc; cases b <;> simp [Region.wanted, hy]
  rw [if_neg this]
  exact h hF _ S w ha hs
theorem G.skip_u {o : Op} {gi dg : Nat} {b : Bool} (ho : (ops[gi]?).bind (·.dst) = some dg) (hv : look L dg = some (.val undef)) (hd : Nat.blt d n = true)
    (h : G Γ B out F n ((d, .val undef) :: L) R (wpList P ops Q rest)) : G Γ B out F n L R (wpList P ops Q (⟨some d, o, ty, pos, aft, some (gi, b)⟩ :: rest)) := fun hF a S w ha hs => by
  obtain ⟨u, h1, h2⟩ := ha.at_ _ _ hv
  rw [RdV.val] at h2; subst h2
  have hy : yielded ops a.tmps gi = none := by
    simp only [yielded, ho, Option.bind_some, h1]
    simp [undef]
  unfold wpList
  have : ¬ Region.wanted ⟨some d, o, ty, pos, aft, some (gi, b)⟩ (yielded ops a.tmps) = true := by simp [Region.wanted, hy]
  rw [if_neg this]
  exact h hF _ S w (ha.put hd (RdV.val.2 rfl)) hs
theorem G.byb {c : Bool} {C : Act → World → Prop} (h1 : c = true → G Γ B out F n L R C) (h2 : c = false → G Γ B out F n L R C) : G Γ B out F n L R C := by
  cases hc : c
  · exact h2 hc
  · exact h1 hc
theorem G.ifb {c : Bool} {F1 F2 : Option α} {C : Act → World → Prop} (h1 : c = true → G Γ B out F1 n L R C) (h2 : c = false → G Γ B out F2 n L R C) : G Γ B out (if c = true then F1 else F2) n L R C := by
  cases c
  · simpa using h2 rfl
  · simpa using h1 rfl
theorem wpList_split : ∀ (k : Nat) (l : List Oper) (a : Act) (w : World), wpList P ops (Exit.then (wpList P ops Q (l.drop k)) Q) (l.take k) a w → wpList P ops Q l a w
  | 0, l, a, w, h => by simpa [wpList, Exit.then] using h
  | k + 1, [], a, w, h => by simpa [wpList, Exit.then] using h
  | k + 1, o :: l, a, w, h => by
    simp only [List.take_succ_cons, List.drop_succ_cons] at h
    unfold wpList at h ⊢
    split
    · rename_i hw
      rw [if_pos hw] at h
      rcases h with h | ⟨h, a0, w0, hq⟩
      · refine .inl (?_ : o.wp P a w (wpList P ops Q l) Q)
        have h2 := Oper.wp_mono (Q := Exit.then (wpList P ops Q (l.drop k)) Q) (fun a w => wpList_split k l a w) h
        unfold Oper.wp at h2 ⊢
        generalize (execOp a.eval o).run P w = r at h2 ⊢
        cases r with
        | ok nx w' =>
          cases nx <;> simp only [Oper.upon] at h2 ⊢ <;> first
            | exact h2
            | (refine h2.mono fun e w'' he => ?_
               cases e with
               | returned v => exact he
               | panicked c => exact he
               | outgrown => obtain ⟨a1, w1, h3⟩ := he; exact ⟨a1, w1, h3⟩)
        | halt x w' => cases x <;> simp only [Oper.upon] at h2 ⊢ <;> exact h2
      · exact .inr ⟨h, a0, w0, hq⟩
    · rename_i hw
      rw [if_neg hw] at h
      exact wpList_split k l _ _ h
theorem wpList_weaken {J K : Act → World → Prop} (hJ : ∀ a w, J a w → K a w) : ∀ (l : List Oper) {a : Act} {w : World}, wpList P ops (Exit.then J Q) l a w → wpList P ops (Exit.then K Q) l a w
  | [], a, w, h => hJ a w h
  | o :: l, a, w, h => by
    unfold wpList at h ⊢
    split
    · rename_i hw
      rw [if_pos hw] at h
      rcases h with h | ⟨h, a0, w0, hq⟩
      · refine .inl ?_
        have h2 := Oper.wp_mono (Q := Exit.then J Q) (fun a w => wpList_weaken hJ l (a := a) (w := w)) h
        unfold Oper.wp at h2 ⊢
        generalize (execOp a.eval o).run P w = r at h2 ⊢
        cases r with
        | ok nx w' =>
          cases nx <;> simp only [Oper.upon] at h2 ⊢ <;> first
            | exact h2
            | (refine h2.mono fun e w'' he => ?_
               cases e with
               | returned v => exact he
               | panicked c => exact he
               | outgrown => obtain ⟨a1, w1, h3⟩ := he; exact ⟨a1, w1, h3⟩)
        | halt x w' => cases x <;> simp only [Oper.upon] at h2 ⊢ <;> exact h2
      · exact .inr ⟨h, a0, w0, hq⟩
    · rename_i hw
      rw [if_neg hw] at h
      exact wpList_weaken hJ l h
/-- the first k operations come to some b, of which J tells; on with what follows -/
theorem G.part {β : Type} {F1 : Option β} {F2 : β → Option α} (k : Nat) {l : List Oper} (J : β → Act → World → Prop) (h1 : ∀ b, G Γ B b F1 n L R (wpList P ops (Exit.then (J b) Q) (l.take k)))
    (h2 : ∀ b, F1 = some b → ∀ a w', J b a w' → F2 b = some out → wpList P ops Q (l.drop k) a w') : G Γ B out (F1.bind F2) n L R (wpList P ops Q l) :=
  fun hF a S w ha hs => by
    cases hr : F1 with
    | none => rw [hr] at hF; cases hF
    | some b =>
      rw [hr] at hF
      refine wpList_split k l a w ?_
      exact wpList_weaken (fun a w hj => h2 b hr a w hj hF) _ (h1 b hr a S w ha hs)
/-- the same of a part that cannot fail -/
theorem G.cut (k : Nat) {l : List Oper} (J : Act → World → Prop) (h1 : G Γ B () (some ()) n L R (wpList P ops (Exit.then J Q) (l.take k)))
    (h2 : ∀ a w', J a w' → F = some out → wpList P ops Q (l.drop k) a w') : G Γ B out F n L R (wpList P ops Q l) := fun hF a S w ha hs =>
  wpList_split k l a w (wpList_weaken (fun a w hj => h2 a w hj hF) _ (h1 rfl a S w ha hs))
theorem G.inr {β : Type} {f : β → Option α} {b : β} {C : Act → World → Prop} (h : G Γ B out (f b) n L R C) : G Γ B out (retOr f (.inr b)) n L R C := h
theorem G.inr2 {r β δ : Type} {out : r ⊕ δ} {f : β → Option (r ⊕ δ)} {b : β} {C : Act → World → Prop} (h : G Γ B out (f b) n L R C) : G Γ B out (retOr2 f (.inr b)) n L R C := h
end
end Go.Proofs.Ythbgngdoihkodac.Hx
