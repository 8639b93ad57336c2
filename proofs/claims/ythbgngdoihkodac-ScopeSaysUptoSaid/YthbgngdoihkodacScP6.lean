/- roadstead: ScopeSays. This text: ScP6. Conditions: none beyond those that the statement itself names. -/
import Derived.Test.YthbgngdoihkodacScP5
namespace Go.Proofs.Ythbgngdoihkodac.Hx
open Go Go.Proofs.Ythbgngdoihkodac.Hx Go.RowKit Go.Proofs

section
variable {α γ : Type}
theorem loop_names {lim : Nat} {F : List α → List Str → Option (γ ⊕ List Str)} {B : α → Option Bool} {b : α → Bool} {nm : α → Str} {v : γ} (h0 : ∀ x, F [] x = some (.inr x))
    (h1 : ∀ y r x, F (y :: r) x = (app lim x [nm y]).bind fun l => (B y).bind fun t => if t = true then some (.inl v) else F r l) :
    ∀ (r : List α) (x : List Str), (∀ y ∈ r, B y = some (b y)) → x.length + r.length ≤ lim → F r x = some (if r.any b = true then .inl v else .inr (x ++ r.map nm))
  | [], x, _, _ => by simp [h0]
  | y :: r, x, hB, hl => by
    simp only [List.length_cons] at hl
    rw [h1, app_ok (by simp; omega)]
    simp only [Option.bind_some]
    rw [hB y (by simp)]
    simp only [Option.bind_some, List.any_cons]
    by_cases h : b y = true
    · simp [h]
    · simp only [h, Bool.false_or, if_neg, Bool.false_eq_true, if_false]
      rw [loop_names h0 h1 r _ (fun y hy => hB y (by simp [hy])) (by simp; omega)]
      simp
theorem loop_any2 {β : Type} {F : List α → Option (γ ⊕ Unit)} {I : α → Option (γ ⊕ Unit)} {b : α → Bool} {v : γ} (h0 : F [] = some (.inr ())) (h1 : ∀ y r, F (y :: r) = (I y).bind (retOr2 fun _ => F r)) :
    ∀ (r : List α), (∀ y ∈ r, I y = some (if b y = true then .inl v else .inr ())) → F r = some (if r.any b = true then .inl v else .inr ())
  | [], _ => by simp [h0]
  | y :: r, hI => by
    rw [h1, hI y (by simp)]
    simp only [Option.bind_some, List.any_cons]
    by_cases h : b y = true
    · simp [h, retOr2]
    · simp only [h, Bool.false_or, if_neg, Bool.false_eq_true, if_false, retOr2]
      exact loop_any2 (β := β) h0 h1 r fun y hy => hI y (by simp [hy])
/-- a loop that ends at the first thing that is found -/
theorem loop_find {F : List α → Option (γ ⊕ Unit)} {I : α → Option (γ ⊕ Unit)} {f : α → Option Int} {v : Int → γ} (h0 : F [] = some (.inr ())) (h1 : ∀ y r, F (y :: r) = (I y).bind (retOr2 fun _ => F r)) :
    ∀ (r : List α), (∀ y ∈ r, I y = some (match f y with | some a => .inl (v a) | none => .inr ())) → F r = some (match r.findSome? f with | some a => .inl (v a) | none => .inr ())
  | [], _ => by simp [h0]
  | y :: r, hI => by
    rw [h1, hI y (by simp)]
    simp only [Option.bind_some, List.findSome?_cons]
    cases h : f y with
    | some a => simp [retOr2]
    | none => simp only [retOr2]; exact loop_find h0 h1 r fun y hy => hI y (by simp [hy])
end
def badF (f : T_Func) : Bool := dup f.fParams || dup f.fNames
def doubledP (p : T_Program) : Bool := p.fDatas.any (fun d => dup d.fParams) || (dup (p.fName :: p.fUses.map T_Use.fName) || dup (p.fDatas.map T_Data.fName) || dup (p.fTraits.map T_Trait.fName) || dup (makers p) || dup (calls p) || dup (actors p))
section
variable (M C A : List Str)
def resF (f : T_Func) : Option Int := bif badF f then some 0 else chk M C A f.fNames f.fBody
def resA (f : T_Actor) : Option Int := bif dup f.fNames then some 0 else chk M C A f.fNames f.fBody
end
def resP (p : T_Program) : Option Int :=
  bif doubledP p then some 0 else bif (p.fTraits.any fun t => t.fFuncs.any badF) then some 0 else
    ((funs p).findSome? (resF (makers p) (calls p) (actors p))).or (p.fActors.findSome? (resA (makers p) (calls p) (actors p)))
def toldP (r : Option Int) : Int × Int := match r with | some a => (11, a) | none => (0, 0)
theorem bad_twice (f : T_Func) : ((scope_Twice f.fParams).bind fun r65 => (if r65 = true then some true else (scope_Twice f.fNames).bind fun r71 => some r71)) = some (badF f) := by
  simp only [twice, Option.bind_some, badF]; cases dup f.fParams <;> rfl
theorem bad_doubled {f : T_Func} (h : f.sz ≤ 1048576) : ((roadref2_doubled f.fParams).bind fun r65 => (if r65 = true then some true else (roadref2_doubled f.fNames).bind fun r71 => some r71)) = some (badF f) := by
  simp only [T_Func.sz] at h
  simp only [doubled f.fParams (by omega), doubled f.fNames (by omega), Option.bind_some, badF]; cases dup f.fParams <;> rfl
theorem func_sz {fs : List T_Func} {f : T_Func} (h : f ∈ fs) : f.sz ≤ (fs.map T_Func.sz).sum := sum_mem (f := T_Func.sz) h
section
variable {p : T_Program}
theorem uses_ok (hp : p.sz ≤ 1048576) : p.fUses.length ≤ 1048576 := by simp only [T_Program.sz] at hp; omega
theorem datas_ok (hp : p.sz ≤ 1048576) : p.fDatas.length ≤ 1048576 := by have := len_sum T_Data.pos p.fDatas; simp only [T_Program.sz] at hp; omega
theorem traits_ok (hp : p.sz ≤ 1048576) : p.fTraits.length ≤ 1048576 := by have := len_sum T_Trait.pos p.fTraits; simp only [T_Program.sz] at hp; omega
theorem sdoubled (hp : p.sz ≤ 1048576) : scope_doubled p = some (doubledP p) := by
  have h1 : scope_doubled.l1 p.fUses [p.fName] = some (p.fName :: p.fUses.map T_Use.fName) := by
    have := loop_app (lim := 8796093022208) (F := scope_doubled.l1) (I := fun y x => app 8796093022208 x [y.fName]) (g := fun y => [y.fName]) (fun _ => rfl) (fun _ _ _ => rfl) p.fUses [p.fName] (fun y _ x h => app_ok h) (by rw [fm1]; have := uses_ok hp; simp only [List.length_cons, List.length_nil, List.length_map]; omega)
    rw [fm1] at this; exact this
  have h2 : scope_doubled.l2 p.fDatas [] = some (if (p.fDatas.any fun d => dup d.fParams) = true then .inl true else .inr (p.fDatas.map T_Data.fName)) :=
    loop_names (lim := 8796093022208) (F := scope_doubled.l2) (B := fun y => scope_Twice y.fParams) (nm := T_Data.fName) (fun _ => rfl) (fun _ _ _ => rfl) p.fDatas [] (fun y _ => twice _) (by have := datas_ok hp; simp only [List.length_nil]; omega)
  have h3 : scope_doubled.l3 p.fTraits [] = some (p.fTraits.map T_Trait.fName) := by
    have := loop_app (lim := 8796093022208) (F := scope_doubled.l3) (I := fun y x => app 8796093022208 x [y.fName]) (g := fun y => [y.fName]) (fun _ => rfl) (fun _ _ _ => rfl) p.fTraits [] (fun y _ x h => app_ok h) (by rw [fm1]; have := traits_ok hp; simp only [List.length_nil, List.length_map]; omega)
    rw [fm1] at this; exact this
  unfold scope_doubled
  simp only [h1, h2, h3, Option.bind_some, twice, scope_makers hp, scope_calls hp, scope_actors hp]
  unfold doubledP
  cases p.fDatas.any fun d => dup d.fParams
  · simp only [cond_false, Bool.false_eq_true, if_false, retOr, Option.bind_some, Bool.false_or]
    cases dup (p.fName :: p.fUses.map T_Use.fName) <;> cases dup (p.fDatas.map T_Data.fName) <;> cases dup (p.fTraits.map T_Trait.fName) <;> cases dup (makers p) <;> cases dup (calls p) <;> rfl
  · rfl
theorem traits_scope : scope_Program.l1 p.fTraits = some (if (p.fTraits.any fun t => t.fFuncs.any badF) = true then .inl ((11 : Int), (0 : Int)) else .inr ()) :=
  loop_any2 (β := Unit) (F := scope_Program.l1) (I := fun y => scope_Program.l2 y.fFuncs) rfl (fun _ _ => rfl) p.fTraits (fun y _ =>
    loop_any (F := scope_Program.l2) (B := fun f => (scope_Twice f.fParams).bind fun r65 => (if r65 = true then some true else (scope_Twice f.fNames).bind fun r71 => some r71)) rfl (fun f r => by rw [scope_Program.l2]; cases scope_Twice f.fParams <;> rfl) y.fFuncs (fun f _ => bad_twice f))
theorem traits_ref (hp : p.sz ≤ 1048576) : roadref2_ScopeOf.l5 p.fTraits = some (if (p.fTraits.any fun t => t.fFuncs.any badF) = true then .inl (T_Wrong.mk 11 0) else .inr ()) :=
  loop_any2 (β := Unit) (F := roadref2_ScopeOf.l5) (I := fun y => roadref2_ScopeOf.l6 y.fFuncs) rfl (fun _ _ => rfl) p.fTraits (fun y hy =>
    loop_any (F := roadref2_ScopeOf.l6) (B := fun f => (roadref2_doubled f.fParams).bind fun r65 => (if r65 = true then some true else (roadref2_doubled f.fNames).bind fun r71 => some r71)) rfl (fun f r => by rw [roadref2_ScopeOf.l6]; cases roadref2_doubled f.fParams <;> rfl) y.fFuncs (fun f hf => bad_doubled (by
      have h1 := trait_sz hy; have h2 := func_sz hf; simp only [T_Trait.sz] at h1; omega)))
section
variable {M C A : List Str} {b0 b1 b2 : List (Str × Bool)} (hM : SetIs b0 M) (hC : SetIs b1 C) (hA : SetIs b2 A)
theorem resolved {k : Nat} (hM : SetIs b0 M) (hC : SetIs b1 C) (hA : SetIs b2 A) (ns : List Str) (e : T_Expr) (hk : 2 * e.sz ≤ k) (h : ns.length + e.sz ≤ 1048577) (hN : e.sz ≤ 1048576) : ∃ b3', scope_resolver_expr_s1 k b0 b1 b2 ns e = some ((toldA (chk M C A ns e)).1, (toldA (chk M C A ns e)).2, b3') ∧ scope_resolver_expr k b0 b1 b2 ns e = some ((toldA (chk M C A ns e)).1, (toldA (chk M C A ns e)).2, b3') := by
  obtain ⟨m, h1, h2⟩ := cnt_add ns [] (fun _ => 0) (fun y => rfl) (fun _ => by omega)
  obtain ⟨b, h3, h4⟩ := visit hM hC hA k m ns e hk hN (by omega) (fun y => by rw [h2 y]; simp)
  refine ⟨b, ?_, ?_⟩
  · unfold scope_resolver_expr_s1
    rw [exps_l1, h1]; simp only [Option.bind_some, h3]
  · unfold scope_resolver_expr
    rw [exp_l1, h1]; simp only [Option.bind_some, h3]
end
theorem scope_program_ok (hp : p.sz ≤ 1048576) {k : Nat} (hk : 2097152 ≤ k) : scope_Program k p = some (toldP (resP p)) := by
  obtain ⟨m, c, a, h0, hM, hC, hA⟩ := newResolver hp
  have h3 : scope_Program.l3 p.fImpls [] = some (p.fImpls.flatMap T_Impl.fFuncs) := by
    have hl := impls_len p
    exact loop_app (lim := 517417236600) (F := scope_Program.l3) (I := fun y x => app 517417236600 x y.fFuncs) (fun _ => rfl) (fun _ _ _ => rfl) p.fImpls [] (fun y _ x h => app_ok h) (by simp only [T_Program.sz] at hp; simp only [List.length_nil]; omega)
  have hfl := funs_len p
  simp only [funs, List.length_append] at hfl
  have h4 : scope_Program.l4 k (m, c, a) (funs p) = some (match (funs p).findSome? (resF (makers p) (calls p) (actors p)) with | some a => .inl ((11 : Int), a) | none => .inr ()) :=
    loop_find (F := scope_Program.l4 k (m, c, a)) (I := fun y => (scope_Twice y.fParams).bind fun r165 => (if r165 = true then some true else (scope_Twice y.fNames).bind fun r171 => some r171).bind fun t169 => (if t169 = true then some (.inl (11, 0)) else (scope_resolver_expr_s1 k m c a y.fNames y.fBody).bind fun r182 => (if r182.2.1 = true then (scope_told r182.1 r182.2.1).bind fun r190 => some (.inl (r190.1, r190.2)) else some (.inr ())))) (v := fun a => ((11 : Int), a)) rfl (fun y r => by
      rw [scope_Program.l4]
      cases scope_Twice y.fParams with
      | none => rfl
      | some t => 
        simp only [Option.bind_some]
        cases (if t = true then some true else (scope_Twice y.fNames).bind fun r171 => some r171) with
        | none => rfl
        | some t =>
          simp only [Option.bind_some]
          cases t with
          | true => rfl
          | false =>
            simp only [cond_false, Bool.false_eq_true, if_false]
            cases scope_resolver_expr_s1 k m c a y.fNames y.fBody with
            | none => rfl
            | some r =>
              simp only [Option.bind_some]
              cases r.2.1 with
              | true => simp only [if_true]; cases scope_told r.1 true <;> rfl
              | false => rfl) (funs p) (fun y hy => by
      have hs := fun_sz hy
      simp only [T_Func.sz] at hs
      obtain ⟨b, h5, _⟩ := resolved (k := k) hM hC hA y.fNames y.fBody (by omega) (by omega) (by omega)
      simp only [twice, Option.bind_some, h5, resF, badF]
      cases dup y.fParams
      · simp only [cond_false, Bool.false_eq_true, if_false, Option.bind_some, Bool.false_or]
        cases dup y.fNames
        · simp only [cond_false, Bool.false_eq_true, if_false]
          cases chk (makers p) (calls p) (actors p) y.fNames y.fBody <;> rfl
        · rfl
      · rfl)
  have h6 : scope_Program.l5 k (m, c, a) p.fActors = some (match p.fActors.findSome? (resA (makers p) (calls p) (actors p)) with | some a => .inl ((11 : Int), a) | none => .inr ()) :=
    loop_find (F := scope_Program.l5 k (m, c, a)) (I := fun y => (scope_Twice y.fNames).bind fun t169 => (if t169 = true then some (.inl (11, 0)) else (scope_resolver_expr_s1 k m c a y.fNames y.fBody).bind fun r182 => (if r182.2.1 = true then (scope_told r182.1 r182.2.1).bind fun r190 => some (.inl (r190.1, r190.2)) else some (.inr ())))) (v := fun a => ((11 : Int), a)) rfl (fun y r => by
      rw [scope_Program.l5]
      cases scope_Twice y.fNames with
      | none => rfl
      | some t => 
        simp only [Option.bind_some]
        cases t with
        | true => rfl
        | false =>
          simp only [cond_false, Bool.false_eq_true, if_false]
          cases scope_resolver_expr_s1 k m c a y.fNames y.fBody with
          | none => rfl
          | some r =>
            simp only [Option.bind_some]
            cases r.2.1 with
            | true => simp only [if_true]; cases scope_told r.1 true <;> rfl
            | false => rfl) p.fActors (fun y hy => by
      have hs := actor_sz hy
      simp only [T_Actor.sz] at hs
      obtain ⟨b, h5, _⟩ := resolved (k := k) hM hC hA y.fNames y.fBody (by omega) (by omega) (by omega)
      simp only [twice, Option.bind_some, h5, resA]
      cases dup y.fNames
      · simp only [cond_false, Bool.false_eq_true, if_false]
        cases chk (makers p) (calls p) (actors p) y.fNames y.fBody <;> rfl
      · rfl)
  unfold scope_Program
  rw [sdoubled hp]
  simp only [Option.bind_some, resP]
  cases doubledP p
  · simp only [cond_false, Bool.false_eq_true, if_false]
    rw [traits_scope]
    simp only [Option.bind_some]
    cases p.fTraits.any fun t => t.fFuncs.any badF
    · simp only [cond_false, Bool.false_eq_true, if_false, retOr, h0, Option.bind_some, h3]
      rw [app_ok (by omega)]
      simp only [Option.bind_some]
      rw [show p.fImpls.flatMap T_Impl.fFuncs ++ p.fFuncs = funs p from rfl, h4]
      simp only [Option.bind_some]
      cases (funs p).findSome? (resF (makers p) (calls p) (actors p)) with
      | some a => rfl
      | none =>
        simp only [retOr, Option.none_or]
        rw [h6]
        cases p.fActors.findSome? (resA (makers p) (calls p) (actors p)) <;> rfl
    · rfl
  · rfl
theorem ref_program_ok (hp : p.sz ≤ 1048576) {k : Nat} (hk : 2097152 ≤ k) : roadref2_ScopeOf k p = some (toldW (resP p)) := by
  have h1 : roadref2_ScopeOf.l1 p.fUses [p.fName] = some (p.fName :: p.fUses.map T_Use.fName) := by
    have := loop_app (lim := 8796093022208) (F := roadref2_ScopeOf.l1) (I := fun y x => app 8796093022208 x [y.fName]) (g := fun y => [y.fName]) (fun _ => rfl) (fun _ _ _ => rfl) p.fUses [p.fName] (fun y _ x h => app_ok h) (by rw [fm1]; have := uses_ok hp; simp only [List.length_cons, List.length_nil, List.length_map]; omega)
    rw [fm1] at this; exact this
  have h2 : roadref2_ScopeOf.l2 p.fDatas [] = some (if (p.fDatas.any fun d => dup d.fParams) = true then .inl (T_Wrong.mk 11 0) else .inr (p.fDatas.map T_Data.fName)) :=
    loop_names (lim := 8796093022208) (F := roadref2_ScopeOf.l2) (B := fun y => roadref2_doubled y.fParams) (nm := T_Data.fName) (fun _ => rfl) (fun _ _ _ => rfl) p.fDatas [] (fun y hy => doubled _ (by have := data_sz hy; simp only [T_Data.sz] at this; omega)) (by have := datas_ok hp; simp only [List.length_nil]; omega)
  have h3 : roadref2_ScopeOf.l3 p.fTraits [] = some (p.fTraits.map T_Trait.fName) := by
    have := loop_app (lim := 8796093022208) (F := roadref2_ScopeOf.l3) (I := fun y x => app 8796093022208 x [y.fName]) (g := fun y => [y.fName]) (fun _ => rfl) (fun _ _ _ => rfl) p.fTraits [] (fun y _ x h => app_ok h) (by rw [fm1]; have := traits_ok hp; simp only [List.length_nil, List.length_map]; omega)
    rw [fm1] at this; exact this
  have hul : (p.fName :: p.fUses.map T_Use.fName).length ≤ 1048576 := by simp only [T_Program.sz] at hp; simp only [List.length_cons, List.length_map]; omega
  have h4 : roadref2_ScopeOf.l4 [p.fName :: p.fUses.map T_Use.fName, p.fDatas.map T_Data.fName, p.fTraits.map T_Trait.fName, makers p, calls p, actors p] =
      some (if ([p.fName :: p.fUses.map T_Use.fName, p.fDatas.map T_Data.fName, p.fTraits.map T_Trait.fName, makers p, calls p, actors p].any dup) = true then .inl (T_Wrong.mk 11 0) else .inr ()) :=
    loop_any (F := roadref2_ScopeOf.l4) (B := roadref2_doubled) rfl (fun _ _ => rfl) _ (fun y hy => doubled y (by
      have := makers_len p; have := calls_len p; have := actors_len p; have := datas_ok hp; have := traits_ok hp
      simp only [List.mem_cons, List.not_mem_nil, or_false] at hy
      rcases hy with rfl | rfl | rfl | rfl | rfl | rfl
      · exact hul
      · simpa using datas_ok hp
      · simpa using traits_ok hp
      all_goals omega))
  have h7 : roadref2_ScopeOf.l7 p k (funs p) = some (match (funs p).findSome? (resF (makers p) (calls p) (actors p)) with | some a => .inl (T_Wrong.mk 11 a) | none => .inr ()) :=
    loop_find (F := roadref2_ScopeOf.l7 p k) (I := fun y => (roadref2_doubled y.fParams).bind fun r165 => (if r165 = true then some true else (roadref2_doubled y.fNames).bind fun r171 => some r171).bind fun t169 => (if t169 = true then some (.inl (T_Wrong.mk 11 0)) else (roadref2_scopeExpr k p y.fNames y.fBody).bind fun r335 => (if (r335.fE != 0) = true then some (.inl r335) else some (.inr ())))) (v := fun a => T_Wrong.mk 11 a) rfl (fun y r => by
      rw [roadref2_ScopeOf.l7]
      cases roadref2_doubled y.fParams with
      | none => rfl
      | some t => 
        simp only [Option.bind_some]
        cases (if t = true then some true else (roadref2_doubled y.fNames).bind fun r171 => some r171) with
        | none => rfl
        | some t =>
          simp only [Option.bind_some]
          cases t with
          | true => rfl
          | false =>
            simp only [cond_false, Bool.false_eq_true, if_false]
            cases roadref2_scopeExpr k p y.fNames y.fBody with
            | none => rfl
            | some r =>
              simp only [Option.bind_some]
              cases r.fE != 0 <;> rfl) (funs p) (fun y hy => by
      have hs := fun_sz hy
      simp only [T_Func.sz] at hs
      have h5 := ref_expr hp k y.fNames y.fBody (by omega) (by omega) (by omega)
      simp only [doubled y.fParams (by omega), doubled y.fNames (by omega), Option.bind_some, h5, resF, badF]
      cases dup y.fParams
      · simp only [cond_false, Bool.false_eq_true, if_false, Option.bind_some, Bool.false_or]
        cases dup y.fNames
        · simp only [cond_false, Bool.false_eq_true, if_false]
          cases chk (makers p) (calls p) (actors p) y.fNames y.fBody <;> rfl
        · rfl
      · rfl)
  have h8 : roadref2_ScopeOf.l8 p k p.fActors = some (match p.fActors.findSome? (resA (makers p) (calls p) (actors p)) with | some a => .inl (T_Wrong.mk 11 a) | none => .inr ()) :=
    loop_find (F := roadref2_ScopeOf.l8 p k) (I := fun y => (roadref2_doubled y.fNames).bind fun t169 => (if t169 = true then some (.inl (T_Wrong.mk 11 0)) else (roadref2_scopeExpr k p y.fNames y.fBody).bind fun r335 => (if (r335.fE != 0) = true then some (.inl r335) else some (.inr ())))) (v := fun a => T_Wrong.mk 11 a) rfl (fun y r => by
      rw [roadref2_ScopeOf.l8]
      cases roadref2_doubled y.fNames with
      | none => rfl
      | some t => 
        simp only [Option.bind_some]
        cases t with
        | true => rfl
        | false =>
          simp only [cond_false, Bool.false_eq_true, if_false]
          cases roadref2_scopeExpr k p y.fNames y.fBody with
          | none => rfl
          | some r =>
            simp only [Option.bind_some]
            cases r.fE != 0 <;> rfl) p.fActors (fun y hy => by
      have hs := actor_sz hy
      simp only [T_Actor.sz] at hs
      have h5 := ref_expr hp k y.fNames y.fBody (by omega) (by omega) (by omega)
      simp only [doubled y.fNames (by omega), Option.bind_some, h5, resA]
      cases dup y.fNames
      · simp only [cond_false, Bool.false_eq_true, if_false]
        cases chk (makers p) (calls p) (actors p) y.fNames y.fBody <;> rfl
      · rfl)
  unfold roadref2_ScopeOf
  rw [h1]; simp only [Option.bind_some]; rw [h2]; simp only [Option.bind_some, resP, doubledP]
  cases p.fDatas.any fun d => dup d.fParams
  · simp only [cond_false, Bool.false_eq_true, if_false, retOr, Bool.false_or]
    rw [h3]; simp only [Option.bind_some, ref_makers hp, ref_calls hp, ref_actors hp]
    rw [h4]
    simp only [Option.bind_some, List.any_cons, List.any_nil, Bool.or_false, Bool.or_assoc]
    cases (dup (p.fName :: p.fUses.map T_Use.fName) || (dup (p.fDatas.map T_Data.fName) || (dup (p.fTraits.map T_Trait.fName) || (dup (makers p) || (dup (calls p) || dup (actors p))))))
    · simp only [cond_false, Bool.false_eq_true, if_false, retOr]
      rw [traits_ref hp]; simp only [Option.bind_some]
      cases p.fTraits.any fun t => t.fFuncs.any badF
      · simp only [cond_false, Bool.false_eq_true, if_false, retOr, ref_funs hp, Option.bind_some, h7]
        cases (funs p).findSome? (resF (makers p) (calls p) (actors p)) with
        | some a => rfl
        | none =>
          simp only [retOr, Option.none_or]
          rw [h8]
          cases p.fActors.findSome? (resA (makers p) (calls p) (actors p)) <;> rfl
      · rfl
    · rfl
  · rfl
end

/-! ### the law -/
theorem equal_l1 : ∀ (xs pre : List Str), slices_Equal_string_string.l1 (pre ++ xs) xs pre.length = some (.inr ())
  | [], pre => rfl
  | x :: xs, pre => by
    rw [slices_Equal_string_string.l1]
    have e : nth (pre ++ x :: xs) (pre.length : Int) = some x := by simp [nth]
    rw [e]
    simp only [Option.bind_some, bne_self_eq_false, Bool.false_eq_true, if_false]
    have := equal_l1 xs (pre ++ [x])
    simpa using this
theorem equal (l : List Str) : slices_Equal_string_string l l = some true := by
  unfold slices_Equal_string_string
  have := equal_l1 l []
  simp only [List.nil_append, List.length_nil] at this
  rw [this]; simp [retOr]
theorem twice_l2 : ∀ (xs pre : List Str), roadlaw2_ScopeSays.l2 (pre ++ xs) xs pre.length (dup pre) = some (dup (pre ++ xs))
  | [], pre => by simp [roadlaw2_ScopeSays.l2]
  | x :: xs, pre => by
    rw [roadlaw2_ScopeSays.l2]
    have e1 : sub (pre ++ x :: xs) 0 (pre.length : Int) = some pre := by simp [sub]; omega
    have e2 : dup (pre ++ [x]) = (dup pre || decide (x ∈ pre)) := by
      have e3 : (pre ++ [x]).Nodup ↔ (pre.Nodup ∧ x ∉ pre) := by
        rw [List.nodup_append]
        constructor
        · rintro ⟨h1, _, h3⟩
          exact ⟨h1, fun h => h3 x h x (by simp) rfl⟩
        · rintro ⟨h1, h2⟩
          refine ⟨h1, by simp, fun a ha b hb he => ?_⟩
          rw [List.mem_singleton] at hb
          subst he hb; exact h2 ha
      simp only [dup]
      by_cases h1 : pre.Nodup <;> by_cases h2 : x ∈ pre <;> simp [h1, h2, e3]
    have ih := twice_l2 xs (pre ++ [x])
    simp only [List.append_assoc, List.singleton_append, List.length_append, List.length_cons, List.length_nil, e2] at ih
    rw [e1]; simp only [Option.bind_some, contains]
    cases h : dup pre
    · simp only [cond_false, Bool.false_eq_true, if_false, Option.bind_some]
      rw [h, Bool.false_or] at ih; exact ih
    · simp only [if_true, Option.bind_some]
      rw [h, Bool.true_or] at ih; exact ih
theorem law_k {k : Nat} (hk : 2097152 ≤ k) (p : T_Program) (l : List Str) (h : p.sz + l.length ≤ 1048576) : roadlaw2_ScopeSays k p l = some true := by
  have hp : p.sz ≤ 1048576 := by omega
  obtain ⟨b, h1⟩ := small_some (k := k) (p := p) (by omega) hp
  unfold roadlaw2_ScopeSays
  rw [h1]; simp only [Option.bind_some]
  cases b
  · rfl
  have hb : roadlaw2_ScopeSays.l1 p l k (bodies p) = some (.inr ()) := by
    have key : ∀ ys : List T_Expr, (∀ y ∈ ys, y ∈ bodies p) → roadlaw2_ScopeSays.l1 p l k ys = some (.inr ()) := by
      intro ys
      induction ys with
      | nil => intro _; rfl
      | cons y ys ih =>
        intro hy
        have hs := body_sz (hy y (by simp))
        obtain ⟨m, c, a, h0, hM, hC, hA⟩ := newResolver hp
        obtain ⟨b3, _, h3⟩ := resolved (k := k) hM hC hA l y (by omega) (by omega) (by omega)
        have h4 := ref_expr hp k l y (by omega) (by omega) (by omega)
        rw [roadlaw2_ScopeSays.l1]
        simp only [scope_Expr, roadref2_ScopeExpr, h0, Option.bind_some, h3, h4, scope_told]
        cases chk (makers p) (calls p) (actors p) l y with
        | none => simp only [toldA, toldW, Bool.false_eq_true, if_false, Option.bind_some, bne_self_eq_false, Bool.or_self]; exact ih fun z hz => hy z (by simp [hz])
        | some a => simp only [toldA, toldW, if_true, Option.bind_some, bne_self_eq_false, Bool.or_self, Bool.false_eq_true, if_false]; exact ih fun z hz => hy z (by simp [hz])
    exact key _ fun y hy => hy
  have ht := twice_l2 l []
  simp only [List.nil_append, List.length_nil] at ht
  rw [show dup ([] : List Str) = false from rfl] at ht
  have he : ((toldP (resP p)).1 != (toldW (resP p)).fE || (toldP (resP p)).2 != (toldW (resP p)).fAt) = false := by cases resP p <;> simp [toldP, toldW]
  simp only [Bool.not_true, Bool.false_eq_true, if_false, scope_program_ok hp hk, ref_program_ok hp hk, Option.bind_some, roadref2_Lists, ref_makers hp, ref_calls hp, ref_actors hp, scope_makers hp, scope_calls hp, scope_actors hp, equal, he, ref_bodies hp, hb, retOr, ht, twice, beq_self_eq_true, if_true]
  rfl
theorem law (p : T_Program) (l : List Str) (h : p.sz + l.length ≤ 1048576) : ∃ k, roadlaw2_ScopeSays k p l = some true := ⟨2097152, law_k (Nat.le_refl _) p l h⟩
end Go.Proofs.Ythbgngdoihkodac.Hx
