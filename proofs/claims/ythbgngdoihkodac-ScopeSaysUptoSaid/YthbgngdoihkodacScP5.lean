/- roadstead: ScopeSays. This text: ScP5. Conditions: none beyond those that the statement itself names. -/
import Derived.Test.YthbgngdoihkodacScP4
namespace Go.Proofs.Ythbgngdoihkodac.Hx
open Go Go.Proofs.Ythbgngdoihkodac.Hx Go.RowKit Go.Proofs

/-! ### the resolver: sets and counts -/
def SetIs (m : List (Str × Bool)) (M : List Str) : Prop := ∀ y, (mget m y).getD false = decide (y ∈ M)
def Cnt (m : List (Str × Int)) (f : Str → Nat) : Prop := ∀ y, (mget m y).getD (0 : Int) = (f y : Int)
theorem set_l1 : ∀ (xs : List Str) (m : List (Str × Bool)) (M : List Str), SetIs m M → ∃ m', scope_set.l1 xs m = some m' ∧ SetIs m' (M ++ xs)
  | [], m, M, h => ⟨m, rfl, by simpa using h⟩
  | x :: xs, m, M, h => by
    obtain ⟨m', h1, h2⟩ := set_l1 xs (mput m x true) (M ++ [x]) (fun y => by
      rw [mget_mput]
      by_cases hxy : x = y
      · subst hxy; simp
      · simp [hxy, h y, Ne.symm hxy])
    exact ⟨m', h1, by simpa using h2⟩
theorem set_ok (xs : List Str) : ∃ m, scope_set xs = some m ∧ SetIs m xs := by
  obtain ⟨m, h1, h2⟩ := set_l1 xs [] [] (fun y => by simp [mget])
  exact ⟨m, by unfold scope_set; rw [h1]; rfl, by simpa using h2⟩
theorem newResolver {p : T_Program} (hp : p.sz ≤ 1048576) : ∃ m c a, scope_newResolver p = some (m, c, a) ∧ SetIs m (makers p) ∧ SetIs c (calls p) ∧ SetIs a (actors p) := by
  obtain ⟨m, h1, h2⟩ := set_ok (makers p)
  obtain ⟨c, h3, h4⟩ := set_ok (calls p)
  obtain ⟨a, h5, h6⟩ := set_ok (actors p)
  exact ⟨m, c, a, by unfold scope_newResolver; simp only [scope_makers hp, scope_calls hp, scope_actors hp, Option.bind_some, h1, h3, h5], h2, h4, h6⟩
section
variable {M C A : List Str} {b0 b1 b2 : List (Str × Bool)}
theorem foreign (hM : SetIs b0 M) : ∀ (k : Nat) (b3 : List (Str × Int)) (p : T_Pat), p.sz ≤ k → scope_resolver_foreign k b0 b1 b2 b3 p = some (p.deep (odd M))
  | 0, b3, p, h => by have := p.sz_pos; omega
  | k + 1, b3, .mk kd n t args, h => by
    simp only [T_Pat.sz] at h
    have h1 := loop_any (F := scope_resolver_foreign.l1 b0 b1 b2 b3 (scope_resolver_foreign k)) (v := true) rfl (fun _ _ => rfl) args (fun y hy => foreign hM k b3 y (by have := szPs_mem hy; omega))
    rw [scope_resolver_foreign_succ]
    unfold scope_resolver_foreign.body
    have e : ∀ q : T_Pat, ((q.fKind == 6) && (!((mget b0 q.fText).getD false))) = odd M q := fun q => by rw [hM]; rfl
    simp only [e, T_Pat.fArgs, h1, Option.bind_some, T_Pat.deep, deeps_eq]
    cases odd M (T_Pat.mk kd n t args) <;> cases args.any (T_Pat.deep (odd M)) <;> rfl
theorem wrong (hM : SetIs b0 M) (hC : SetIs b1 C) (hA : SetIs b2 A) (k : Nat) {b3 : List (Str × Int)} {ns : List Str} (h3 : Cnt b3 fun y => ns.count y) (e : T_Expr) (hk : szAs e.fArms ≤ k) (hN : szAs e.fArms ≤ 1048576) :
    scope_resolver_wrong k b0 b1 b2 b3 e = some (badHead M C A ns e.fKind e.fText e.fNames || e.fArms.any (badArm M)) := by
  have h1 : scope_resolver_wrong.l1 b0 b1 b2 b3 k e.fArms = some (if e.fArms.any (badArm M) = true then .inl true else .inr ()) := by
    refine loop_any (B := fun y => (tree_Bound k y.fPat).bind fun r96 => (scope_Twice r96).bind fun r99 => (if r99 = true then some true else (scope_resolver_foreign k b0 b1 b2 b3 y.fPat).bind fun r105 => some r105)) rfl (fun y r => ?_) e.fArms (fun y hy => ?_)
    · rw [scope_resolver_wrong.l1]
      cases tree_Bound k y.fPat with
      | none => rfl
      | some r => simp only [Option.bind_some]; cases scope_Twice r <;> rfl
    · obtain ⟨p, b⟩ := y
      have := szAs_mem hy
      simp only [T_Arm.sz] at this
      simp only [T_Arm.fPat, bound k p (by omega) (by omega), Option.bind_some, twice, foreign hM k b3 p (by omega), badArm]
      cases dup p.nm <;> rfl
  unfold scope_resolver_wrong
  have e5 : ((mget b3 e.fText).getD (0 : Int) == 0) = !decide (e.fText ∈ ns) := by
    rw [h3]
    by_cases h : e.fText ∈ ns
    · have := List.count_pos_iff.2 h
      simp [h]; omega
    · simp [h, List.count_eq_zero.2 h]
  simp only [e5, hC e.fText, hM e.fText, hA e.fText, twice, Option.bind_some, h1]
  unfold badHead
  have fin : ∀ (b : Bool), (if b = true then some (.inl true : Bool ⊕ Unit) else some (.inr ())).bind (retOr fun b67 => (some (if e.fArms.any (badArm M) = true then .inl true else .inr () : Bool ⊕ Unit)).bind (retOr fun b116 => some false)) = some (b || e.fArms.any (badArm M)) := fun b => by
    cases b <;> cases e.fArms.any (badArm M) <;> rfl
  have fin0 := fin false
  simp only [Bool.false_eq_true, if_false] at fin0
  repeat' split
  all_goals first | exact fin _ | exact fin0 | simp_all [retOr]
end
/-! ### counts -/
theorem cnt_add : ∀ (xs : List Str) (m : List (Str × Int)) (f : Str → Nat), Cnt m f → (∀ y, f y + xs.length ≤ 9007199254740992) → ∃ m', scope_resolver_under.l1 xs m = some m' ∧ Cnt m' fun y => f y + xs.count y
  | [], m, f, h, _ => ⟨m, rfl, by simpa using h⟩
  | x :: xs, m, f, h, hb => by
    have hbx := hb x
    simp only [List.length_cons] at hb hbx
    have e : addI ((mget m x).getD (0 : Int)) 1 = ((f x + 1 : Nat) : Int) := by rw [h x, addI_eq (by omega) (by omega)]; omega
    obtain ⟨m', h1, h2⟩ := cnt_add xs (mput m x ((f x + 1 : Nat) : Int)) (fun y => f y + if x = y then 1 else 0) (fun y => by
      rw [mget_mput]
      by_cases hxy : x = y
      · subst hxy; simp
      · simp [hxy, h y]) (fun y => by have := hb y; split <;> omega)
    refine ⟨m', by rw [scope_resolver_under.l1, e, h1], fun y => ?_⟩
    rw [h2 y]
    dsimp only
    rw [List.count_cons]
    congr 1
    simp only [beq_iff_eq]; omega
theorem cnt_sub : ∀ (xs : List Str) (m : List (Str × Int)) (f : Str → Nat), Cnt m (fun y => f y + xs.count y) → (∀ y, f y + xs.length ≤ 9007199254740992) → ∃ m', scope_resolver_under.l2 xs m = some m' ∧ Cnt m' f
  | [], m, f, h, _ => ⟨m, rfl, by simpa using h⟩
  | x :: xs, m, f, h, hb => by
    have hbx := hb x
    simp only [List.length_cons] at hb hbx
    have hcl : xs.count x ≤ xs.length := List.count_le_length
    have e : subI ((mget m x).getD (0 : Int)) 1 = ((f x + xs.count x : Nat) : Int) := by
      rw [h x]
      dsimp only
      rw [List.count_cons]
      simp only [beq_self_eq_true, if_true]
      rw [subI_eq (by omega) (by omega)]; omega
    obtain ⟨m', h1, h2⟩ := cnt_sub xs (mput m x ((f x + xs.count x : Nat) : Int)) f (fun y => by
      rw [mget_mput]
      by_cases hxy : x = y
      · subst hxy; simp
      · have := h y
        dsimp only at this ⊢
        rw [List.count_cons] at this
        simp [hxy] at this ⊢
        exact this) (fun y => by have := hb y; omega)
    exact ⟨m', by rw [scope_resolver_under.l2, e, h1], h2⟩
theorem exp_l1 : ∀ (xs : List Str) (m : List (Str × Int)), scope_resolver_expr.l1 xs m = scope_resolver_under.l1 xs m
  | [], m => rfl
  | x :: xs, m => by rw [scope_resolver_expr.l1, scope_resolver_under.l1, exp_l1]
theorem exps_l1 : ∀ (xs : List Str) (m : List (Str × Int)), scope_resolver_expr_s1.l1 xs m = scope_resolver_under.l1 xs m
  | [], m => rfl
  | x :: xs, m => by rw [scope_resolver_expr_s1.l1, scope_resolver_under.l1, exps_l1]
def toldA (r : Option Int) : Int × Bool := match r with | some a => (a, true) | none => (0, false)
section
variable {M C A : List Str} {b0 b1 b2 : List (Str × Bool)}
theorem visit (hM : SetIs b0 M) (hC : SetIs b1 C) (hA : SetIs b2 A) : ∀ (k : Nat) (b3 : List (Str × Int)) (ns : List Str) (e : T_Expr), 2 * e.sz ≤ k → e.sz ≤ 1048576 → ns.length + e.sz ≤ 2097152 → Cnt b3 (fun y => ns.count y) →
    ∃ b3', scope_resolver_visit k b0 b1 b2 b3 e = some ((toldA (chk M C A ns e)).1, (toldA (chk M C A ns e)).2, b3') ∧ Cnt b3' fun y => ns.count y
  | 0, _, _, e, hk, _, _, _ => by have := e.sz_pos; omega
  | 1, _, _, e, hk, _, _, _ => by have := e.sz_pos; omega
  | k + 2, b3, ns, .mk kd nu tx nms tys args arms at_, hk, hN, hns, h3 => by
    simp only [T_Expr.sz] at hk hN hns
    have hu : ∀ (b3 : List (Str × Int)) (mo : List Str) (x : T_Expr), 2 * x.sz ≤ k → x.sz ≤ 1048576 → ns.length + mo.length + x.sz ≤ 2097152 → Cnt b3 (fun y => ns.count y) →
        ∃ b3', scope_resolver_under (k + 1) b0 b1 b2 b3 mo x = some ((toldA (chk M C A (ns ++ mo) x)).1, (toldA (chk M C A (ns ++ mo) x)).2, b3') ∧ Cnt b3' fun y => ns.count y := by
      intro b3 mo x hk hN hns h3
      have hcn : ∀ y, ns.count y + mo.length ≤ 9007199254740992 := fun y => by have : ns.count y ≤ ns.length := List.count_le_length; omega
      obtain ⟨m1, h4, h5⟩ := cnt_add mo b3 _ h3 hcn
      obtain ⟨m2, h6, h7⟩ := visit hM hC hA k m1 (ns ++ mo) x hk hN (by rw [List.length_append]; omega) (fun y => by rw [h5 y]; dsimp only; rw [List.count_append])
      obtain ⟨m3, h8, h9⟩ := cnt_sub mo m2 (fun y => ns.count y) (fun y => by rw [h7 y]; dsimp only; rw [List.count_append]) hcn
      refine ⟨m3, ?_, h9⟩
      rw [scope_resolver_under_succ]
      unfold scope_resolver_under.body
      simp only [h4, Option.bind_some, h6, h8]
    have hl1 : ∀ (xs : List T_Expr) (i : Nat) (b3 : List (Str × Int)), szEs xs ≤ szEs args → Cnt b3 (fun y => ns.count y) → ∃ b3', Cnt b3' (fun y => ns.count y) ∧ scope_resolver_visit.l1 b0 b1 b2 (.mk kd nu tx nms tys args arms at_) (scope_resolver_under (k + 1)) xs i b3 =
        some (match chkArgs M C A ns kd tx nms i xs with | some a => .inl (a, true, b3') | none => .inr b3') := by
      intro xs
      induction xs with
      | nil => intro i b3 _ h3; exact ⟨b3, h3, rfl⟩
      | cons x xs ih =>
        intro i b3 h h3
        simp only [szEs] at h
        have hm := more_len kd tx nms i
        obtain ⟨b4, h4, h5⟩ := hu b3 (more kd tx nms i) x (by omega) (by omega) (by omega) h3
        rw [scope_resolver_visit.l1, more_ok]
        simp only [T_Expr.fKind, T_Expr.fText, T_Expr.fNames, Option.bind_some, h4, chkArgs]
        cases hc : chk M C A (ns ++ more kd tx nms i) x with
        | some a => exact ⟨b4, h5, by simp [toldA]⟩
        | none =>
          obtain ⟨b5, h6, h7⟩ := ih (i + 1) b4 (by omega) h5
          exact ⟨b5, h6, by simp only [toldA, Bool.false_eq_true, if_false, Option.none_or]; exact h7⟩
    have hl2 : ∀ (xs : List T_Arm) (b3 : List (Str × Int)), szAs xs ≤ szAs arms → Cnt b3 (fun y => ns.count y) → ∃ b3', Cnt b3' (fun y => ns.count y) ∧ scope_resolver_visit.l2 b0 b1 b2 (k + 1) (scope_resolver_under (k + 1)) xs b3 =
        some (match chkArms M C A ns xs with | some a => .inl (a, true, b3') | none => .inr b3') := by
      intro xs
      induction xs with
      | nil => intro b3 _ h3; exact ⟨b3, h3, rfl⟩
      | cons x xs ih =>
        intro b3 h h3
        obtain ⟨pt, b⟩ := x
        simp only [szAs, T_Arm.sz] at h
        have hnl := pt.nm_len
        obtain ⟨b4, h4, h5⟩ := hu b3 pt.nm b (by omega) (by omega) (by omega) h3
        rw [scope_resolver_visit.l2]
        simp only [T_Arm.fPat, T_Arm.fBody, bound (k + 1) pt (by omega) (by omega), Option.bind_some, h4, chkArms, chkArm]
        cases hc : chk M C A (ns ++ pt.nm) b with
        | some a => exact ⟨b4, h5, by simp [toldA]⟩
        | none =>
          obtain ⟨b5, h6, h7⟩ := ih b4 (by omega) h5
          exact ⟨b5, h6, by simp only [toldA, Bool.false_eq_true, if_false, Option.none_or]; exact h7⟩
    have hw := wrong hM hC hA (k + 1) h3 (.mk kd nu tx nms tys args arms at_) (by simp only [T_Expr.fArms]; omega) (by simp only [T_Expr.fArms]; omega)
    rw [scope_resolver_visit_succ]
    unfold scope_resolver_visit.body
    rw [hw]
    simp only [Option.bind_some, T_Expr.fKind, T_Expr.fText, T_Expr.fNames, T_Expr.fArms, T_Expr.fArgs, T_Expr.fAt, chk]
    split
    · exact ⟨b3, rfl, h3⟩
    · obtain ⟨b4, h5, h4⟩ := hl1 args 0 b3 (Nat.le_refl _) h3
      rw [h4]; simp only [Option.bind_some]
      cases chkArgs M C A ns kd tx nms 0 args with
      | some a => exact ⟨b4, rfl, h5⟩
      | none =>
        obtain ⟨b5, h6, h7⟩ := hl2 arms b4 (Nat.le_refl _) h5
        simp only [retOr, Option.none_or]
        rw [h7]; simp only [Option.bind_some]
        cases chkArms M C A ns arms with
        | some a => exact ⟨b5, rfl, h6⟩
        | none => exact ⟨b5, rfl, h6⟩
end
end Go.Proofs.Ythbgngdoihkodac.Hx
