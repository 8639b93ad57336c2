/- roadstead: ScopeSays. This text: ScP4. Conditions: none beyond those that the statement itself names. -/
import Derived.Test.YthbgngdoihkodacScP3
namespace Go.Proofs.Ythbgngdoihkodac.Hx
open Go Go.Proofs.Ythbgngdoihkodac.Hx Go.RowKit Go.Proofs

/-! ### what is wrong with an expression -/
def more (kd : Int) (tx : Str) (nms : List Str) (i : Nat) : List Str := if ((kd == 6) && ((i : Int) == 1)) = true then [tx] else if (kd == 10) = true then nms else []
theorem more_len (kd : Int) (tx : Str) (nms : List Str) (i : Nat) : (more kd tx nms i).length ≤ nms.length + 1 := by
  unfold more; split
  · simp
  · split <;> simp
section
variable (M C A : List Str)
def odd (q : T_Pat) : Bool := (q.fKind == 6) && !(decide (q.fText ∈ M))
def badArm (a : T_Arm) : Bool := dup a.fPat.nm || a.fPat.deep (odd M)
def badHead (ns : List Str) (kd : Int) (tx : Str) (nms : List Str) : Bool :=
  if (kd == 5) = true then !decide (tx ∈ ns) else if (kd == 9) = true then !decide (tx ∈ C) else if (kd == 12) = true then !decide (tx ∈ M) else if (kd == 14) = true then !decide (tx ∈ A) else if (kd == 10) = true then dup nms else false
mutual
def chk (ns : List Str) : T_Expr → Option Int
  | .mk kd nu tx nms tys args arms at_ => if (badHead M C A ns kd tx nms || arms.any (badArm M)) = true then some at_ else (chkArgs ns kd tx nms 0 args).or (chkArms ns arms)
def chkArm (ns : List Str) : T_Arm → Option Int
  | .mk p b => chk (ns ++ p.nm) b
def chkArgs (ns : List Str) (kd : Int) (tx : Str) (nms : List Str) (i : Nat) : List T_Expr → Option Int
  | [] => none
  | x :: xs => (chk (ns ++ more kd tx nms i) x).or (chkArgs ns kd tx nms (i + 1) xs)
def chkArms (ns : List Str) : List T_Arm → Option Int
  | [] => none
  | x :: xs => (chkArm ns x).or (chkArms ns xs)
end
end

/-! ### the reference -/
theorem contains_l1 (b1 : Str) : ∀ (l : List Str) (i : Nat), slices_Index_string_string.l1 b1 l i = some (if b1 ∈ l then .inl ((i + l.idxOf b1 : Nat) : Int) else .inr ())
  | [], i => by simp [slices_Index_string_string.l1]
  | y :: l, i => by
    rw [slices_Index_string_string.l1]
    by_cases h : b1 = y
    · subst h; simp
    · have h2 : (b1 == y) = false := by simpa using h
      rw [h2, contains_l1 b1 l (i + 1)]
      by_cases h3 : b1 ∈ l
      · simp only [h3, if_true, List.mem_cons, or_true, Bool.false_eq_true, if_false]
        rw [List.idxOf_cons, show (y == b1) = false by simpa using Ne.symm h]
        simp only [cond_false]
        congr 3; omega
      · simp [h3, h]
theorem contains (l : List Str) (x : Str) : slices_Contains_string_string l x = some (decide (x ∈ l)) := by
  unfold slices_Contains_string_string slices_Index_string_string
  rw [contains_l1]
  by_cases h : x ∈ l
  · simp [h, retOr]
  · simp [h, retOr]
theorem concat2 (a b : List Str) (h : a.length + b.length ≤ 4194304) : slices_Concat_string_string [a, b] = some (a ++ b) := by
  have e1 : addI 0 (a.length : Int) = (a.length : Int) := by rw [addI_eq (by omega) (by omega)]; omega
  have e2 : addI (a.length : Int) (b.length : Int) = ((a.length + b.length : Nat) : Int) := by rw [addI_eq (by omega) (by omega)]; omega
  have h1 : slices_Concat_string_string.l1 [a, b] 0 = some ((a.length + b.length : Nat) : Int) := by
    simp only [slices_Concat_string_string.l1, e1, e2]
    rw [if_neg (by simp), if_neg (by simp; omega)]
  have h2 : slices_Concat_string_string.l2 [a, b] [] = some (a ++ b) := by
    have := loop_app (lim := 8796093022208) (F := slices_Concat_string_string.l2) (I := fun y x => app 8796093022208 x y) (g := fun y => y) (fun _ => rfl) (fun _ _ _ => rfl) [a, b] [] (fun y _ x h => app_ok h) (by simp; omega)
    rw [this]; simp
  unfold slices_Concat_string_string
  rw [h1]
  simp only [Option.bind_some, slices_Grow_string_string]
  rw [show growF 8796093022208 ([] : List Str) ((a.length + b.length : Nat) : Int) = some [] by unfold growF; rw [if_pos ⟨rfl, by omega, by omega⟩]]
  simp only [Option.bind_some]
  rw [h2]; rfl
def toldW (r : Option Int) : T_Wrong := match r with | some a => T_Wrong.mk 11 a | none => T_Wrong.mk 0 0
theorem toldW_bad {a : Int} : ((toldW (some a)).fE != 0) = true := rfl
theorem toldW_ok : ((toldW none).fE != 0) = false := rfl
section
variable {p : T_Program}
theorem ref_l2 (hp : p.sz ≤ 1048576) : ∀ (qs : List T_Pat) (b : Bool), roadref2_scopeExpr.l2 p qs b = some (b || qs.any (odd (makers p)))
  | [], b => by simp [roadref2_scopeExpr.l2]
  | q :: qs, b => by
    rw [roadref2_scopeExpr.l2, ref_makers hp]
    simp only [Option.bind_some, contains]
    have e : (if b = true then some true else (if (q.fKind == 6) = true then some (!decide (q.fText ∈ makers p)) else some false)) = some (b || odd (makers p) q) := by
      cases b
      · simp only [Bool.false_eq_true, if_false, Bool.false_or, odd]
        by_cases h : (q.fKind == 6) = true <;> simp [h]
      · rfl
    cases b with
    | true => simp only [if_true, Option.bind_some]; rw [ref_l2 hp qs true]; simp
    | false =>
      simp only [Bool.false_eq_true, if_false, Bool.false_or] at e ⊢
      by_cases h : (q.fKind == 6) = true
      · simp only [h, if_true, Option.bind_some] at e ⊢
        rw [ref_l2 hp qs]
        simp only [Option.some.injEq] at e
        rw [e]; simp
      · simp only [h, if_false, Option.bind_some, Bool.false_eq_true] at e ⊢
        rw [ref_l2 hp qs]
        simp only [Option.some.injEq] at e
        simp [← e]
theorem ref_l1 (hp : p.sz ≤ 1048576) (k : Nat) : ∀ (l : List T_Arm) (b : Bool), szAs l < k → szAs l ≤ 1048576 → roadref2_scopeExpr.l1 p k l b = some (b || l.any (badArm (makers p)))
  | [], b, _, _ => by simp [roadref2_scopeExpr.l1]
  | .mk pt e :: l, b, hk, hN => by
    simp only [szAs, T_Arm.sz] at hk hN
    obtain ⟨qs, h1, h2, _⟩ := pats (odd (makers p)) (k := k) (p := pt) (by omega) (by omega)
    have hnl := pt.nm_len
    rw [roadref2_scopeExpr.l1]
    simp only [T_Arm.fPat, namesOf k pt (by omega) (by omega), Option.bind_some, doubled pt.nm (by omega), h1, ref_l2 hp]
    have e1 : (if b = true then some true else some (dup pt.nm)) = some (b || dup pt.nm) := by cases b <;> rfl
    rw [e1]; simp only [Option.bind_some, h2]
    rw [ref_l1 hp k l _ (by omega) (by omega)]
    simp [badArm, T_Arm.fPat, Bool.or_assoc]
theorem more_ok (e : T_Expr) (i : Nat) : (if ((e.fKind == 6) && ((i : Int) == 1)) = true then some ([e.fText] : List Str) else (if (e.fKind == 10) = true then some e.fNames else some ([] : List Str))) = some (more e.fKind e.fText e.fNames i) := by
  unfold more; split
  · rfl
  · split <;> rfl
theorem head_ok (hp : p.sz ≤ 1048576) (b1 : List Str) (b2 : T_Expr) (hl : b2.fNames.length ≤ 1048576) : (if (b2.fKind == 5) = true then (slices_Contains_string_string b1 b2.fText).bind fun r16 => some (!r16) else (if (b2.fKind == 9) = true then (roadref2_callsOf p).bind fun r22 => (slices_Contains_string_string r22 b2.fText).bind fun r25 => some (!r25) else (if (b2.fKind == 12) = true then (roadref2_makersOf p).bind fun r39 => (slices_Contains_string_string r39 b2.fText).bind fun r42 => some (!r42) else (if (b2.fKind == 14) = true then (roadref2_actorsOf p).bind fun r56 => (slices_Contains_string_string r56 b2.fText).bind fun r59 => some (!r59) else (if (b2.fKind == 10) = true then (roadref2_doubled b2.fNames).bind fun r73 => some r73 else some false))))) = some (badHead (makers p) (calls p) (actors p) b1 b2.fKind b2.fText b2.fNames) := by
  simp only [contains, ref_calls hp, ref_makers hp, ref_actors hp, Option.bind_some, doubled b2.fNames hl]
  unfold badHead
  repeat' split
  all_goals rfl
theorem ref_expr (hp : p.sz ≤ 1048576) : ∀ (k : Nat) (ns : List Str) (e : T_Expr), e.sz ≤ k → e.sz ≤ 1048576 → ns.length + e.sz ≤ 2097152 → roadref2_scopeExpr k p ns e = some (toldW (chk (makers p) (calls p) (actors p) ns e))
  | 0, ns, e, hk, _, _ => by have := e.sz_pos; omega
  | k + 1, ns, .mk kd nu tx nms tys args arms at_, hk, hN, hns => by
    simp only [T_Expr.sz] at hk hN hns
    have h3 : ∀ (xs : List T_Expr) (i : Nat), szEs xs ≤ szEs args → roadref2_scopeExpr.l3 p ns (.mk kd nu tx nms tys args arms at_) (roadref2_scopeExpr k) xs i =
        some (match chkArgs (makers p) (calls p) (actors p) ns kd tx nms i xs with | some a => .inl (toldW (some a)) | none => .inr ()) := by
      intro xs
      induction xs with
      | nil => intro i _; rfl
      | cons x xs ih =>
        intro i h
        simp only [szEs] at h
        have hm := more_len kd tx nms i
        rw [roadref2_scopeExpr.l3, more_ok]
        simp only [T_Expr.fKind, T_Expr.fText, T_Expr.fNames, Option.bind_some]
        rw [concat2 _ _ (by omega)]; simp only [Option.bind_some]
        rw [ref_expr hp k _ x (by omega) (by omega) (by rw [List.length_append]; omega)]
        simp only [Option.bind_some, chkArgs]
        cases hc : chk (makers p) (calls p) (actors p) (ns ++ more kd tx nms i) x with
        | some a => simp only [toldW_bad, if_true, Option.some_or]
        | none => simp only [toldW_ok, Bool.false_eq_true, if_false, Option.none_or]; exact ih (i + 1) (by omega)
    have h4 : ∀ (xs : List T_Arm), szAs xs ≤ szAs arms → roadref2_scopeExpr.l4 p ns k (roadref2_scopeExpr k) xs =
        some (match chkArms (makers p) (calls p) (actors p) ns xs with | some a => .inl (toldW (some a)) | none => .inr ()) := by
      intro xs
      induction xs with
      | nil => intro _; rfl
      | cons x xs ih =>
        intro h
        obtain ⟨pt, b⟩ := x
        simp only [szAs, T_Arm.sz] at h
        have hnl := pt.nm_len
        have hb := b.sz_pos
        rw [roadref2_scopeExpr.l4]
        simp only [T_Arm.fPat, T_Arm.fBody, namesOf k pt (by omega) (by omega), Option.bind_some]
        rw [concat2 _ _ (by omega)]; simp only [Option.bind_some]
        rw [ref_expr hp k _ b (by omega) (by omega) (by rw [List.length_append]; omega)]
        simp only [Option.bind_some, chkArms, chkArm]
        cases hc : chk (makers p) (calls p) (actors p) (ns ++ pt.nm) b with
        | some a => simp only [toldW_bad, if_true, Option.some_or]
        | none => simp only [toldW_ok, Bool.false_eq_true, if_false, Option.none_or]; exact ih (by omega)
    rw [roadref2_scopeExpr_succ]
    unfold roadref2_scopeExpr.body
    rw [head_ok hp ns _ (by simp only [T_Expr.fNames]; omega)]
    simp only [T_Expr.fKind, T_Expr.fText, T_Expr.fNames, T_Expr.fArms, T_Expr.fArgs, T_Expr.fAt, Option.bind_some]
    rw [ref_l1 hp k arms _ (by omega) (by omega)]; simp only [Option.bind_some, chk]
    split
    · rfl
    · rw [h3 args 0 (Nat.le_refl _)]; simp only [Option.bind_some]
      cases chkArgs (makers p) (calls p) (actors p) ns kd tx nms 0 args with
      | some a => rfl
      | none =>
        simp only [retOr, Option.none_or]
        rw [h4 arms (Nat.le_refl _)]; simp only [Option.bind_some]
        cases chkArms (makers p) (calls p) (actors p) ns arms with
        | some a => rfl
        | none => rfl
end
end Go.Proofs.Ythbgngdoihkodac.Hx
