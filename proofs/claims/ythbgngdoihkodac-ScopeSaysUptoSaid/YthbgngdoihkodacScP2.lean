/- roadstead: ScopeSays. This text: ScP2. Conditions: none beyond those that the statement itself names. -/
import Derived.Test.YthbgngdoihkodacScP1
namespace Go.Proofs.Ythbgngdoihkodac.Hx
open Go Go.Proofs.Ythbgngdoihkodac.Hx Go.RowKit Go.Proofs

/-! ### loops -/
section
variable {α β γ : Type}
theorem loop_app {lim : Nat} {F : List α → List β → Option (List β)} {I : α → List β → Option (List β)} {g : α → List β} (h0 : ∀ x, F [] x = some x) (h1 : ∀ y r x, F (y :: r) x = (I y x).bind fun l => F r l) :
    ∀ (r : List α) (x : List β), (∀ y ∈ r, ∀ x, x.length + (g y).length ≤ lim → I y x = some (x ++ g y)) → x.length + (r.flatMap g).length ≤ lim → F r x = some (x ++ r.flatMap g)
  | [], x, _, _ => by simp [h0]
  | y :: r, x, hI, hl => by
    simp only [List.flatMap_cons, List.length_append] at hl
    rw [h1, hI y (by simp) x (by omega)]
    simp only [Option.bind_some, List.flatMap_cons]
    rw [loop_app h0 h1 r _ (fun y hy => hI y (by simp [hy])) (by rw [List.length_append]; omega)]
    simp
theorem loop_any {F : List α → Option (γ ⊕ Unit)} {B : α → Option Bool} {b : α → Bool} {v : γ} (h0 : F [] = some (.inr ())) (h1 : ∀ y r, F (y :: r) = (B y).bind fun t => if t = true then some (.inl v) else F r) :
    ∀ (r : List α), (∀ y ∈ r, B y = some (b y)) → F r = some (if r.any b = true then .inl v else .inr ())
  | [], _ => by simp [h0]
  | y :: r, hB => by
    rw [h1, hB y (by simp)]
    simp only [Option.bind_some, List.any_cons]
    by_cases h : b y = true
    · simp [h]
    · simp only [h, Bool.false_or, if_neg, Bool.false_eq_true, if_false]
      exact loop_any h0 h1 r fun y hy => hB y (by simp [hy])
end

/-! ### sizes -/
mutual
def T_Pat.sz : T_Pat → Nat
  | .mk _ _ _ args => szPs args + 1
def szPs : List T_Pat → Nat
  | [] => 0
  | p :: ps => p.sz + szPs ps
end
mutual
def T_Expr.sz : T_Expr → Nat
  | .mk _ _ _ nms _ args arms _ => nms.length + szEs args + szAs arms + 2
def T_Arm.sz : T_Arm → Nat
  | .mk p b => p.sz + b.sz
def szEs : List T_Expr → Nat
  | [] => 0
  | p :: ps => p.sz + szEs ps
def szAs : List T_Arm → Nat
  | [] => 0
  | p :: ps => p.sz + szAs ps
end
theorem szPs_mem : ∀ {ps : List T_Pat} {p : T_Pat}, p ∈ ps → p.sz ≤ szPs ps
  | q :: ps, p, h => by
    rcases List.mem_cons.1 h with rfl | h
    · simp [szPs]
    · have := szPs_mem h; simp [szPs]; omega
theorem szEs_mem : ∀ {ps : List T_Expr} {p : T_Expr}, p ∈ ps → p.sz ≤ szEs ps
  | q :: ps, p, h => by
    rcases List.mem_cons.1 h with rfl | h
    · simp [szEs]
    · have := szEs_mem h; simp [szEs]; omega
theorem szAs_mem : ∀ {ps : List T_Arm} {p : T_Arm}, p ∈ ps → p.sz ≤ szAs ps
  | q :: ps, p, h => by
    rcases List.mem_cons.1 h with rfl | h
    · simp [szAs]
    · have := szAs_mem h; simp [szAs]; omega
theorem szPs_append : ∀ {a b : List T_Pat}, szPs (a ++ b) = szPs a + szPs b
  | [], b => by simp [szPs]
  | p :: a, b => by simp [szPs, szPs_append]; omega
theorem szEs_append : ∀ {a b : List T_Expr}, szEs (a ++ b) = szEs a + szEs b
  | [], b => by simp [szEs]
  | p :: a, b => by simp [szEs, szEs_append]; omega
theorem T_Pat.sz_pos (p : T_Pat) : 1 ≤ p.sz := by cases p; simp [T_Pat.sz]
theorem T_Expr.sz_pos (p : T_Expr) : 2 ≤ p.sz := by cases p; simp [T_Expr.sz]
theorem szPs_len : ∀ (ps : List T_Pat), ps.length ≤ szPs ps
  | [] => by simp
  | p :: ps => by have := szPs_len ps; have := p.sz_pos; simp [szPs]; omega
theorem szEs_len : ∀ (ps : List T_Expr), ps.length ≤ szEs ps
  | [] => by simp
  | p :: ps => by have := szEs_len ps; have := p.sz_pos; simp [szEs]; omega
theorem szAs_len : ∀ (ps : List T_Arm), ps.length ≤ szAs ps
  | [] => by simp
  | .mk p b :: ps => by have := szAs_len ps; have := p.sz_pos; simp [szAs, T_Arm.sz]; omega

/-! ### the names of a pattern -/
mutual
def T_Pat.nm : T_Pat → List Str
  | .mk k _ t args => if (k == 2) = true then [t] else if (k == 6) = true then nmPs args else []
def nmPs : List T_Pat → List Str
  | [] => []
  | p :: ps => p.nm ++ nmPs ps
end
theorem nmPs_eq : ∀ ps, nmPs ps = ps.flatMap T_Pat.nm
  | [] => rfl
  | p :: ps => by simp [nmPs, nmPs_eq ps]
mutual
theorem T_Pat.nm_len : ∀ p : T_Pat, p.nm.length ≤ p.sz
  | .mk k _ t args => by
    have := nmPs_len args
    simp only [T_Pat.nm, T_Pat.sz]
    split
    · simp
    · split
      · omega
      · simp
theorem nmPs_len : ∀ ps : List T_Pat, (nmPs ps).length ≤ szPs ps
  | [] => by simp [nmPs]
  | p :: ps => by
    have := T_Pat.nm_len p
    have := nmPs_len ps
    simp [nmPs, szPs]; omega
end
theorem bound : ∀ (k : Nat) (p : T_Pat), p.sz ≤ k → p.sz ≤ 1048576 → tree_Bound k p = some p.nm
  | 0, p, h, _ => by have := p.sz_pos; omega
  | k + 1, .mk kd n t args, h, hN => by
    rw [tree_Bound_succ]
    simp only [T_Pat.sz] at h hN
    have h1 : tree_Bound.l1 (tree_Bound k) args ([] : List Str) = some ([] ++ args.flatMap T_Pat.nm) :=
      loop_app (lim := 8796093022208) (F := tree_Bound.l1 (tree_Bound k)) (I := fun y x => (tree_Bound k y).bind fun r => app 8796093022208 x r) (fun _ => rfl)
        (fun y r x => by simp only [tree_Bound.l1]; cases tree_Bound k y <;> rfl) args []
        (fun y hy x hl => by
          have := szPs_mem hy
          simp only [bound k y (by omega) (by omega), Option.bind_some]
          exact app_ok hl)
        (by have := nmPs_len args; rw [nmPs_eq] at this; simp only [List.length_nil]; omega)
    simp only [tree_Bound.body, T_Pat.fKind, T_Pat.fText, T_Pat.fArgs, h1, T_Pat.nm, Option.bind_some, List.nil_append, nmPs_eq]
    split
    · rfl
    · split <;> rfl
theorem namesOf : ∀ (k : Nat) (p : T_Pat), p.sz ≤ k → p.sz ≤ 1048576 → roadref2_NamesOf k p = some p.nm
  | 0, p, h, _ => by have := p.sz_pos; omega
  | k + 1, .mk kd n t args, h, hN => by
    rw [roadref2_NamesOf_succ]
    simp only [T_Pat.sz] at h hN
    have h1 : roadref2_NamesOf.l1 (roadref2_NamesOf k) args ([] : List Str) = some ([] ++ args.flatMap T_Pat.nm) :=
      loop_app (lim := 8796093022208) (F := roadref2_NamesOf.l1 (roadref2_NamesOf k)) (I := fun y x => (roadref2_NamesOf k y).bind fun r => app 8796093022208 x r) (fun _ => rfl)
        (fun y r x => by simp only [roadref2_NamesOf.l1]; cases roadref2_NamesOf k y <;> rfl) args []
        (fun y hy x hl => by
          have := szPs_mem hy
          simp only [namesOf k y (by omega) (by omega), Option.bind_some]
          exact app_ok hl)
        (by have := nmPs_len args; rw [nmPs_eq] at this; simp only [List.length_nil]; omega)
    simp only [roadref2_NamesOf.body, T_Pat.fKind, T_Pat.fText, T_Pat.fArgs, h1, T_Pat.nm, Option.bind_some, List.nil_append, nmPs_eq]
    split
    · rfl
    · split <;> rfl

/-! ### all the patterns of a pattern -/
mutual
def T_Pat.deep (f : T_Pat → Bool) : T_Pat → Bool
  | .mk k n t args => f (.mk k n t args) || deeps f args
def deeps (f : T_Pat → Bool) : List T_Pat → Bool
  | [] => false
  | p :: ps => p.deep f || deeps f ps
end
theorem deeps_eq (f : T_Pat → Bool) : ∀ ps, deeps f ps = ps.any (T_Pat.deep f)
  | [] => rfl
  | p :: ps => by simp [deeps, deeps_eq f ps]
theorem pats_l1 (f : T_Pat → Bool) : ∀ (kf : Nat) (done todo : List T_Pat), szPs todo < kf → done.length + szPs todo ≤ 1048576 →
    ∃ l, roadref2_pats.l1 kf (done ++ todo) (done.length : Int) = some l ∧ l.any f = (done.any f || todo.any (T_Pat.deep f)) ∧ l.length ≤ 1048576
  | 0, done, todo, h, _ => by omega
  | kf + 1, done, [], h, hN => by
    refine ⟨done, ?_, by simp, by omega⟩
    rw [roadref2_pats.l1]
    simp
  | kf + 1, done, .mk kd n t args :: rest, h, hN => by
    simp only [szPs, T_Pat.sz] at h hN
    obtain ⟨l, h1, h2, h3⟩ := pats_l1 f kf (done ++ [.mk kd n t args]) (rest ++ args) (by rw [szPs_append]; omega) (by rw [szPs_append]; simp; omega)
    refine ⟨l, ?_, ?_, h3⟩
    · rw [roadref2_pats.l1]
      have e1 : nth (done ++ T_Pat.mk kd n t args :: rest) (done.length : Int) = some (.mk kd n t args) := by simp [nth]
      have hr := szPs_len rest
      have ha := szPs_len args
      rw [if_pos (by simp; omega), e1]
      simp only [Option.bind_some, T_Pat.fArgs]
      rw [app_ok (by simp; omega)]
      simp only [Option.bind_some]
      rw [addI_eq (by omega) (by omega)]
      rw [← h1]
      simp
    · rw [h2]
      simp [T_Pat.deep, deeps_eq, Bool.or_assoc, Bool.or_comm, Bool.or_left_comm]
theorem pats (f : T_Pat → Bool) {k : Nat} {p : T_Pat} (hk : p.sz < k) (hN : p.sz ≤ 1048576) : ∃ l, roadref2_pats k p = some l ∧ l.any f = p.deep f ∧ l.length ≤ 1048576 := by
  obtain ⟨l, h1, h2, h3⟩ := pats_l1 f k [] [p] (by simpa [szPs] using hk) (by simpa [szPs] using hN)
  refine ⟨l, ?_, by simpa using h2, h3⟩
  unfold roadref2_pats
  simp only [List.nil_append, List.length_nil, Int.natCast_zero] at h1
  rw [h1]; rfl
end Go.Proofs.Ythbgngdoihkodac.Hx
