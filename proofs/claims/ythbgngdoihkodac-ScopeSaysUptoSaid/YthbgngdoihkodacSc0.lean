/- roadstead: ScopeSays. This text: Sc. Conditions: none beyond those that the statement itself names. -/
import Derived.Test.YthbgngdoihkodacHxU
import Derived.Test.YthbgngdoihkodacProg
namespace Go.Proofs.Ythbgngdoihkodac.Hx
open Go Go.Proofs.Ythbgngdoihkodac.Hx Go.RowKit Go.Proofs Go.Shelf
inductive T_Type where
  | mk (fKind : Int) (fName : Str) (fArgs : List T_Type)
def T_Type.fKind : T_Type → Int | .mk x _ _ => x
def T_Type.fName : T_Type → Str | .mk _ x _ => x
def T_Type.fArgs : T_Type → List T_Type | .mk _ _ x => x
mutual
def l_T_Type : T_Type → List D
  | .mk fKind fName fArgs => [(eI .i64) fKind] ++ [eS fName] ++ [.sl 3 (es_T_Type fArgs)]
def es_T_Type : List T_Type → List D
  | [] => []
  | x :: xs => .agg (l_T_Type x) :: es_T_Type xs
end
def e_T_Type (x : T_Type) : D := .agg (l_T_Type x)
theorem es_T_Type_map : ∀ xs, es_T_Type xs = xs.map e_T_Type
  | [] => by simp [es_T_Type]
  | x :: xs => by simp only [es_T_Type, es_T_Type_map xs, List.map_cons, e_T_Type]
theorem l_T_Type_eq (x : T_Type) : l_T_Type x = [(eI .i64) x.fKind, eS x.fName, (eL e_T_Type 3) x.fArgs] := by
  cases x; simp only [l_T_Type, es_T_Type_map, eL, T_Type.fKind, T_Type.fName, T_Type.fArgs, List.cons_append, List.nil_append]
theorem e_T_Type_eq (x : T_Type) : e_T_Type x = .agg [(eI .i64) x.fKind, eS x.fName, (eL e_T_Type 3) x.fArgs] := by rw [e_T_Type, l_T_Type_eq]
theorem c_T_Type (x : T_Type) : (e_T_Type x).cells = [(eI .i64) x.fKind, eS x.fName, (eL e_T_Type 3) x.fArgs] := by rw [e_T_Type_eq]; rfl
theorem one_T_Type (x : T_Type) : OneC [] (e_T_Type x) := by rw [e_T_Type_eq]; exact OneC.agg (List.forall_mem_cons.2 ⟨(.val rfl), (List.forall_mem_cons.2 ⟨(.val rfl), (List.forall_mem_cons.2 ⟨.sl, (List.forall_mem_nil _)⟩)⟩)⟩)
theorem rd0_T_Type {S : Nat → Prop} {w : World} : Rd S w (e_T_Type (T_Type.mk (0 : Int) ([] : Str) ([] : List T_Type))) [.int .i64 0, bs [], .slice none 0 0] := by
  rw [e_T_Type_eq]; simp only [Rd, RdCs]; exact ⟨_, _, rfl, rd0_I, ⟨_, _, rfl, rd0_S, ⟨_, _, rfl, rd0_L, rfl⟩⟩⟩
theorem rv0_T_Type {S : Nat → Prop} {w : World} : RdV S w (e_T_Type (T_Type.mk (0 : Int) ([] : Str) ([] : List T_Type))) (.agg [.int .i64 0, bs [], .slice none 0 0].toArray) := by
  have h := rd0_T_Type (S := S) (w := w)
  rw [e_T_Type_eq] at h ⊢
  simp only [Rd] at h; simp only [RdV]; exact ⟨_, rfl, h⟩
inductive T_Pat where
  | mk (fKind : Int) (fNum : Int) (fText : Str) (fArgs : List T_Pat)
def T_Pat.fKind : T_Pat → Int | .mk x _ _ _ => x
def T_Pat.fNum : T_Pat → Int | .mk _ x _ _ => x
def T_Pat.fText : T_Pat → Str | .mk _ _ x _ => x
def T_Pat.fArgs : T_Pat → List T_Pat | .mk _ _ _ x => x
mutual
def l_T_Pat : T_Pat → List D
  | .mk fKind fNum fText fArgs => [(eI .i64) fKind] ++ [(eI .i64) fNum] ++ [eS fText] ++ [.sl 4 (es_T_Pat fArgs)]
def es_T_Pat : List T_Pat → List D
  | [] => []
  | x :: xs => .agg (l_T_Pat x) :: es_T_Pat xs
end
def e_T_Pat (x : T_Pat) : D := .agg (l_T_Pat x)
theorem es_T_Pat_map : ∀ xs, es_T_Pat xs = xs.map e_T_Pat
  | [] => by simp [es_T_Pat]
  | x :: xs => by simp only [es_T_Pat, es_T_Pat_map xs, List.map_cons, e_T_Pat]
theorem l_T_Pat_eq (x : T_Pat) : l_T_Pat x = [(eI .i64) x.fKind, (eI .i64) x.fNum, eS x.fText, (eL e_T_Pat 4) x.fArgs] := by
  cases x; simp only [l_T_Pat, es_T_Pat_map, eL, T_Pat.fKind, T_Pat.fNum, T_Pat.fText, T_Pat.fArgs, List.cons_append, List.nil_append]
theorem e_T_Pat_eq (x : T_Pat) : e_T_Pat x = .agg [(eI .i64) x.fKind, (eI .i64) x.fNum, eS x.fText, (eL e_T_Pat 4) x.fArgs] := by rw [e_T_Pat, l_T_Pat_eq]
theorem c_T_Pat (x : T_Pat) : (e_T_Pat x).cells = [(eI .i64) x.fKind, (eI .i64) x.fNum, eS x.fText, (eL e_T_Pat 4) x.fArgs] := by rw [e_T_Pat_eq]; rfl
theorem one_T_Pat (x : T_Pat) : OneC [] (e_T_Pat x) := by rw [e_T_Pat_eq]; exact OneC.agg (List.forall_mem_cons.2 ⟨(.val rfl), (List.forall_mem_cons.2 ⟨(.val rfl), (List.forall_mem_cons.2 ⟨(.val rfl), (List.forall_mem_cons.2 ⟨.sl, (List.forall_mem_nil _)⟩)⟩)⟩)⟩)
theorem rd0_T_Pat {S : Nat → Prop} {w : World} : Rd S w (e_T_Pat (T_Pat.mk (0 : Int) (0 : Int) ([] : Str) ([] : List T_Pat))) [.int .i64 0, .int .i64 0, bs [], .slice none 0 0] := by
  rw [e_T_Pat_eq]; simp only [Rd, RdCs]; exact ⟨_, _, rfl, rd0_I, ⟨_, _, rfl, rd0_I, ⟨_, _, rfl, rd0_S, ⟨_, _, rfl, rd0_L, rfl⟩⟩⟩⟩
theorem rv0_T_Pat {S : Nat → Prop} {w : World} : RdV S w (e_T_Pat (T_Pat.mk (0 : Int) (0 : Int) ([] : Str) ([] : List T_Pat))) (.agg [.int .i64 0, .int .i64 0, bs [], .slice none 0 0].toArray) := by
  have h := rd0_T_Pat (S := S) (w := w)
  rw [e_T_Pat_eq] at h ⊢
  simp only [Rd] at h; simp only [RdV]; exact ⟨_, rfl, h⟩
mutual
inductive T_Expr where
  | mk (fKind : Int) (fNum : Int) (fText : Str) (fNames : List Str) (fTypes : List T_Type) (fArgs : List T_Expr) (fArms : List T_Arm) (fAt : Int)
inductive T_Arm where
  | mk (fPat : T_Pat) (fBody : T_Expr)
end
def T_Expr.fKind : T_Expr → Int | .mk x _ _ _ _ _ _ _ => x
def T_Expr.fNum : T_Expr → Int | .mk _ x _ _ _ _ _ _ => x
def T_Expr.fText : T_Expr → Str | .mk _ _ x _ _ _ _ _ => x
def T_Expr.fNames : T_Expr → List Str | .mk _ _ _ x _ _ _ _ => x
def T_Expr.fTypes : T_Expr → List T_Type | .mk _ _ _ _ x _ _ _ => x
def T_Expr.fArgs : T_Expr → List T_Expr | .mk _ _ _ _ _ x _ _ => x
def T_Expr.fArms : T_Expr → List T_Arm | .mk _ _ _ _ _ _ x _ => x
def T_Expr.fAt : T_Expr → Int | .mk _ _ _ _ _ _ _ x => x
def T_Arm.fPat : T_Arm → T_Pat | .mk x _ => x
def T_Arm.fBody : T_Arm → T_Expr | .mk _ x => x
mutual
def l_T_Expr : T_Expr → List D
  | .mk fKind fNum fText fNames fTypes fArgs fArms fAt => [(eI .i64) fKind] ++ [(eI .i64) fNum] ++ [eS fText] ++ [(eL eS 1) fNames] ++ [(eL e_T_Type 3) fTypes] ++ [.sl 8 (es_T_Expr fArgs)] ++ [.sl 12 (es_T_Arm fArms)] ++ [(eI .i64) fAt]
def l_T_Arm : T_Arm → List D
  | .mk fPat fBody => (e_T_Pat fPat).cells ++ l_T_Expr fBody
def es_T_Expr : List T_Expr → List D
  | [] => []
  | x :: xs => .agg (l_T_Expr x) :: es_T_Expr xs
def es_T_Arm : List T_Arm → List D
  | [] => []
  | x :: xs => .agg (l_T_Arm x) :: es_T_Arm xs
end
def e_T_Expr (x : T_Expr) : D := .agg (l_T_Expr x)
def e_T_Arm (x : T_Arm) : D := .agg (l_T_Arm x)
theorem es_T_Expr_map : ∀ xs, es_T_Expr xs = xs.map e_T_Expr
  | [] => by simp [es_T_Expr]
  | x :: xs => by simp only [es_T_Expr, es_T_Expr_map xs, List.map_cons, e_T_Expr]
theorem es_T_Arm_map : ∀ xs, es_T_Arm xs = xs.map e_T_Arm
  | [] => by simp [es_T_Arm]
  | x :: xs => by simp only [es_T_Arm, es_T_Arm_map xs, List.map_cons, e_T_Arm]
theorem l_T_Expr_eq (x : T_Expr) : l_T_Expr x = [(eI .i64) x.fKind, (eI .i64) x.fNum, eS x.fText, (eL eS 1) x.fNames, (eL e_T_Type 3) x.fTypes, (eL e_T_Expr 8) x.fArgs, (eL e_T_Arm 12) x.fArms, (eI .i64) x.fAt] := by
  cases x; simp only [l_T_Expr, es_T_Expr_map, es_T_Arm_map, eL, T_Expr.fKind, T_Expr.fNum, T_Expr.fText, T_Expr.fNames, T_Expr.fTypes, T_Expr.fArgs, T_Expr.fArms, T_Expr.fAt, List.cons_append, List.nil_append]
theorem e_T_Expr_eq (x : T_Expr) : e_T_Expr x = .agg [(eI .i64) x.fKind, (eI .i64) x.fNum, eS x.fText, (eL eS 1) x.fNames, (eL e_T_Type 3) x.fTypes, (eL e_T_Expr 8) x.fArgs, (eL e_T_Arm 12) x.fArms, (eI .i64) x.fAt] := by rw [e_T_Expr, l_T_Expr_eq]
theorem l_T_Arm_eq (x : T_Arm) : l_T_Arm x = [(eI .i64) x.fPat.fKind, (eI .i64) x.fPat.fNum, eS x.fPat.fText, (eL e_T_Pat 4) x.fPat.fArgs, (eI .i64) x.fBody.fKind, (eI .i64) x.fBody.fNum, eS x.fBody.fText, (eL eS 1) x.fBody.fNames, (eL e_T_Type 3) x.fBody.fTypes, (eL e_T_Expr 8) x.fBody.fArgs, (eL e_T_Arm 12) x.fBody.fArms, (eI .i64) x.fBody.fAt] := by
  cases x; simp only [l_T_Arm, es_T_Expr_map, es_T_Arm_map, eL, T_Arm.fPat, T_Arm.fBody, List.cons_append, List.nil_append, l_T_Expr_eq, c_T_Pat]
theorem e_T_Arm_eq (x : T_Arm) : e_T_Arm x = .agg [(eI .i64) x.fPat.fKind, (eI .i64) x.fPat.fNum, eS x.fPat.fText, (eL e_T_Pat 4) x.fPat.fArgs, (eI .i64) x.fBody.fKind, (eI .i64) x.fBody.fNum, eS x.fBody.fText, (eL eS 1) x.fBody.fNames, (eL e_T_Type 3) x.fBody.fTypes, (eL e_T_Expr 8) x.fBody.fArgs, (eL e_T_Arm 12) x.fBody.fArms, (eI .i64) x.fBody.fAt] := by rw [e_T_Arm, l_T_Arm_eq]
theorem c_T_Expr (x : T_Expr) : (e_T_Expr x).cells = [(eI .i64) x.fKind, (eI .i64) x.fNum, eS x.fText, (eL eS 1) x.fNames, (eL e_T_Type 3) x.fTypes, (eL e_T_Expr 8) x.fArgs, (eL e_T_Arm 12) x.fArms, (eI .i64) x.fAt] := by rw [e_T_Expr_eq]; rfl
theorem one_T_Expr (x : T_Expr) : OneC [] (e_T_Expr x) := by rw [e_T_Expr_eq]; exact OneC.agg (List.forall_mem_cons.2 ⟨(.val rfl), (List.forall_mem_cons.2 ⟨(.val rfl), (List.forall_mem_cons.2 ⟨(.val rfl), (List.forall_mem_cons.2 ⟨.sl, (List.forall_mem_cons.2 ⟨.sl, (List.forall_mem_cons.2 ⟨.sl, (List.forall_mem_cons.2 ⟨.sl, (List.forall_mem_cons.2 ⟨(.val rfl), (List.forall_mem_nil _)⟩)⟩)⟩)⟩)⟩)⟩)⟩)⟩)
theorem rd0_T_Expr {S : Nat → Prop} {w : World} : Rd S w (e_T_Expr (T_Expr.mk (0 : Int) (0 : Int) ([] : Str) ([] : List Str) ([] : List T_Type) ([] : List T_Expr) ([] : List T_Arm) (0 : Int))) [.int .i64 0, .int .i64 0, bs [], .slice none 0 0, .slice none 0 0, .slice none 0 0, .slice none 0 0, .int .i64 0] := by
  rw [e_T_Expr_eq]; simp only [Rd, RdCs]; exact ⟨_, _, rfl, rd0_I, ⟨_, _, rfl, rd0_I, ⟨_, _, rfl, rd0_S, ⟨_, _, rfl, rd0_L, ⟨_, _, rfl, rd0_L, ⟨_, _, rfl, rd0_L, ⟨_, _, rfl, rd0_L, ⟨_, _, rfl, rd0_I, rfl⟩⟩⟩⟩⟩⟩⟩⟩
theorem rv0_T_Expr {S : Nat → Prop} {w : World} : RdV S w (e_T_Expr (T_Expr.mk (0 : Int) (0 : Int) ([] : Str) ([] : List Str) ([] : List T_Type) ([] : List T_Expr) ([] : List T_Arm) (0 : Int))) (.agg [.int .i64 0, .int .i64 0, bs [], .slice none 0 0, .slice none 0 0, .slice none 0 0, .slice none 0 0, .int .i64 0].toArray) := by
  have h := rd0_T_Expr (S := S) (w := w)
  rw [e_T_Expr_eq] at h ⊢
  simp only [Rd] at h; simp only [RdV]; exact ⟨_, rfl, h⟩
theorem c_T_Arm (x : T_Arm) : (e_T_Arm x).cells = [(eI .i64) x.fPat.fKind, (eI .i64) x.fPat.fNum, eS x.fPat.fText, (eL e_T_Pat 4) x.fPat.fArgs, (eI .i64) x.fBody.fKind, (eI .i64) x.fBody.fNum, eS x.fBody.fText, (eL eS 1) x.fBody.fNames, (eL e_T_Type 3) x.fBody.fTypes, (eL e_T_Expr 8) x.fBody.fArgs, (eL e_T_Arm 12) x.fBody.fArms, (eI .i64) x.fBody.fAt] := by rw [e_T_Arm_eq]; rfl
theorem one_T_Arm (x : T_Arm) : OneC [] (e_T_Arm x) := by rw [e_T_Arm_eq]; exact OneC.agg (List.forall_mem_cons.2 ⟨(.val rfl), (List.forall_mem_cons.2 ⟨(.val rfl), (List.forall_mem_cons.2 ⟨(.val rfl), (List.forall_mem_cons.2 ⟨.sl, (List.forall_mem_cons.2 ⟨(.val rfl), (List.forall_mem_cons.2 ⟨(.val rfl), (List.forall_mem_cons.2 ⟨(.val rfl), (List.forall_mem_cons.2 ⟨.sl, (List.forall_mem_cons.2 ⟨.sl, (List.forall_mem_cons.2 ⟨.sl, (List.forall_mem_cons.2 ⟨.sl, (List.forall_mem_cons.2 ⟨(.val rfl), (List.forall_mem_nil _)⟩)⟩)⟩)⟩)⟩)⟩)⟩)⟩)⟩)⟩)⟩)⟩)
theorem rd0_T_Arm {S : Nat → Prop} {w : World} : Rd S w (e_T_Arm (T_Arm.mk (T_Pat.mk (0 : Int) (0 : Int) ([] : Str) ([] : List T_Pat)) (T_Expr.mk (0 : Int) (0 : Int) ([] : Str) ([] : List Str) ([] : List T_Type) ([] : List T_Expr) ([] : List T_Arm) (0 : Int)))) [.int .i64 0, .int .i64 0, bs [], .slice none 0 0, .int .i64 0, .int .i64 0, bs [], .slice none 0 0, .slice none 0 0, .slice none 0 0, .slice none 0 0, .int .i64 0] := by
  rw [e_T_Arm_eq]; simp only [Rd, RdCs]; exact ⟨_, _, rfl, rd0_I, ⟨_, _, rfl, rd0_I, ⟨_, _, rfl, rd0_S, ⟨_, _, rfl, rd0_L, ⟨_, _, rfl, rd0_I, ⟨_, _, rfl, rd0_I, ⟨_, _, rfl, rd0_S, ⟨_, _, rfl, rd0_L, ⟨_, _, rfl, rd0_L, ⟨_, _, rfl, rd0_L, ⟨_, _, rfl, rd0_L, ⟨_, _, rfl, rd0_I, rfl⟩⟩⟩⟩⟩⟩⟩⟩⟩⟩⟩⟩
theorem rv0_T_Arm {S : Nat → Prop} {w : World} : RdV S w (e_T_Arm (T_Arm.mk (T_Pat.mk (0 : Int) (0 : Int) ([] : Str) ([] : List T_Pat)) (T_Expr.mk (0 : Int) (0 : Int) ([] : Str) ([] : List Str) ([] : List T_Type) ([] : List T_Expr) ([] : List T_Arm) (0 : Int)))) (.agg [.int .i64 0, .int .i64 0, bs [], .slice none 0 0, .int .i64 0, .int .i64 0, bs [], .slice none 0 0, .slice none 0 0, .slice none 0 0, .slice none 0 0, .int .i64 0].toArray) := by
  have h := rd0_T_Arm (S := S) (w := w)
  rw [e_T_Arm_eq] at h ⊢
  simp only [Rd] at h; simp only [RdV]; exact ⟨_, rfl, h⟩
structure T_Func where
  fName : Str
  fParams : List Str
  fNames : List Str
  fTypes : List T_Type
  fOut : T_Type
  fBody : T_Expr
def e_T_Func (x : T_Func) : D := .agg [eS x.fName, (eL eS 1) x.fParams, (eL eS 1) x.fNames, (eL e_T_Type 3) x.fTypes, (eI .i64) x.fOut.fKind, eS x.fOut.fName, (eL e_T_Type 3) x.fOut.fArgs, (eI .i64) x.fBody.fKind, (eI .i64) x.fBody.fNum, eS x.fBody.fText, (eL eS 1) x.fBody.fNames, (eL e_T_Type 3) x.fBody.fTypes, (eL e_T_Expr 8) x.fBody.fArgs, (eL e_T_Arm 12) x.fBody.fArms, (eI .i64) x.fBody.fAt]
theorem e_T_Func_eq (x : T_Func) : e_T_Func x = .agg [eS x.fName, (eL eS 1) x.fParams, (eL eS 1) x.fNames, (eL e_T_Type 3) x.fTypes, (eI .i64) x.fOut.fKind, eS x.fOut.fName, (eL e_T_Type 3) x.fOut.fArgs, (eI .i64) x.fBody.fKind, (eI .i64) x.fBody.fNum, eS x.fBody.fText, (eL eS 1) x.fBody.fNames, (eL e_T_Type 3) x.fBody.fTypes, (eL e_T_Expr 8) x.fBody.fArgs, (eL e_T_Arm 12) x.fBody.fArms, (eI .i64) x.fBody.fAt] := rfl
theorem c_T_Func (x : T_Func) : (e_T_Func x).cells = [eS x.fName, (eL eS 1) x.fParams, (eL eS 1) x.fNames, (eL e_T_Type 3) x.fTypes, (eI .i64) x.fOut.fKind, eS x.fOut.fName, (eL e_T_Type 3) x.fOut.fArgs, (eI .i64) x.fBody.fKind, (eI .i64) x.fBody.fNum, eS x.fBody.fText, (eL eS 1) x.fBody.fNames, (eL e_T_Type 3) x.fBody.fTypes, (eL e_T_Expr 8) x.fBody.fArgs, (eL e_T_Arm 12) x.fBody.fArms, (eI .i64) x.fBody.fAt] := by rw [e_T_Func_eq]; rfl
theorem one_T_Func (x : T_Func) : OneC [] (e_T_Func x) := by rw [e_T_Func_eq]; exact OneC.agg (List.forall_mem_cons.2 ⟨(.val rfl), (List.forall_mem_cons.2 ⟨.sl, (List.forall_mem_cons.2 ⟨.sl, (List.forall_mem_cons.2 ⟨.sl, (List.forall_mem_cons.2 ⟨(.val rfl), (List.forall_mem_cons.2 ⟨(.val rfl), (List.forall_mem_cons.2 ⟨.sl, (List.forall_mem_cons.2 ⟨(.val rfl), (List.forall_mem_cons.2 ⟨(.val rfl), (List.forall_mem_cons.2 ⟨(.val rfl), (List.forall_mem_cons.2 ⟨.sl, (List.forall_mem_cons.2 ⟨.sl, (List.forall_mem_cons.2 ⟨.sl, (List.forall_mem_cons.2 ⟨.sl, (List.forall_mem_cons.2 ⟨(.val rfl), (List.forall_mem_nil _)⟩)⟩)⟩)⟩)⟩)⟩)⟩)⟩)⟩)⟩)⟩)⟩)⟩)⟩)⟩)
theorem rd0_T_Func {S : Nat → Prop} {w : World} : Rd S w (e_T_Func (T_Func.mk ([] : Str) ([] : List Str) ([] : List Str) ([] : List T_Type) (T_Type.mk (0 : Int) ([] : Str) ([] : List T_Type)) (T_Expr.mk (0 : Int) (0 : Int) ([] : Str) ([] : List Str) ([] : List T_Type) ([] : List T_Expr) ([] : List T_Arm) (0 : Int)))) [bs [], .slice none 0 0, .slice none 0 0, .slice none 0 0, .int .i64 0, bs [], .slice none 0 0, .int .i64 0, .int .i64 0, bs [], .slice none 0 0, .slice none 0 0, .slice none 0 0, .slice none 0 0, .int .i64 0] := by
  rw [e_T_Func_eq]; simp only [Rd, RdCs]; exact ⟨_, _, rfl, rd0_S, ⟨_, _, rfl, rd0_L, ⟨_, _, rfl, rd0_L, ⟨_, _, rfl, rd0_L, ⟨_, _, rfl, rd0_I, ⟨_, _, rfl, rd0_S, ⟨_, _, rfl, rd0_L, ⟨_, _, rfl, rd0_I, ⟨_, _, rfl, rd0_I, ⟨_, _, rfl, rd0_S, ⟨_, _, rfl, rd0_L, ⟨_, _, rfl, rd0_L, ⟨_, _, rfl, rd0_L, ⟨_, _, rfl, rd0_L, ⟨_, _, rfl, rd0_I, rfl⟩⟩⟩⟩⟩⟩⟩⟩⟩⟩⟩⟩⟩⟩⟩
theorem rv0_T_Func {S : Nat → Prop} {w : World} : RdV S w (e_T_Func (T_Func.mk ([] : Str) ([] : List Str) ([] : List Str) ([] : List T_Type) (T_Type.mk (0 : Int) ([] : Str) ([] : List T_Type)) (T_Expr.mk (0 : Int) (0 : Int) ([] : Str) ([] : List Str) ([] : List T_Type) ([] : List T_Expr) ([] : List T_Arm) (0 : Int)))) (.agg [bs [], .slice none 0 0, .slice none 0 0, .slice none 0 0, .int .i64 0, bs [], .slice none 0 0, .int .i64 0, .int .i64 0, bs [], .slice none 0 0, .slice none 0 0, .slice none 0 0, .slice none 0 0, .int .i64 0].toArray) := by
  have h := rd0_T_Func (S := S) (w := w)
  rw [e_T_Func_eq] at h ⊢
  simp only [Rd] at h; simp only [RdV]; exact ⟨_, rfl, h⟩
structure T_Use where
  fName : Str
  fLow : Int
  fHigh : Int
  deriving DecidableEq
def e_T_Use (x : T_Use) : D := .agg [eS x.fName, (eI .i64) x.fLow, (eI .i64) x.fHigh]
theorem e_T_Use_eq (x : T_Use) : e_T_Use x = .agg [eS x.fName, (eI .i64) x.fLow, (eI .i64) x.fHigh] := rfl
theorem c_T_Use (x : T_Use) : (e_T_Use x).cells = [eS x.fName, (eI .i64) x.fLow, (eI .i64) x.fHigh] := by rw [e_T_Use_eq]; rfl
theorem one_T_Use (x : T_Use) : OneC [] (e_T_Use x) := by rw [e_T_Use_eq]; exact OneC.agg (List.forall_mem_cons.2 ⟨(.val rfl), (List.forall_mem_cons.2 ⟨(.val rfl), (List.forall_mem_cons.2 ⟨(.val rfl), (List.forall_mem_nil _)⟩)⟩)⟩)
theorem rd0_T_Use {S : Nat → Prop} {w : World} : Rd S w (e_T_Use (T_Use.mk ([] : Str) (0 : Int) (0 : Int))) [bs [], .int .i64 0, .int .i64 0] := by
  rw [e_T_Use_eq]; simp only [Rd, RdCs]; exact ⟨_, _, rfl, rd0_S, ⟨_, _, rfl, rd0_I, ⟨_, _, rfl, rd0_I, rfl⟩⟩⟩
theorem rv0_T_Use {S : Nat → Prop} {w : World} : RdV S w (e_T_Use (T_Use.mk ([] : Str) (0 : Int) (0 : Int))) (.agg [bs [], .int .i64 0, .int .i64 0].toArray) := by
  have h := rd0_T_Use (S := S) (w := w)
  rw [e_T_Use_eq] at h ⊢
  simp only [Rd] at h; simp only [RdV]; exact ⟨_, rfl, h⟩
structure T_Make where
  fName : Str
  fArgs : List T_Type
def e_T_Make (x : T_Make) : D := .agg [eS x.fName, (eL e_T_Type 3) x.fArgs]
theorem e_T_Make_eq (x : T_Make) : e_T_Make x = .agg [eS x.fName, (eL e_T_Type 3) x.fArgs] := rfl
theorem c_T_Make (x : T_Make) : (e_T_Make x).cells = [eS x.fName, (eL e_T_Type 3) x.fArgs] := by rw [e_T_Make_eq]; rfl
theorem one_T_Make (x : T_Make) : OneC [] (e_T_Make x) := by rw [e_T_Make_eq]; exact OneC.agg (List.forall_mem_cons.2 ⟨(.val rfl), (List.forall_mem_cons.2 ⟨.sl, (List.forall_mem_nil _)⟩)⟩)
theorem rd0_T_Make {S : Nat → Prop} {w : World} : Rd S w (e_T_Make (T_Make.mk ([] : Str) ([] : List T_Type))) [bs [], .slice none 0 0] := by
  rw [e_T_Make_eq]; simp only [Rd, RdCs]; exact ⟨_, _, rfl, rd0_S, ⟨_, _, rfl, rd0_L, rfl⟩⟩
theorem rv0_T_Make {S : Nat → Prop} {w : World} : RdV S w (e_T_Make (T_Make.mk ([] : Str) ([] : List T_Type))) (.agg [bs [], .slice none 0 0].toArray) := by
  have h := rd0_T_Make (S := S) (w := w)
  rw [e_T_Make_eq] at h ⊢
  simp only [Rd] at h; simp only [RdV]; exact ⟨_, rfl, h⟩
structure T_Data where
  fName : Str
  fParams : List Str
  fMakes : List T_Make
def e_T_Data (x : T_Data) : D := .agg [eS x.fName, (eL eS 1) x.fParams, (eL e_T_Make 2) x.fMakes]
theorem e_T_Data_eq (x : T_Data) : e_T_Data x = .agg [eS x.fName, (eL eS 1) x.fParams, (eL e_T_Make 2) x.fMakes] := rfl
theorem c_T_Data (x : T_Data) : (e_T_Data x).cells = [eS x.fName, (eL eS 1) x.fParams, (eL e_T_Make 2) x.fMakes] := by rw [e_T_Data_eq]; rfl
theorem one_T_Data (x : T_Data) : OneC [] (e_T_Data x) := by rw [e_T_Data_eq]; exact OneC.agg (List.forall_mem_cons.2 ⟨(.val rfl), (List.forall_mem_cons.2 ⟨.sl, (List.forall_mem_cons.2 ⟨.sl, (List.forall_mem_nil _)⟩)⟩)⟩)
theorem rd0_T_Data {S : Nat → Prop} {w : World} : Rd S w (e_T_Data (T_Data.mk ([] : Str) ([] : List Str) ([] : List T_Make))) [bs [], .slice none 0 0, .slice none 0 0] := by
  rw [e_T_Data_eq]; simp only [Rd, RdCs]; exact ⟨_, _, rfl, rd0_S, ⟨_, _, rfl, rd0_L, ⟨_, _, rfl, rd0_L, rfl⟩⟩⟩
theorem rv0_T_Data {S : Nat → Prop} {w : World} : RdV S w (e_T_Data (T_Data.mk ([] : Str) ([] : List Str) ([] : List T_Make))) (.agg [bs [], .slice none 0 0, .slice none 0 0].toArray) := by
  have h := rd0_T_Data (S := S) (w := w)
  rw [e_T_Data_eq] at h ⊢
  simp only [Rd] at h; simp only [RdV]; exact ⟨_, rfl, h⟩
structure T_Trait where
  fName : Str
  fFuncs : List T_Func
def e_T_Trait (x : T_Trait) : D := .agg [eS x.fName, (eL e_T_Func 15) x.fFuncs]
theorem e_T_Trait_eq (x : T_Trait) : e_T_Trait x = .agg [eS x.fName, (eL e_T_Func 15) x.fFuncs] := rfl
theorem c_T_Trait (x : T_Trait) : (e_T_Trait x).cells = [eS x.fName, (eL e_T_Func 15) x.fFuncs] := by rw [e_T_Trait_eq]; rfl
theorem one_T_Trait (x : T_Trait) : OneC [] (e_T_Trait x) := by rw [e_T_Trait_eq]; exact OneC.agg (List.forall_mem_cons.2 ⟨(.val rfl), (List.forall_mem_cons.2 ⟨.sl, (List.forall_mem_nil _)⟩)⟩)
theorem rd0_T_Trait {S : Nat → Prop} {w : World} : Rd S w (e_T_Trait (T_Trait.mk ([] : Str) ([] : List T_Func))) [bs [], .slice none 0 0] := by
  rw [e_T_Trait_eq]; simp only [Rd, RdCs]; exact ⟨_, _, rfl, rd0_S, ⟨_, _, rfl, rd0_L, rfl⟩⟩
theorem rv0_T_Trait {S : Nat → Prop} {w : World} : RdV S w (e_T_Trait (T_Trait.mk ([] : Str) ([] : List T_Func))) (.agg [bs [], .slice none 0 0].toArray) := by
  have h := rd0_T_Trait (S := S) (w := w)
  rw [e_T_Trait_eq] at h ⊢
  simp only [Rd] at h; simp only [RdV]; exact ⟨_, rfl, h⟩
structure T_Impl where
  fTrait : Str
  fFor : Str
  fFuncs : List T_Func
def e_T_Impl (x : T_Impl) : D := .agg [eS x.fTrait, eS x.fFor, (eL e_T_Func 15) x.fFuncs]
theorem e_T_Impl_eq (x : T_Impl) : e_T_Impl x = .agg [eS x.fTrait, eS x.fFor, (eL e_T_Func 15) x.fFuncs] := rfl
theorem c_T_Impl (x : T_Impl) : (e_T_Impl x).cells = [eS x.fTrait, eS x.fFor, (eL e_T_Func 15) x.fFuncs] := by rw [e_T_Impl_eq]; rfl
theorem one_T_Impl (x : T_Impl) : OneC [] (e_T_Impl x) := by rw [e_T_Impl_eq]; exact OneC.agg (List.forall_mem_cons.2 ⟨(.val rfl), (List.forall_mem_cons.2 ⟨(.val rfl), (List.forall_mem_cons.2 ⟨.sl, (List.forall_mem_nil _)⟩)⟩)⟩)
theorem rd0_T_Impl {S : Nat → Prop} {w : World} : Rd S w (e_T_Impl (T_Impl.mk ([] : Str) ([] : Str) ([] : List T_Func))) [bs [], bs [], .slice none 0 0] := by
  rw [e_T_Impl_eq]; simp only [Rd, RdCs]; exact ⟨_, _, rfl, rd0_S, ⟨_, _, rfl, rd0_S, ⟨_, _, rfl, rd0_L, rfl⟩⟩⟩
theorem rv0_T_Impl {S : Nat → Prop} {w : World} : RdV S w (e_T_Impl (T_Impl.mk ([] : Str) ([] : Str) ([] : List T_Func))) (.agg [bs [], bs [], .slice none 0 0].toArray) := by
  have h := rd0_T_Impl (S := S) (w := w)
  rw [e_T_Impl_eq] at h ⊢
  simp only [Rd] at h; simp only [RdV]; exact ⟨_, rfl, h⟩
structure T_Actor where
  fName : Str
  fNames : List Str
  fTypes : List T_Type
  fMsg : T_Type
  fBody : T_Expr
def e_T_Actor (x : T_Actor) : D := .agg [eS x.fName, (eL eS 1) x.fNames, (eL e_T_Type 3) x.fTypes, (eI .i64) x.fMsg.fKind, eS x.fMsg.fName, (eL e_T_Type 3) x.fMsg.fArgs, (eI .i64) x.fBody.fKind, (eI .i64) x.fBody.fNum, eS x.fBody.fText, (eL eS 1) x.fBody.fNames, (eL e_T_Type 3) x.fBody.fTypes, (eL e_T_Expr 8) x.fBody.fArgs, (eL e_T_Arm 12) x.fBody.fArms, (eI .i64) x.fBody.fAt]
theorem e_T_Actor_eq (x : T_Actor) : e_T_Actor x = .agg [eS x.fName, (eL eS 1) x.fNames, (eL e_T_Type 3) x.fTypes, (eI .i64) x.fMsg.fKind, eS x.fMsg.fName, (eL e_T_Type 3) x.fMsg.fArgs, (eI .i64) x.fBody.fKind, (eI .i64) x.fBody.fNum, eS x.fBody.fText, (eL eS 1) x.fBody.fNames, (eL e_T_Type 3) x.fBody.fTypes, (eL e_T_Expr 8) x.fBody.fArgs, (eL e_T_Arm 12) x.fBody.fArms, (eI .i64) x.fBody.fAt] := rfl
theorem c_T_Actor (x : T_Actor) : (e_T_Actor x).cells = [eS x.fName, (eL eS 1) x.fNames, (eL e_T_Type 3) x.fTypes, (eI .i64) x.fMsg.fKind, eS x.fMsg.fName, (eL e_T_Type 3) x.fMsg.fArgs, (eI .i64) x.fBody.fKind, (eI .i64) x.fBody.fNum, eS x.fBody.fText, (eL eS 1) x.fBody.fNames, (eL e_T_Type 3) x.fBody.fTypes, (eL e_T_Expr 8) x.fBody.fArgs, (eL e_T_Arm 12) x.fBody.fArms, (eI .i64) x.fBody.fAt] := by rw [e_T_Actor_eq]; rfl
theorem one_T_Actor (x : T_Actor) : OneC [] (e_T_Actor x) := by rw [e_T_Actor_eq]; exact OneC.agg (List.forall_mem_cons.2 ⟨(.val rfl), (List.forall_mem_cons.2 ⟨.sl, (List.forall_mem_cons.2 ⟨.sl, (List.forall_mem_cons.2 ⟨(.val rfl), (List.forall_mem_cons.2 ⟨(.val rfl), (List.forall_mem_cons.2 ⟨.sl, (List.forall_mem_cons.2 ⟨(.val rfl), (List.forall_mem_cons.2 ⟨(.val rfl), (List.forall_mem_cons.2 ⟨(.val rfl), (List.forall_mem_cons.2 ⟨.sl, (List.forall_mem_cons.2 ⟨.sl, (List.forall_mem_cons.2 ⟨.sl, (List.forall_mem_cons.2 ⟨.sl, (List.forall_mem_cons.2 ⟨(.val rfl), (List.forall_mem_nil _)⟩)⟩)⟩)⟩)⟩)⟩)⟩)⟩)⟩)⟩)⟩)⟩)⟩)⟩)
theorem rd0_T_Actor {S : Nat → Prop} {w : World} : Rd S w (e_T_Actor (T_Actor.mk ([] : Str) ([] : List Str) ([] : List T_Type) (T_Type.mk (0 : Int) ([] : Str) ([] : List T_Type)) (T_Expr.mk (0 : Int) (0 : Int) ([] : Str) ([] : List Str) ([] : List T_Type) ([] : List T_Expr) ([] : List T_Arm) (0 : Int)))) [bs [], .slice none 0 0, .slice none 0 0, .int .i64 0, bs [], .slice none 0 0, .int .i64 0, .int .i64 0, bs [], .slice none 0 0, .slice none 0 0, .slice none 0 0, .slice none 0 0, .int .i64 0] := by
  rw [e_T_Actor_eq]; simp only [Rd, RdCs]; exact ⟨_, _, rfl, rd0_S, ⟨_, _, rfl, rd0_L, ⟨_, _, rfl, rd0_L, ⟨_, _, rfl, rd0_I, ⟨_, _, rfl, rd0_S, ⟨_, _, rfl, rd0_L, ⟨_, _, rfl, rd0_I, ⟨_, _, rfl, rd0_I, ⟨_, _, rfl, rd0_S, ⟨_, _, rfl, rd0_L, ⟨_, _, rfl, rd0_L, ⟨_, _, rfl, rd0_L, ⟨_, _, rfl, rd0_L, ⟨_, _, rfl, rd0_I, rfl⟩⟩⟩⟩⟩⟩⟩⟩⟩⟩⟩⟩⟩⟩
theorem rv0_T_Actor {S : Nat → Prop} {w : World} : RdV S w (e_T_Actor (T_Actor.mk ([] : Str) ([] : List Str) ([] : List T_Type) (T_Type.mk (0 : Int) ([] : Str) ([] : List T_Type)) (T_Expr.mk (0 : Int) (0 : Int) ([] : Str) ([] : List Str) ([] : List T_Type) ([] : List T_Expr) ([] : List T_Arm) (0 : Int)))) (.agg [bs [], .slice none 0 0, .slice none 0 0, .int .i64 0, bs [], .slice none 0 0, .int .i64 0, .int .i64 0, bs [], .slice none 0 0, .slice none 0 0, .slice none 0 0, .slice none 0 0, .int .i64 0].toArray) := by
  have h := rd0_T_Actor (S := S) (w := w)
  rw [e_T_Actor_eq] at h ⊢
  simp only [Rd] at h; simp only [RdV]; exact ⟨_, rfl, h⟩
structure T_Program where
  fName : Str
  fVersion : Int
  fUses : List T_Use
  fDatas : List T_Data
  fTraits : List T_Trait
  fImpls : List T_Impl
  fFuncs : List T_Func
  fActors : List T_Actor
def e_T_Program (x : T_Program) : D := .agg [eS x.fName, (eI .i64) x.fVersion, (eL e_T_Use 3) x.fUses, (eL e_T_Data 3) x.fDatas, (eL e_T_Trait 2) x.fTraits, (eL e_T_Impl 3) x.fImpls, (eL e_T_Func 15) x.fFuncs, (eL e_T_Actor 14) x.fActors]
theorem e_T_Program_eq (x : T_Program) : e_T_Program x = .agg [eS x.fName, (eI .i64) x.fVersion, (eL e_T_Use 3) x.fUses, (eL e_T_Data 3) x.fDatas, (eL e_T_Trait 2) x.fTraits, (eL e_T_Impl 3) x.fImpls, (eL e_T_Func 15) x.fFuncs, (eL e_T_Actor 14) x.fActors] := rfl
theorem c_T_Program (x : T_Program) : (e_T_Program x).cells = [eS x.fName, (eI .i64) x.fVersion, (eL e_T_Use 3) x.fUses, (eL e_T_Data 3) x.fDatas, (eL e_T_Trait 2) x.fTraits, (eL e_T_Impl 3) x.fImpls, (eL e_T_Func 15) x.fFuncs, (eL e_T_Actor 14) x.fActors] := by rw [e_T_Program_eq]; rfl
theorem one_T_Program (x : T_Program) : OneC [] (e_T_Program x) := by rw [e_T_Program_eq]; exact OneC.agg (List.forall_mem_cons.2 ⟨(.val rfl), (List.forall_mem_cons.2 ⟨(.val rfl), (List.forall_mem_cons.2 ⟨.sl, (List.forall_mem_cons.2 ⟨.sl, (List.forall_mem_cons.2 ⟨.sl, (List.forall_mem_cons.2 ⟨.sl, (List.forall_mem_cons.2 ⟨.sl, (List.forall_mem_cons.2 ⟨.sl, (List.forall_mem_nil _)⟩)⟩)⟩)⟩)⟩)⟩)⟩)⟩)
theorem rd0_T_Program {S : Nat → Prop} {w : World} : Rd S w (e_T_Program (T_Program.mk ([] : Str) (0 : Int) ([] : List T_Use) ([] : List T_Data) ([] : List T_Trait) ([] : List T_Impl) ([] : List T_Func) ([] : List T_Actor))) [bs [], .int .i64 0, .slice none 0 0, .slice none 0 0, .slice none 0 0, .slice none 0 0, .slice none 0 0, .slice none 0 0] := by
  rw [e_T_Program_eq]; simp only [Rd, RdCs]; exact ⟨_, _, rfl, rd0_S, ⟨_, _, rfl, rd0_I, ⟨_, _, rfl, rd0_L, ⟨_, _, rfl, rd0_L, ⟨_, _, rfl, rd0_L, ⟨_, _, rfl, rd0_L, ⟨_, _, rfl, rd0_L, ⟨_, _, rfl, rd0_L, rfl⟩⟩⟩⟩⟩⟩⟩⟩
theorem rv0_T_Program {S : Nat → Prop} {w : World} : RdV S w (e_T_Program (T_Program.mk ([] : Str) (0 : Int) ([] : List T_Use) ([] : List T_Data) ([] : List T_Trait) ([] : List T_Impl) ([] : List T_Func) ([] : List T_Actor))) (.agg [bs [], .int .i64 0, .slice none 0 0, .slice none 0 0, .slice none 0 0, .slice none 0 0, .slice none 0 0, .slice none 0 0].toArray) := by
  have h := rd0_T_Program (S := S) (w := w)
  rw [e_T_Program_eq] at h ⊢
  simp only [Rd] at h; simp only [RdV]; exact ⟨_, rfl, h⟩
structure T_Wrong where
  fE : Int
  fAt : Int
  deriving DecidableEq
def e_T_Wrong (x : T_Wrong) : D := .agg [(eI .i64) x.fE, (eI .i64) x.fAt]
theorem e_T_Wrong_eq (x : T_Wrong) : e_T_Wrong x = .agg [(eI .i64) x.fE, (eI .i64) x.fAt] := rfl
theorem c_T_Wrong (x : T_Wrong) : (e_T_Wrong x).cells = [(eI .i64) x.fE, (eI .i64) x.fAt] := by rw [e_T_Wrong_eq]; rfl
theorem one_T_Wrong (x : T_Wrong) : OneC [] (e_T_Wrong x) := by rw [e_T_Wrong_eq]; exact OneC.agg (List.forall_mem_cons.2 ⟨(.val rfl), (List.forall_mem_cons.2 ⟨(.val rfl), (List.forall_mem_nil _)⟩)⟩)
theorem rd0_T_Wrong {S : Nat → Prop} {w : World} : Rd S w (e_T_Wrong (T_Wrong.mk (0 : Int) (0 : Int))) [.int .i64 0, .int .i64 0] := by
  rw [e_T_Wrong_eq]; simp only [Rd, RdCs]; exact ⟨_, _, rfl, rd0_I, ⟨_, _, rfl, rd0_I, rfl⟩⟩
theorem rv0_T_Wrong {S : Nat → Prop} {w : World} : RdV S w (e_T_Wrong (T_Wrong.mk (0 : Int) (0 : Int))) (.agg [.int .i64 0, .int .i64 0].toArray) := by
  have h := rd0_T_Wrong (S := S) (w := w)
  rw [e_T_Wrong_eq] at h ⊢
  simp only [Rd] at h; simp only [RdV]; exact ⟨_, rfl, h⟩
theorem inf26 : (Try.prog.info? 59).map (fun i => (i.zero, i.size, i.bytes)) = some (some (.agg [bs [], .slice none 0 0, .slice none 0 0, .slice none 0 0, .int .i64 0, bs [], .slice none 0 0, .int .i64 0, .int .i64 0, bs [], .slice none 0 0, .slice none 0 0, .slice none 0 0, .slice none 0 0, .int .i64 0].toArray), 15, 272) := by kernel_rfl
theorem elt26 : Elt Try.prog 26 59 15 272 [bs [], .slice none 0 0, .slice none 0 0, .slice none 0 0, .int .i64 0, bs [], .slice none 0 0, .int .i64 0, .int .i64 0, bs [], .slice none 0 0, .slice none 0 0, .slice none 0 0, .slice none 0 0, .int .i64 0] := Elt.of Try.underlying26 inf26 rfl (by decide) rfl
theorem inf30 : (Try.prog.info? 9).map (fun i => (i.zero, i.size, i.bytes)) = some (some (bs []), 1, 16) := by kernel_rfl
theorem elt30 : Elt Try.prog 30 9 1 16 [bs []] := Elt.of Try.underlying30 inf30 rfl (by decide) rfl
theorem inf42 : (Try.prog.info? 47).map (fun i => (i.zero, i.size, i.bytes)) = some (some (.agg [.int .i64 0, .int .i64 0, bs [], .slice none 0 0, .slice none 0 0, .slice none 0 0, .slice none 0 0, .int .i64 0].toArray), 8, 136) := by kernel_rfl
theorem elt42 : Elt Try.prog 42 47 8 136 [.int .i64 0, .int .i64 0, bs [], .slice none 0 0, .slice none 0 0, .slice none 0 0, .slice none 0 0, .int .i64 0] := Elt.of Try.underlying42 inf42 rfl (by decide) rfl
theorem inf74 : (Try.prog.info? 30).map (fun i => (i.zero, i.size, i.bytes)) = some (some (.slice none 0 0), 1, 24) := by kernel_rfl
theorem elt74 : Elt Try.prog 74 30 1 24 [.slice none 0 0] := Elt.of Try.underlying74 inf74 rfl (by decide) rfl
theorem inf81 : (Try.prog.info? 83).map (fun i => (i.zero, i.size, i.bytes)) = some (some (.agg [.int .i64 0, .int .i64 0, bs [], .slice none 0 0].toArray), 4, 56) := by kernel_rfl
theorem elt81 : Elt Try.prog 81 83 4 56 [.int .i64 0, .int .i64 0, bs [], .slice none 0 0] := Elt.of Try.underlying81 inf81 rfl (by decide) rfl
theorem blt36 : Blt Try.prog 36 [.int .i64 0, .int .i64 0] (fun i => ([(0, 1), (1, 1)] : List (Nat × Nat))[i]?) := Blt.struct (by kernel_rfl) Try.underlying36 (by kernel_rfl)
theorem blt90 : Blt Try.prog 90 [.map none, .map none, .map none, .map none] (fun i => ([(0, 1), (1, 1), (2, 1), (3, 1)] : List (Nat × Nat))[i]?) := Blt.struct (by kernel_rfl) Try.underlying90 (by kernel_rfl)
theorem Try_mixed : Try.prog.follows .mixedOrders = true := by kernel_rfl
abbrev Gl : List (Nat × D) := []
abbrev lf_T_Func (x : T_Func) : List D := [.val (bs x.fName), eL eS 1 x.fParams, eL eS 1 x.fNames, eL e_T_Type 3 x.fTypes, .val (.int .i64 x.fOut.fKind), .val (bs x.fOut.fName), eL e_T_Type 3 x.fOut.fArgs, .val (.int .i64 x.fBody.fKind), .val (.int .i64 x.fBody.fNum), .val (bs x.fBody.fText), eL eS 1 x.fBody.fNames, eL e_T_Type 3 x.fBody.fTypes, eL e_T_Expr 8 x.fBody.fArgs, eL e_T_Arm 12 x.fBody.fArms, .val (.int .i64 x.fBody.fAt)]
abbrev lf_T_Actor (x : T_Actor) : List D := [.val (bs x.fName), eL eS 1 x.fNames, eL e_T_Type 3 x.fTypes, .val (.int .i64 x.fMsg.fKind), .val (bs x.fMsg.fName), eL e_T_Type 3 x.fMsg.fArgs, .val (.int .i64 x.fBody.fKind), .val (.int .i64 x.fBody.fNum), .val (bs x.fBody.fText), eL eS 1 x.fBody.fNames, eL e_T_Type 3 x.fBody.fTypes, eL e_T_Expr 8 x.fBody.fArgs, eL e_T_Arm 12 x.fBody.fArms, .val (.int .i64 x.fBody.fAt)]
abbrev lf_T_Arm (x : T_Arm) : List D := [.val (.int .i64 x.fPat.fKind), .val (.int .i64 x.fPat.fNum), .val (bs x.fPat.fText), eL e_T_Pat 4 x.fPat.fArgs, .val (.int .i64 x.fBody.fKind), .val (.int .i64 x.fBody.fNum), .val (bs x.fBody.fText), eL eS 1 x.fBody.fNames, eL e_T_Type 3 x.fBody.fTypes, eL e_T_Expr 8 x.fBody.fArgs, eL e_T_Arm 12 x.fBody.fArms, .val (.int .i64 x.fBody.fAt)]
abbrev lf_T_Program (x : T_Program) : List D := [.val (bs x.fName), .val (.int .i64 x.fVersion), eL e_T_Use 3 x.fUses, eL e_T_Data 3 x.fDatas, eL e_T_Trait 2 x.fTraits, eL e_T_Impl 3 x.fImpls, eL e_T_Func 15 x.fFuncs, eL e_T_Actor 14 x.fActors]
abbrev lf_T_Expr (x : T_Expr) : List D := [.val (.int .i64 x.fKind), .val (.int .i64 x.fNum), .val (bs x.fText), eL eS 1 x.fNames, eL e_T_Type 3 x.fTypes, eL e_T_Expr 8 x.fArgs, eL e_T_Arm 12 x.fArms, .val (.int .i64 x.fAt)]
abbrev lf_T_Pat (x : T_Pat) : List D := [.val (.int .i64 x.fKind), .val (.int .i64 x.fNum), .val (bs x.fText), eL e_T_Pat 4 x.fArgs]
abbrev lf_T_Impl (x : T_Impl) : List D := [.val (bs x.fTrait), .val (bs x.fFor), eL e_T_Func 15 x.fFuncs]
abbrev lf_T_Use (x : T_Use) : List D := [.val (bs x.fName), .val (.int .i64 x.fLow), .val (.int .i64 x.fHigh)]
abbrev lf_T_Data (x : T_Data) : List D := [.val (bs x.fName), eL eS 1 x.fParams, eL e_T_Make 2 x.fMakes]
/-! roadstead/roadref2.FunsOf -/
def roadref2_FunsOf.l1  : List (T_Impl) → (List T_Func) → Option (List T_Func)
  | [], x11 => some x11
  | y14 :: rest15, x11 => (app 517417236600 x11 y14.fFuncs).bind fun l33 => roadref2_FunsOf.l1 rest15 l33

theorem roadref2_FunsOf.l1_nil  {x11 : List T_Func} : roadref2_FunsOf.l1  [] x11 = some x11 := rfl
theorem roadref2_FunsOf.l1_cons  {y14 : T_Impl} {rest15 : List (T_Impl)} {x11 : List T_Func} : roadref2_FunsOf.l1  (y14 :: rest15) x11 = (app 517417236600 x11 y14.fFuncs).bind fun l33 => roadref2_FunsOf.l1 rest15 l33 := rfl
def roadref2_FunsOf.Spec (F : T_Program → Option (List T_Func)) : Prop := ∀ {b0 : T_Program} {out : List T_Func}, F b0 = some out → Ct Gl Try.prog 26 [.agg (lf_T_Program b0)] [] (fun x : Value => .val x) (fun x : Value => [.row x 59 15 (out.map e_T_Func)])
def roadref2_FunsOf (b0 : T_Program) : Option (List T_Func) := (roadref2_FunsOf.l1 b0.fImpls ([] : List T_Func)).bind fun b38 => (app 517417236600 b38 b0.fFuncs).bind fun l43 => some l43
set_option maxRecDepth 100000 in
theorem roadref2_FunsOf_ok : roadref2_FunsOf.Spec (roadref2_FunsOf) := by
 intro b0 out hp
 refine ct_of_G (nt := 22) Try.func26 rfl Try.ntmps26 rfl (fun B => ?_) hp
 unfold roadref2_FunsOf
 refine G.seq fun K1 hK2 => ?_
 refine G.region ?_
 refine G.op rfl (O.box (.of rfl) (OneC.agg (List.forall_mem_cons.2 ⟨(.val rfl), (List.forall_mem_cons.2 ⟨(.val rfl), (List.forall_mem_cons.2 ⟨.sl, (List.forall_mem_cons.2 ⟨.sl, (List.forall_mem_cons.2 ⟨.sl, (List.forall_mem_cons.2 ⟨.sl, (List.forall_mem_cons.2 ⟨.sl, (List.forall_mem_cons.2 ⟨.sl, (List.forall_mem_nil _)⟩)⟩)⟩)⟩)⟩)⟩)⟩)⟩))) fun g3 => ?_
 refine G.p rfl (V.assign rfl) ?_
 refine G.nil ?_
 refine G.norm (L' := [(1, .val (.pointer (some ⟨g3, 0, none⟩)))]) (is := [1]) (R' := [.cells g3 29 (lf_T_Program b0)]) (js := [0]) rfl rfl ?_
 refine G.next_ hK2 ?_
 refine G.seq fun K4 hK5 => ?_
 refine G.region ?_
 refine G.p rfl (V.assign rfl) ?_
 refine G.nil ?_
 refine G.norm (L' := [(1, .val (.pointer (some ⟨g3, 0, none⟩))), (3, .val (.slice none 0 0))]) (is := [1, 3]) (R' := [.cells g3 29 (lf_T_Program b0)]) (js := [0]) rfl rfl ?_
 refine G.next_ hK5 ?_
 refine G.seq fun K6 hK7 => ?_
 refine G.seq fun K8 hK9 => ?_
 refine G.region ?_
 refine G.p rfl (V.fieldAddr (o' := 5) rfl Try.runUnderlying29 rfl Try.sizeOf25 rfl) ?_
 refine G.q rfl (V.load_cell (i := 0) (ds := (lf_T_Program b0)) (d := eL e_T_Impl 3 b0.fImpls) rfl rfl Try.isAgg25 rfl rfl) ?_
 refine G.lenb (enc := e_T_Impl) (xs := b0.fImpls) (sz := 3) (x := .tmp 7) (.of rfl) fun hN10 => ?_
 refine G.p rfl (V.len_sl (enc := e_T_Impl) (xs := b0.fImpls) (sz := 3) (.of rfl) Try.runUnderlying25) ?_
 refine G.p rfl (V.move rfl) ?_
 refine G.nil ?_
 refine G.norm (L' := [(1, .val (.pointer (some ⟨g3, 0, none⟩))), (3, .val (.slice none 0 0)), (7, eL e_T_Impl 3 b0.fImpls), (8, .val (.int .i64 (b0.fImpls.length : Int))), (9, .val (.int .i64 0))]) (is := [1, 3, 7, 8, 9]) (R' := [.cells g3 29 (lf_T_Program b0)]) (js := [0]) rfl rfl ?_
 refine G.next_ hK9 ?_
 refine G.join (E := fun b a w => ∃ (g_0 : Value), Ass Gl B 22 [(1, .val (.pointer (some ⟨g3, 0, none⟩))), (3, .val g_0)] [.cells g3 29 (lf_T_Program b0), .row g_0 59 15 (b.map e_T_Func)] a w) ?_ ?_
 ·intro b hF18
  refine G.block ?_
  refine G.nilrow 59 15 none ?_
  refine G.norm (L' := [(1, .val (.pointer (some ⟨g3, 0, none⟩))), (3, .val (.slice none 0 0)), (7, eL e_T_Impl 3 b0.fImpls), (8, .val (.int .i64 (b0.fImpls.length : Int))), (9, .val (.int .i64 ((0 : Nat) : Int)))]) (is := [1, 3, 7, 8, 9]) (R' := [.cells g3 29 (lf_T_Program b0), .row (.slice none 0 0) 59 15 (([] : List T_Func).map e_T_Func)]) (js := [1, 0]) rfl rfl ?_
  refine G.loop (fun kq a w => ∃ (rest15 : List (T_Impl)) (i13 : Nat) (x11 : List T_Func), kq = rest15.length ∧ roadref2_FunsOf.l1 rest15 x11 = some b ∧ b0.fImpls.drop i13 = rest15 ∧ ∃ (g_0 : Value), Ass Gl B 22 [(1, .val (.pointer (some ⟨g3, 0, none⟩))), (3, .val g_0), (7, eL e_T_Impl 3 b0.fImpls), (8, .val (.int .i64 (b0.fImpls.length : Int))), (9, .val (.int .i64 (i13 : Int)))] [.cells g3 29 (lf_T_Program b0), .row g_0 59 15 (x11.map e_T_Func)] a w) (b0.fImpls.length) ?_ ?_
  ·intro hl37 a w hA
   exact ⟨b0.fImpls, 0, ([] : List T_Func), rfl, hl37, rfl, ⟨_, hA⟩⟩
  ·rintro _ a w ⟨rest15, i13, x11, rfl, hl19, hd16, ⟨g12, hA⟩⟩
   rcases rest15 with _ | ⟨y14, rest15⟩
   ·rw [roadref2_FunsOf.l1_nil] at hl19
    refine G.use hl19 hA ?_
    refine G.seq fun K20 hK21 => ?_
    refine G.region ?_
    refine G.p rfl (V.bin (u := .int .i64 (i13 : Int)) (v := .int .i64 (b0.fImpls.length : Int)) (r := .bool (decide ((i13 : Int) < (b0.fImpls.length : Int)))) rfl rfl b_lss) ?_
    refine G.nil ?_
    refine G.norm (L' := [(1, .val (.pointer (some ⟨g3, 0, none⟩))), (3, .val g12), (7, eL e_T_Impl 3 b0.fImpls), (8, .val (.int .i64 (b0.fImpls.length : Int))), (9, .val (.int .i64 (i13 : Int))), (10, .val (.bool (decide ((i13 : Int) < (b0.fImpls.length : Int)))))]) (is := [1, 3, 7, 8, 9, 10]) (R' := [.cells g3 29 (lf_T_Program b0), .row g12 59 15 (x11.map e_T_Func)]) (js := [0, 0]) rfl rfl ?_
    refine G.next_ hK21 ?_
    refine G.seq fun K22 hK23 => ?_
    refine G.no rfl (rng_end hd16) ?_
    refine G.exit ?_
    refine G.thn_exit ?_
    refine G.thn_exit ?_
    refine G.inB_eq ?_
    refine G.norm (L' := [(1, .val (.pointer (some ⟨g3, 0, none⟩))), (3, .val g12)]) (is := [1, 3]) (R' := [.cells g3 29 (lf_T_Program b0), .row g12 59 15 (x11.map e_T_Func)]) (js := [0, 0]) rfl rfl ?_
    exact G.finE fun hb a w hA => by subst hb; exact ⟨_, hA⟩
   ·rw [roadref2_FunsOf.l1_cons] at hl19
    refine G.use hl19 hA ?_
    refine G.seq fun K24 hK25 => ?_
    refine G.region ?_
    refine G.p rfl (V.bin (u := .int .i64 (i13 : Int)) (v := .int .i64 (b0.fImpls.length : Int)) (r := .bool (decide ((i13 : Int) < (b0.fImpls.length : Int)))) rfl rfl b_lss) ?_
    refine G.nil ?_
    refine G.norm (L' := [(1, .val (.pointer (some ⟨g3, 0, none⟩))), (3, .val g12), (7, eL e_T_Impl 3 b0.fImpls), (8, .val (.int .i64 (b0.fImpls.length : Int))), (9, .val (.int .i64 (i13 : Int))), (10, .val (.bool (decide ((i13 : Int) < (b0.fImpls.length : Int)))))]) (is := [1, 3, 7, 8, 9, 10]) (R' := [.cells g3 29 (lf_T_Program b0), .row g12 59 15 (x11.map e_T_Func)]) (js := [0, 0]) rfl rfl ?_
    refine G.next_ hK25 ?_
    refine G.seq fun K26 hK27 => ?_
    refine G.yes rfl (rng_more hd16) ?_
    refine G.skip ?_
    refine G.next_ hK27 ?_
    refine G.seq fun K28 hK29 => ?_
    refine G.block ?_
    refine G.seq fun K30 hK31 => ?_
    refine G.region ?_
    refine G.p rfl (V.at_sl (k := i13) rfl rfl Try.runUnderlying25 Try.sizeOf63 (map_at (rng_at hd16))) ?_
    refine G.q rfl (V.load_ptrN (ds := (lf_T_Impl y14)) rfl (e_T_Impl_eq y14) Try.isAgg63 Try.sizeOf63 rfl) ?_
    refine G.op rfl (O.alloc (ds := [.val (bs ([] : Str)), .val (bs ([] : Str)), .val (.slice none 0 0)]) Try.zeroValue63 rfl) fun g32 => ?_
    refine G.opn (O.store (i := 0) (o := 0) (ds := [.val (bs ([] : Str)), .val (bs ([] : Str)), .val (.slice none 0 0)]) rfl (.of rfl) rfl (OneC.agg (List.forall_mem_cons.2 ⟨(.val rfl), (List.forall_mem_cons.2 ⟨(.val rfl), (List.forall_mem_cons.2 ⟨.sl, (List.forall_mem_nil _)⟩)⟩)⟩)) Try.sizeOf63 rfl rfl) fun _ => ?_
    refine G.nil ?_
    refine G.norm (L' := [(1, .val (.pointer (some ⟨g3, 0, none⟩))), (3, .val g12), (5, .val (.pointer (some ⟨g32, 0, none⟩))), (7, eL e_T_Impl 3 b0.fImpls), (8, .val (.int .i64 (b0.fImpls.length : Int))), (9, .val (.int .i64 (i13 : Int)))]) (is := [1, 3, 5, 7, 8, 9]) (R' := [.cells g32 63 (lf_T_Impl y14), .cells g3 29 (lf_T_Program b0), .row g12 59 15 (x11.map e_T_Func)]) (js := [0, 0, 0]) rfl rfl ?_
    refine G.next_ hK31 ?_
    refine G.region ?_
    refine G.p rfl (V.move rfl) ?_
    refine G.p rfl (V.fieldAddr (o' := 2) rfl Try.runUnderlying63 rfl Try.sizeOf26 rfl) ?_
    refine G.q rfl (V.load_cell (i := 0) (ds := (lf_T_Impl y14)) (d := eL e_T_Func 15 y14.fFuncs) rfl rfl Try.isAgg26 rfl rfl) ?_
    refine G.bind fun l33 hl34 => ?_
    refine G.op rfl (O.append (i := 2) (enc := e_T_Func) (xs := x11) (ys := y14.fFuncs) (lim := 517417236600) elt26 rfl rfl (.of rfl) (by decide) (by decide) one_T_Func hl34) fun v35 => ?_
    refine G.p rfl (V.assign rfl) ?_
    refine G.nil ?_
    refine G.norm (L' := [(1, .val (.pointer (some ⟨g3, 0, none⟩))), (3, .val v35), (7, eL e_T_Impl 3 b0.fImpls), (8, .val (.int .i64 (b0.fImpls.length : Int))), (9, .val (.int .i64 (i13 : Int)))]) (is := [1, 3, 7, 8, 9]) (R' := [.cells g3 29 (lf_T_Program b0), .row v35 59 15 (l33.map e_T_Func)]) (js := [1, 1]) rfl rfl ?_
    refine G.inB ?_
    refine G.next_ hK29 ?_
    refine G.region ?_
    refine G.p rfl (V.incr (i := i13) (N := b0.fImpls.length) rfl rfl (rng_lt hd16) (hN10)) ?_
    refine G.p rfl (V.move rfl) ?_
    refine G.nil ?_
    refine G.norm (L' := [(1, .val (.pointer (some ⟨g3, 0, none⟩))), (3, .val v35), (7, eL e_T_Impl 3 b0.fImpls), (8, .val (.int .i64 (b0.fImpls.length : Int))), (9, .val (.int .i64 ((i13 + 1 : Nat) : Int)))]) (is := [1, 3, 7, 8, 9]) (R' := [.cells g3 29 (lf_T_Program b0), .row v35 59 15 (l33.map e_T_Func)]) (js := [0, 0]) rfl rfl ?_
    refine G.again ?_
    intro hl36 a w hA
    exact ⟨_, Nat.lt_succ_self _, rest15, i13 + 1, l33, rfl, hl36, rng_next hd16, ⟨_, hA⟩⟩
 ·rintro b38 hb a w ⟨g39, hA⟩ hF40
  refine G.use hF40 hA ?_
  refine G.next_ hK7 ?_
  refine G.seq fun K41 hK42 => ?_
  refine G.region ?_
  refine G.p rfl (V.move rfl) ?_
  refine G.p rfl (V.fieldAddr (o' := 6) rfl Try.runUnderlying29 rfl Try.sizeOf26 rfl) ?_
  refine G.q rfl (V.load_cell (i := 0) (ds := (lf_T_Program b0)) (d := eL e_T_Func 15 b0.fFuncs) rfl rfl Try.isAgg26 rfl rfl) ?_
  refine G.bind fun l43 hl44 => ?_
  refine G.op rfl (O.append (i := 1) (enc := e_T_Func) (xs := b38) (ys := b0.fFuncs) (lim := 517417236600) elt26 rfl rfl (.of rfl) (by decide) (by decide) one_T_Func hl44) fun v45 => ?_
  refine G.p rfl (V.assign rfl) ?_
  refine G.nil ?_
  refine G.norm (L' := [(2, .val v45)]) (is := [2]) (R' := [.row v45 59 15 (l43.map e_T_Func)]) (js := [1]) rfl rfl ?_
  refine G.next_ hK42 ?_
  refine G.ret ?_
  refine G.fin_ fun hF46 => ?_
  obtain rfl := Option.some.inj hF46
  exact G.ret1 Try.results26 v45 (is := [0]) (.of rfl) rfl
/-! roadstead/roadref2.BodiesOf -/
def roadref2_BodiesOf.l1  : List (T_Func) → (List T_Expr) → Option (List T_Expr)
  | [], x14 => some x14
  | y17 :: rest18, x14 => (app 1034834473200 x14 ([y17.fBody] : List T_Expr)).bind fun l37 => roadref2_BodiesOf.l1 rest18 l37

theorem roadref2_BodiesOf.l1_nil  {x14 : List T_Expr} : roadref2_BodiesOf.l1  [] x14 = some x14 := rfl
theorem roadref2_BodiesOf.l1_cons  {y17 : T_Func} {rest18 : List (T_Func)} {x14 : List T_Expr} : roadref2_BodiesOf.l1  (y17 :: rest18) x14 = (app 1034834473200 x14 ([y17.fBody] : List T_Expr)).bind fun l37 => roadref2_BodiesOf.l1 rest18 l37 := rfl
def roadref2_BodiesOf.l2  : List (T_Actor) → (List T_Expr) → Option (List T_Expr)
  | [], x50 => some x50
  | y53 :: rest54, x50 => (app 1034834473200 x50 ([y53.fBody] : List T_Expr)).bind fun l73 => roadref2_BodiesOf.l2 rest54 l73

theorem roadref2_BodiesOf.l2_nil  {x50 : List T_Expr} : roadref2_BodiesOf.l2  [] x50 = some x50 := rfl
theorem roadref2_BodiesOf.l2_cons  {y53 : T_Actor} {rest54 : List (T_Actor)} {x50 : List T_Expr} : roadref2_BodiesOf.l2  (y53 :: rest54) x50 = (app 1034834473200 x50 ([y53.fBody] : List T_Expr)).bind fun l73 => roadref2_BodiesOf.l2 rest54 l73 := rfl
def roadref2_BodiesOf.Spec (F : T_Program → Option (List T_Expr)) : Prop := ∀ {b0 : T_Program} {out : List T_Expr}, F b0 = some out → Ct Gl Try.prog 12 [.agg (lf_T_Program b0)] [] (fun x : Value => .val x) (fun x : Value => [.row x 47 8 (out.map e_T_Expr)])
def roadref2_BodiesOf (b0 : T_Program) : Option (List T_Expr) := (roadref2_FunsOf b0).bind fun r10 => (roadref2_BodiesOf.l1 r10 ([] : List T_Expr)).bind fun b42 => (roadref2_BodiesOf.l2 b0.fActors b42).bind fun b78 => some b78
set_option maxRecDepth 100000 in
theorem roadref2_BodiesOf_ok : roadref2_BodiesOf.Spec (roadref2_BodiesOf) := by
 intro b0 out hp
 refine ct_of_G (nt := 35) Try.func12 rfl Try.ntmps12 rfl (fun B => ?_) hp
 unfold roadref2_BodiesOf
 refine G.seq fun K1 hK2 => ?_
 refine G.region ?_
 refine G.op rfl (O.box (.of rfl) (OneC.agg (List.forall_mem_cons.2 ⟨(.val rfl), (List.forall_mem_cons.2 ⟨(.val rfl), (List.forall_mem_cons.2 ⟨.sl, (List.forall_mem_cons.2 ⟨.sl, (List.forall_mem_cons.2 ⟨.sl, (List.forall_mem_cons.2 ⟨.sl, (List.forall_mem_cons.2 ⟨.sl, (List.forall_mem_cons.2 ⟨.sl, (List.forall_mem_nil _)⟩)⟩)⟩)⟩)⟩)⟩)⟩)⟩))) fun g3 => ?_
 refine G.p rfl (V.assign rfl) ?_
 refine G.nil ?_
 refine G.norm (L' := [(1, .val (.pointer (some ⟨g3, 0, none⟩)))]) (is := [1]) (R' := [.cells g3 29 (lf_T_Program b0)]) (js := [0]) rfl rfl ?_
 refine G.next_ hK2 ?_
 refine G.seq fun K4 hK5 => ?_
 refine G.region ?_
 refine G.p rfl (V.assign rfl) ?_
 refine G.nil ?_
 refine G.norm (L' := [(1, .val (.pointer (some ⟨g3, 0, none⟩))), (3, .val (.slice none 0 0))]) (is := [1, 3]) (R' := [.cells g3 29 (lf_T_Program b0)]) (js := [0]) rfl rfl ?_
 refine G.next_ hK5 ?_
 refine G.seq fun K6 hK7 => ?_
 refine G.seq fun K8 hK9 => ?_
 refine G.region ?_
 refine G.q rfl (V.load_cellN (i := 0) (ds := (lf_T_Program b0)) (c1 := (lf_T_Program b0)) rfl rfl Try.isAgg29 Try.sizeOf29 rfl rfl rfl) ?_
 refine G.bind fun r10 hr11 => ?_
 refine G.op rfl (O.call (xs := [.tmp 8]) (is := []) (Rp := []) (Rr := [.cells g3 29 (lf_T_Program b0)]) (roadref2_FunsOf_ok hr11) (.cons (.of rfl) .nil) Try.call26 rfl) fun x12 => ?_
 refine G.lenr (i := 0) (enc := e_T_Func) (xs := r10) rfl fun hN13 => ?_
 refine G.q rfl (V.len_row (j := 0) (enc := e_T_Func) (xs := r10) rfl rfl Try.runUnderlying26) ?_
 refine G.p rfl (V.move rfl) ?_
 refine G.nil ?_
 refine G.norm (L' := [(1, .val (.pointer (some ⟨g3, 0, none⟩))), (3, .val (.slice none 0 0)), (9, .val x12), (10, .val (.int .i64 (r10.length : Int))), (11, .val (.int .i64 0))]) (is := [1, 3, 9, 10, 11]) (R' := [.row x12 59 15 (r10.map e_T_Func), .cells g3 29 (lf_T_Program b0)]) (js := [0, 0]) rfl rfl ?_
 refine G.next_ hK9 ?_
 refine G.join (E := fun b a w => ∃ (g_0 : Value), Ass Gl B 35 [(1, .val (.pointer (some ⟨g3, 0, none⟩))), (3, .val g_0)] [.cells g3 29 (lf_T_Program b0), .row g_0 47 8 (b.map e_T_Expr)] a w) ?_ ?_
 ·intro b hF21
  refine G.block ?_
  refine G.nilrow 47 8 none ?_
  refine G.norm (L' := [(1, .val (.pointer (some ⟨g3, 0, none⟩))), (3, .val (.slice none 0 0)), (9, .val x12), (10, .val (.int .i64 (r10.length : Int))), (11, .val (.int .i64 ((0 : Nat) : Int)))]) (is := [1, 3, 9, 10, 11]) (R' := [.cells g3 29 (lf_T_Program b0), .row (.slice none 0 0) 47 8 (([] : List T_Expr).map e_T_Expr), .row x12 59 15 (r10.map e_T_Func)]) (js := [2, 0, 0]) rfl rfl ?_
  refine G.loop (fun kq a w => ∃ (rest18 : List (T_Func)) (i16 : Nat) (x14 : List T_Expr), kq = rest18.length ∧ roadref2_BodiesOf.l1 rest18 x14 = some b ∧ r10.drop i16 = rest18 ∧ ∃ (g_0 : Value), Ass Gl B 35 [(1, .val (.pointer (some ⟨g3, 0, none⟩))), (3, .val g_0), (9, .val x12), (10, .val (.int .i64 (r10.length : Int))), (11, .val (.int .i64 (i16 : Int)))] [.cells g3 29 (lf_T_Program b0), .row g_0 47 8 (x14.map e_T_Expr), .row x12 59 15 (r10.map e_T_Func)] a w) (r10.length) ?_ ?_
  ·intro hl41 a w hA
   exact ⟨r10, 0, ([] : List T_Expr), rfl, hl41, rfl, ⟨_, hA⟩⟩
  ·rintro _ a w ⟨rest18, i16, x14, rfl, hl22, hd19, ⟨g15, hA⟩⟩
   rcases rest18 with _ | ⟨y17, rest18⟩
   ·rw [roadref2_BodiesOf.l1_nil] at hl22
    refine G.use hl22 hA ?_
    refine G.seq fun K23 hK24 => ?_
    refine G.region ?_
    refine G.p rfl (V.bin (u := .int .i64 (i16 : Int)) (v := .int .i64 (r10.length : Int)) (r := .bool (decide ((i16 : Int) < (r10.length : Int)))) rfl rfl b_lss) ?_
    refine G.nil ?_
    refine G.norm (L' := [(1, .val (.pointer (some ⟨g3, 0, none⟩))), (3, .val g15), (9, .val x12), (10, .val (.int .i64 (r10.length : Int))), (11, .val (.int .i64 (i16 : Int))), (12, .val (.bool (decide ((i16 : Int) < (r10.length : Int)))))]) (is := [1, 3, 9, 10, 11, 12]) (R' := [.cells g3 29 (lf_T_Program b0), .row g15 47 8 (x14.map e_T_Expr), .row x12 59 15 (r10.map e_T_Func)]) (js := [0, 0, 0]) rfl rfl ?_
    refine G.next_ hK24 ?_
    refine G.seq fun K25 hK26 => ?_
    refine G.no rfl (rng_end hd19) ?_
    refine G.exit ?_
    refine G.thn_exit ?_
    refine G.thn_exit ?_
    refine G.inB_eq ?_
    refine G.norm (L' := [(1, .val (.pointer (some ⟨g3, 0, none⟩))), (3, .val g15)]) (is := [1, 3]) (R' := [.cells g3 29 (lf_T_Program b0), .row g15 47 8 (x14.map e_T_Expr)]) (js := [0, 0]) rfl rfl ?_
    exact G.finE fun hb a w hA => by subst hb; exact ⟨_, hA⟩
   ·rw [roadref2_BodiesOf.l1_cons] at hl22
    refine G.use hl22 hA ?_
    refine G.seq fun K27 hK28 => ?_
    refine G.region ?_
    refine G.p rfl (V.bin (u := .int .i64 (i16 : Int)) (v := .int .i64 (r10.length : Int)) (r := .bool (decide ((i16 : Int) < (r10.length : Int)))) rfl rfl b_lss) ?_
    refine G.nil ?_
    refine G.norm (L' := [(1, .val (.pointer (some ⟨g3, 0, none⟩))), (3, .val g15), (9, .val x12), (10, .val (.int .i64 (r10.length : Int))), (11, .val (.int .i64 (i16 : Int))), (12, .val (.bool (decide ((i16 : Int) < (r10.length : Int)))))]) (is := [1, 3, 9, 10, 11, 12]) (R' := [.cells g3 29 (lf_T_Program b0), .row g15 47 8 (x14.map e_T_Expr), .row x12 59 15 (r10.map e_T_Func)]) (js := [0, 0, 0]) rfl rfl ?_
    refine G.next_ hK28 ?_
    refine G.seq fun K29 hK30 => ?_
    refine G.yes rfl (rng_more hd19) ?_
    refine G.skip ?_
    refine G.next_ hK30 ?_
    refine G.seq fun K31 hK32 => ?_
    refine G.block ?_
    refine G.seq fun K33 hK34 => ?_
    refine G.region ?_
    refine G.q rfl (V.atT_row (k := i16) (i := 2) (enc := e_T_Func) (xs := r10) rfl rfl rfl Try.runUnderlying26 Try.sizeOf59 (rng_at hd19)) ?_
    refine G.q rfl (V.rowTN (i := 2) (enc := e_T_Func) (xs := r10) (j := 0) (c1 := (lf_T_Func y17)) i16 rfl rfl (rng_at hd19) rfl (c_T_Func _) rfl rfl rfl Try.isAgg59 Try.sizeOf59) ?_
    refine G.op rfl (O.alloc (ds := [.val (bs ([] : Str)), .val (.slice none 0 0), .val (.slice none 0 0), .val (.slice none 0 0), .val (.int .i64 0), .val (bs ([] : Str)), .val (.slice none 0 0), .val (.int .i64 0), .val (.int .i64 0), .val (bs ([] : Str)), .val (.slice none 0 0), .val (.slice none 0 0), .val (.slice none 0 0), .val (.slice none 0 0), .val (.int .i64 0)]) Try.zeroValue59 rfl) fun g35 => ?_
    refine G.opn (O.store (i := 0) (o := 0) (ds := [.val (bs ([] : Str)), .val (.slice none 0 0), .val (.slice none 0 0), .val (.slice none 0 0), .val (.int .i64 0), .val (bs ([] : Str)), .val (.slice none 0 0), .val (.int .i64 0), .val (.int .i64 0), .val (bs ([] : Str)), .val (.slice none 0 0), .val (.slice none 0 0), .val (.slice none 0 0), .val (.slice none 0 0), .val (.int .i64 0)]) rfl (.of rfl) rfl (OneC.agg (List.forall_mem_cons.2 ⟨(.val rfl), (List.forall_mem_cons.2 ⟨.sl, (List.forall_mem_cons.2 ⟨.sl, (List.forall_mem_cons.2 ⟨.sl, (List.forall_mem_cons.2 ⟨(.val rfl), (List.forall_mem_cons.2 ⟨(.val rfl), (List.forall_mem_cons.2 ⟨.sl, (List.forall_mem_cons.2 ⟨(.val rfl), (List.forall_mem_cons.2 ⟨(.val rfl), (List.forall_mem_cons.2 ⟨(.val rfl), (List.forall_mem_cons.2 ⟨.sl, (List.forall_mem_cons.2 ⟨.sl, (List.forall_mem_cons.2 ⟨.sl, (List.forall_mem_cons.2 ⟨.sl, (List.forall_mem_cons.2 ⟨(.val rfl), (List.forall_mem_nil _)⟩)⟩)⟩)⟩)⟩)⟩)⟩)⟩)⟩)⟩)⟩)⟩)⟩)⟩)⟩)) Try.sizeOf59 rfl rfl) fun _ => ?_
    refine G.nil ?_
    refine G.norm (L' := [(1, .val (.pointer (some ⟨g3, 0, none⟩))), (3, .val g15), (5, .val (.pointer (some ⟨g35, 0, none⟩))), (9, .val x12), (10, .val (.int .i64 (r10.length : Int))), (11, .val (.int .i64 (i16 : Int)))]) (is := [1, 3, 5, 9, 10, 11]) (R' := [.cells g35 59 (lf_T_Func y17), .cells g3 29 (lf_T_Program b0), .row g15 47 8 (x14.map e_T_Expr), .row x12 59 15 (r10.map e_T_Func)]) (js := [0, 0, 0, 0]) rfl rfl ?_
    refine G.next_ hK34 ?_
    refine G.region ?_
    refine G.p rfl (V.move rfl) ?_
    refine G.p rfl (V.fieldAddr (o' := 7) rfl Try.runUnderlying59 rfl Try.sizeOf47 rfl) ?_
    refine G.q rfl (V.load_cellN (i := 0) (ds := (lf_T_Func y17)) (c1 := (lf_T_Expr y17.fBody)) rfl rfl Try.isAgg47 Try.sizeOf47 rfl rfl rfl) ?_
    refine G.op rfl (O.buildSlice (xs := [.tmp 17]) (ds := ([y17.fBody] : List T_Expr).map e_T_Expr) elt42 rfl (.cons (.eq rfl (e_T_Expr_eq y17.fBody).symm) .nil) rfl (by decide) (List.forall_mem_cons.2 ⟨(fun c hc => (one_T_Expr _ c hc).mono), (List.forall_mem_nil _)⟩) (List.forall_mem_cons.2 ⟨(by rw [c_T_Expr]; rfl), (List.forall_mem_nil _)⟩)) fun v36 => ?_
    refine G.bind fun l37 hl38 => ?_
    refine G.op rfl (O.append_row (i := 3) (j := 0) (enc := e_T_Expr) (xs := x14) (ys := ([y17.fBody] : List T_Expr)) (lim := 1034834473200) elt42 rfl rfl rfl rfl (by decide) (by decide) one_T_Expr hl38) fun v39 => ?_
    refine G.p rfl (V.assign rfl) ?_
    refine G.nil ?_
    refine G.norm (L' := [(1, .val (.pointer (some ⟨g3, 0, none⟩))), (3, .val v39), (9, .val x12), (10, .val (.int .i64 (r10.length : Int))), (11, .val (.int .i64 (i16 : Int)))]) (is := [1, 3, 9, 10, 11]) (R' := [.cells g3 29 (lf_T_Program b0), .row v39 47 8 (l37.map e_T_Expr), .row x12 59 15 (r10.map e_T_Func)]) (js := [2, 2, 2]) rfl rfl ?_
    refine G.inB ?_
    refine G.next_ hK32 ?_
    refine G.region ?_
    refine G.p rfl (V.incr (i := i16) (N := r10.length) rfl rfl (rng_lt hd19) (hN13)) ?_
    refine G.p rfl (V.move rfl) ?_
    refine G.nil ?_
    refine G.norm (L' := [(1, .val (.pointer (some ⟨g3, 0, none⟩))), (3, .val v39), (9, .val x12), (10, .val (.int .i64 (r10.length : Int))), (11, .val (.int .i64 ((i16 + 1 : Nat) : Int)))]) (is := [1, 3, 9, 10, 11]) (R' := [.cells g3 29 (lf_T_Program b0), .row v39 47 8 (l37.map e_T_Expr), .row x12 59 15 (r10.map e_T_Func)]) (js := [0, 0, 0]) rfl rfl ?_
    refine G.again ?_
    intro hl40 a w hA
    exact ⟨_, Nat.lt_succ_self _, rest18, i16 + 1, l37, rfl, hl40, rng_next hd19, ⟨_, hA⟩⟩
 ·rintro b42 hb a w ⟨g43, hA⟩ hF44
  refine G.use hF44 hA ?_
  refine G.next_ hK7 ?_
  refine G.seq fun K45 hK46 => ?_
  refine G.seq fun K47 hK48 => ?_
  refine G.region ?_
  refine G.p rfl (V.fieldAddr (o' := 7) rfl Try.runUnderlying29 rfl Try.sizeOf27 rfl) ?_
  refine G.q rfl (V.load_cell (i := 0) (ds := (lf_T_Program b0)) (d := eL e_T_Actor 14 b0.fActors) rfl rfl Try.isAgg27 rfl rfl) ?_
  refine G.lenb (enc := e_T_Actor) (xs := b0.fActors) (sz := 14) (x := .tmp 22) (.of rfl) fun hN49 => ?_
  refine G.p rfl (V.len_sl (enc := e_T_Actor) (xs := b0.fActors) (sz := 14) (.of rfl) Try.runUnderlying27) ?_
  refine G.p rfl (V.move rfl) ?_
  refine G.nil ?_
  refine G.norm (L' := [(3, .val g43), (22, eL e_T_Actor 14 b0.fActors), (23, .val (.int .i64 (b0.fActors.length : Int))), (24, .val (.int .i64 0))]) (is := [3, 22, 23, 24]) (R' := [.row g43 47 8 (b42.map e_T_Expr)]) (js := [1]) rfl rfl ?_
  refine G.next_ hK48 ?_
  refine G.join (E := fun b a w => ∃ (g_0 : Value), Ass Gl B 35 [(3, .val g_0)] [.row g_0 47 8 (b.map e_T_Expr)] a w) ?_ ?_
  ·intro b hF57
   refine G.block ?_
   refine G.norm (L' := [(3, .val g43), (22, eL e_T_Actor 14 b0.fActors), (23, .val (.int .i64 (b0.fActors.length : Int))), (24, .val (.int .i64 ((0 : Nat) : Int)))]) (is := [3, 22, 23, 24]) (R' := [.row g43 47 8 (b42.map e_T_Expr)]) (js := [0]) rfl rfl ?_
   refine G.loop (fun kq a w => ∃ (rest54 : List (T_Actor)) (i52 : Nat) (x50 : List T_Expr), kq = rest54.length ∧ roadref2_BodiesOf.l2 rest54 x50 = some b ∧ b0.fActors.drop i52 = rest54 ∧ ∃ (g_0 : Value), Ass Gl B 35 [(3, .val g_0), (22, eL e_T_Actor 14 b0.fActors), (23, .val (.int .i64 (b0.fActors.length : Int))), (24, .val (.int .i64 (i52 : Int)))] [.row g_0 47 8 (x50.map e_T_Expr)] a w) (b0.fActors.length) ?_ ?_
   ·intro hl77 a w hA
    exact ⟨b0.fActors, 0, b42, rfl, hl77, rfl, ⟨_, hA⟩⟩
   ·rintro _ a w ⟨rest54, i52, x50, rfl, hl58, hd55, ⟨g51, hA⟩⟩
    rcases rest54 with _ | ⟨y53, rest54⟩
    ·rw [roadref2_BodiesOf.l2_nil] at hl58
     refine G.use hl58 hA ?_
     refine G.seq fun K59 hK60 => ?_
     refine G.region ?_
     refine G.p rfl (V.bin (u := .int .i64 (i52 : Int)) (v := .int .i64 (b0.fActors.length : Int)) (r := .bool (decide ((i52 : Int) < (b0.fActors.length : Int)))) rfl rfl b_lss) ?_
     refine G.nil ?_
     refine G.norm (L' := [(3, .val g51), (22, eL e_T_Actor 14 b0.fActors), (23, .val (.int .i64 (b0.fActors.length : Int))), (24, .val (.int .i64 (i52 : Int))), (25, .val (.bool (decide ((i52 : Int) < (b0.fActors.length : Int)))))]) (is := [3, 22, 23, 24, 25]) (R' := [.row g51 47 8 (x50.map e_T_Expr)]) (js := [0]) rfl rfl ?_
     refine G.next_ hK60 ?_
     refine G.seq fun K61 hK62 => ?_
     refine G.no rfl (rng_end hd55) ?_
     refine G.exit ?_
     refine G.thn_exit ?_
     refine G.thn_exit ?_
     refine G.inB_eq ?_
     refine G.norm (L' := [(3, .val g51)]) (is := [3]) (R' := [.row g51 47 8 (x50.map e_T_Expr)]) (js := [0]) rfl rfl ?_
     exact G.finE fun hb a w hA => by subst hb; exact ⟨_, hA⟩
    ·rw [roadref2_BodiesOf.l2_cons] at hl58
     refine G.use hl58 hA ?_
     refine G.seq fun K63 hK64 => ?_
     refine G.region ?_
     refine G.p rfl (V.bin (u := .int .i64 (i52 : Int)) (v := .int .i64 (b0.fActors.length : Int)) (r := .bool (decide ((i52 : Int) < (b0.fActors.length : Int)))) rfl rfl b_lss) ?_
     refine G.nil ?_
     refine G.norm (L' := [(3, .val g51), (22, eL e_T_Actor 14 b0.fActors), (23, .val (.int .i64 (b0.fActors.length : Int))), (24, .val (.int .i64 (i52 : Int))), (25, .val (.bool (decide ((i52 : Int) < (b0.fActors.length : Int)))))]) (is := [3, 22, 23, 24, 25]) (R' := [.row g51 47 8 (x50.map e_T_Expr)]) (js := [0]) rfl rfl ?_
     refine G.next_ hK64 ?_
     refine G.seq fun K65 hK66 => ?_
     refine G.yes rfl (rng_more hd55) ?_
     refine G.skip ?_
     refine G.next_ hK66 ?_
     refine G.seq fun K67 hK68 => ?_
     refine G.block ?_
     refine G.seq fun K69 hK70 => ?_
     refine G.region ?_
     refine G.p rfl (V.at_sl (k := i52) rfl rfl Try.runUnderlying27 Try.sizeOf68 (map_at (rng_at hd55))) ?_
     refine G.q rfl (V.load_ptrN (ds := (lf_T_Actor y53)) rfl (e_T_Actor_eq y53) Try.isAgg68 Try.sizeOf68 rfl) ?_
     refine G.op rfl (O.alloc (ds := [.val (bs ([] : Str)), .val (.slice none 0 0), .val (.slice none 0 0), .val (.int .i64 0), .val (bs ([] : Str)), .val (.slice none 0 0), .val (.int .i64 0), .val (.int .i64 0), .val (bs ([] : Str)), .val (.slice none 0 0), .val (.slice none 0 0), .val (.slice none 0 0), .val (.slice none 0 0), .val (.int .i64 0)]) Try.zeroValue68 rfl) fun g71 => ?_
     refine G.opn (O.store (i := 0) (o := 0) (ds := [.val (bs ([] : Str)), .val (.slice none 0 0), .val (.slice none 0 0), .val (.int .i64 0), .val (bs ([] : Str)), .val (.slice none 0 0), .val (.int .i64 0), .val (.int .i64 0), .val (bs ([] : Str)), .val (.slice none 0 0), .val (.slice none 0 0), .val (.slice none 0 0), .val (.slice none 0 0), .val (.int .i64 0)]) rfl (.of rfl) rfl (OneC.agg (List.forall_mem_cons.2 ⟨(.val rfl), (List.forall_mem_cons.2 ⟨.sl, (List.forall_mem_cons.2 ⟨.sl, (List.forall_mem_cons.2 ⟨(.val rfl), (List.forall_mem_cons.2 ⟨(.val rfl), (List.forall_mem_cons.2 ⟨.sl, (List.forall_mem_cons.2 ⟨(.val rfl), (List.forall_mem_cons.2 ⟨(.val rfl), (List.forall_mem_cons.2 ⟨(.val rfl), (List.forall_mem_cons.2 ⟨.sl, (List.forall_mem_cons.2 ⟨.sl, (List.forall_mem_cons.2 ⟨.sl, (List.forall_mem_cons.2 ⟨.sl, (List.forall_mem_cons.2 ⟨(.val rfl), (List.forall_mem_nil _)⟩)⟩)⟩)⟩)⟩)⟩)⟩)⟩)⟩)⟩)⟩)⟩)⟩)⟩)) Try.sizeOf68 rfl rfl) fun _ => ?_
     refine G.nil ?_
     refine G.norm (L' := [(3, .val g51), (7, .val (.pointer (some ⟨g71, 0, none⟩))), (22, eL e_T_Actor 14 b0.fActors), (23, .val (.int .i64 (b0.fActors.length : Int))), (24, .val (.int .i64 (i52 : Int)))]) (is := [3, 7, 22, 23, 24]) (R' := [.cells g71 68 (lf_T_Actor y53), .row g51 47 8 (x50.map e_T_Expr)]) (js := [0, 0]) rfl rfl ?_
     refine G.next_ hK70 ?_
     refine G.region ?_
     refine G.p rfl (V.move rfl) ?_
     refine G.p rfl (V.fieldAddr (o' := 6) rfl Try.runUnderlying68 rfl Try.sizeOf47 rfl) ?_
     refine G.q rfl (V.load_cellN (i := 0) (ds := (lf_T_Actor y53)) (c1 := (lf_T_Expr y53.fBody)) rfl rfl Try.isAgg47 Try.sizeOf47 rfl rfl rfl) ?_
     refine G.op rfl (O.buildSlice (xs := [.tmp 30]) (ds := ([y53.fBody] : List T_Expr).map e_T_Expr) elt42 rfl (.cons (.eq rfl (e_T_Expr_eq y53.fBody).symm) .nil) rfl (by decide) (List.forall_mem_cons.2 ⟨(fun c hc => (one_T_Expr _ c hc).mono), (List.forall_mem_nil _)⟩) (List.forall_mem_cons.2 ⟨(by rw [c_T_Expr]; rfl), (List.forall_mem_nil _)⟩)) fun v72 => ?_
     refine G.bind fun l73 hl74 => ?_
     refine G.op rfl (O.append_row (i := 2) (j := 0) (enc := e_T_Expr) (xs := x50) (ys := ([y53.fBody] : List T_Expr)) (lim := 1034834473200) elt42 rfl rfl rfl rfl (by decide) (by decide) one_T_Expr hl74) fun v75 => ?_
     refine G.p rfl (V.assign rfl) ?_
     refine G.nil ?_
     refine G.norm (L' := [(3, .val v75), (22, eL e_T_Actor 14 b0.fActors), (23, .val (.int .i64 (b0.fActors.length : Int))), (24, .val (.int .i64 (i52 : Int)))]) (is := [3, 22, 23, 24]) (R' := [.row v75 47 8 (l73.map e_T_Expr)]) (js := [2]) rfl rfl ?_
     refine G.inB ?_
     refine G.next_ hK68 ?_
     refine G.region ?_
     refine G.p rfl (V.incr (i := i52) (N := b0.fActors.length) rfl rfl (rng_lt hd55) (hN49)) ?_
     refine G.p rfl (V.move rfl) ?_
     refine G.nil ?_
     refine G.norm (L' := [(3, .val v75), (22, eL e_T_Actor 14 b0.fActors), (23, .val (.int .i64 (b0.fActors.length : Int))), (24, .val (.int .i64 ((i52 + 1 : Nat) : Int)))]) (is := [3, 22, 23, 24]) (R' := [.row v75 47 8 (l73.map e_T_Expr)]) (js := [0]) rfl rfl ?_
     refine G.again ?_
     intro hl76 a w hA
     exact ⟨_, Nat.lt_succ_self _, rest54, i52 + 1, l73, rfl, hl76, rng_next hd55, ⟨_, hA⟩⟩
  ·rintro b78 hb a w ⟨g79, hA⟩ hF80
   refine G.use hF80 hA ?_
   refine G.next_ hK46 ?_
   refine G.seq fun K81 hK82 => ?_
   refine G.region ?_
   refine G.p rfl (V.move rfl) ?_
   refine G.p rfl (V.assign rfl) ?_
   refine G.nil ?_
   refine G.norm (L' := [(2, .val g79)]) (is := [2]) (R' := [.row g79 47 8 (b78.map e_T_Expr)]) (js := [0]) rfl rfl ?_
   refine G.next_ hK82 ?_
   refine G.ret ?_
   refine G.fin_ fun hF83 => ?_
   obtain rfl := Option.some.inj hF83
   exact G.ret1 Try.results12 g79 (is := [0]) (.of rfl) rfl
/-! roadstead/roadref2.All -/
def roadref2_All.l2 (y31 : T_Expr) : Nat → (List T_Expr) → Int → Option (List T_Expr)
  | 0, _, _ => none
  | kf58 + 1, x51, x52 => (if (decide (x52 ≥ 0)) = true then (nth y31.fArms x52).bind fun y68 => (app 1034834473200 x51 ([y68.fBody] : List T_Expr)).bind fun l71 => roadref2_All.l2 y31 kf58 l71 (subI x52 1) else some x51)

theorem roadref2_All.l2_zero (y31 : T_Expr) {x51 : List T_Expr} {x52 : Int} : roadref2_All.l2 y31 0 x51 x52 = none := rfl
theorem roadref2_All.l2_succ (y31 : T_Expr) {kf58 : Nat} {x51 : List T_Expr} {x52 : Int} : roadref2_All.l2 y31 (kf58 + 1) x51 x52 = (if (decide (x52 ≥ 0)) = true then (nth y31.fArms x52).bind fun y68 => (app 1034834473200 x51 ([y68.fBody] : List T_Expr)).bind fun l71 => roadref2_All.l2 y31 kf58 l71 (subI x52 1) else some x51) := rfl
def roadref2_All.l3 (y31 : T_Expr) : Nat → (List T_Expr) → Int → Option (List T_Expr)
  | 0, _, _ => none
  | kf89 + 1, x82, x83 => (if (decide (x83 ≥ 0)) = true then (nth y31.fArgs x83).bind fun y99 => (app 1034834473200 x82 ([y99] : List T_Expr)).bind fun l102 => roadref2_All.l3 y31 kf89 l102 (subI x83 1) else some x82)

theorem roadref2_All.l3_zero (y31 : T_Expr) {x82 : List T_Expr} {x83 : Int} : roadref2_All.l3 y31 0 x82 x83 = none := rfl
theorem roadref2_All.l3_succ (y31 : T_Expr) {kf89 : Nat} {x82 : List T_Expr} {x83 : Int} : roadref2_All.l3 y31 (kf89 + 1) x82 x83 = (if (decide (x83 ≥ 0)) = true then (nth y31.fArgs x83).bind fun y99 => (app 1034834473200 x82 ([y99] : List T_Expr)).bind fun l102 => roadref2_All.l3 y31 kf89 l102 (subI x83 1) else some x82) := rfl
def roadref2_All.l1 (k : Nat) : Nat → (List T_Expr) → (List T_Expr) → Option (List T_Expr)
  | 0, _, _ => none
  | kf19 + 1, x11, x12 => (if (decide ((x11.length : Int) > 0)) = true then (nth x11 (subI (x11.length : Int) 1)).bind fun y31 => (sub x11 0 (subI (x11.length : Int) 1)).bind fun l37 => (app 1034834473200 x12 ([y31] : List T_Expr)).bind fun l43 => (roadref2_All.l2 y31 k l37 (subI (y31.fArms.length : Int) 1)).bind fun b76 => (roadref2_All.l3 y31 k b76 (subI (y31.fArgs.length : Int) 1)).bind fun b107 => roadref2_All.l1 k kf19 b107 l43 else some x12)

theorem roadref2_All.l1_zero (k : Nat) {x11 : List T_Expr} {x12 : List T_Expr} : roadref2_All.l1 k 0 x11 x12 = none := rfl
theorem roadref2_All.l1_succ (k : Nat) {kf19 : Nat} {x11 : List T_Expr} {x12 : List T_Expr} : roadref2_All.l1 k (kf19 + 1) x11 x12 = (if (decide ((x11.length : Int) > 0)) = true then (nth x11 (subI (x11.length : Int) 1)).bind fun y31 => (sub x11 0 (subI (x11.length : Int) 1)).bind fun l37 => (app 1034834473200 x12 ([y31] : List T_Expr)).bind fun l43 => (roadref2_All.l2 y31 k l37 (subI (y31.fArms.length : Int) 1)).bind fun b76 => (roadref2_All.l3 y31 k b76 (subI (y31.fArgs.length : Int) 1)).bind fun b107 => roadref2_All.l1 k kf19 b107 l43 else some x12) := rfl
def roadref2_All.Spec (F : T_Expr → Option (List T_Expr)) : Prop := ∀ {b0 : T_Expr} {out : List T_Expr}, F b0 = some out → Ct Gl Try.prog 29 [.agg (lf_T_Expr b0)] [] (fun x : Value => .val x) (fun x : Value => [.row x 47 8 (out.map e_T_Expr)])
def roadref2_All (k : Nat) (b0 : T_Expr) : Option (List T_Expr) := (roadref2_All.l1 k k ([b0] : List T_Expr) ([] : List T_Expr)).bind fun b112 => some b112
set_option maxRecDepth 100000 in
theorem roadref2_All_ok (k : Nat) : roadref2_All.Spec (roadref2_All k) := by
 intro b0 out hp
 refine ct_of_G (nt := 62) Try.func29 rfl Try.ntmps29 rfl (fun B => ?_) hp
 unfold roadref2_All
 refine G.seq fun K1 hK2 => ?_
 refine G.region ?_
 refine G.op rfl (O.box (.of rfl) (OneC.agg (List.forall_mem_cons.2 ⟨(.val rfl), (List.forall_mem_cons.2 ⟨(.val rfl), (List.forall_mem_cons.2 ⟨(.val rfl), (List.forall_mem_cons.2 ⟨.sl, (List.forall_mem_cons.2 ⟨.sl, (List.forall_mem_cons.2 ⟨.sl, (List.forall_mem_cons.2 ⟨.sl, (List.forall_mem_cons.2 ⟨(.val rfl), (List.forall_mem_nil _)⟩)⟩)⟩)⟩)⟩)⟩)⟩)⟩))) fun g3 => ?_
 refine G.p rfl (V.assign rfl) ?_
 refine G.nil ?_
 refine G.norm (L' := [(1, .val (.pointer (some ⟨g3, 0, none⟩)))]) (is := [1]) (R' := [.cells g3 47 (lf_T_Expr b0)]) (js := [0]) rfl rfl ?_
 refine G.next_ hK2 ?_
 refine G.seq fun K4 hK5 => ?_
 refine G.region ?_
 refine G.q rfl (V.load_cellN (i := 0) (ds := (lf_T_Expr b0)) (c1 := (lf_T_Expr b0)) rfl rfl Try.isAgg47 Try.sizeOf47 rfl rfl rfl) ?_
 refine G.op rfl (O.buildSlice (xs := [.tmp 8]) (ds := ([b0] : List T_Expr).map e_T_Expr) elt42 rfl (.cons (.eq rfl (e_T_Expr_eq b0).symm) .nil) rfl (by decide) (List.forall_mem_cons.2 ⟨(fun c hc => (one_T_Expr _ c hc).mono), (List.forall_mem_nil _)⟩) (List.forall_mem_cons.2 ⟨(by rw [c_T_Expr]; rfl), (List.forall_mem_nil _)⟩)) fun v6 => ?_
 refine G.p rfl (V.assign rfl) ?_
 refine G.nil ?_
 refine G.norm (L' := [(3, .val v6)]) (is := [3]) (R' := [.row v6 47 8 (([b0] : List T_Expr).map e_T_Expr)]) (js := [0]) rfl rfl ?_
 refine G.next_ hK5 ?_
 refine G.seq fun K7 hK8 => ?_
 refine G.region ?_
 refine G.p rfl (V.assign rfl) ?_
 refine G.nil ?_
 refine G.norm (L' := [(3, .val v6), (4, .val (.slice none 0 0))]) (is := [3, 4]) (R' := [.row v6 47 8 (([b0] : List T_Expr).map e_T_Expr)]) (js := [0]) rfl rfl ?_
 refine G.next_ hK8 ?_
 refine G.seq fun K9 hK10 => ?_
 refine G.join (E := fun b a w => ∃ (g_0 : Value), Ass Gl B 62 [(4, .val g_0)] [.row g_0 47 8 (b.map e_T_Expr)] a w) ?_ ?_
 ·intro b hF20
  refine G.block ?_
  refine G.nilrow 47 8 none ?_
  refine G.norm (L' := [(3, .val v6), (4, .val (.slice none 0 0))]) (is := [3, 4]) (R' := [.row v6 47 8 (([b0] : List T_Expr).map e_T_Expr), .row (.slice none 0 0) 47 8 (([] : List T_Expr).map e_T_Expr)]) (js := [1, 0]) rfl rfl ?_
  refine G.loop (fun kf19 a w => ∃ (x11 : List T_Expr) (x12 : List T_Expr), roadref2_All.l1 k kf19 x11 x12 = some b ∧ ∃ (g_0 : Value) (g_1 : Value), Ass Gl B 62 [(3, .val g_0), (4, .val g_1)] [.row g_0 47 8 (x11.map e_T_Expr), .row g_1 47 8 (x12.map e_T_Expr)] a w) (k) ?_ ?_
  ·intro hl111 a w hA
   exact ⟨([b0] : List T_Expr), ([] : List T_Expr), hl111, ⟨_, _, hA⟩⟩
  ·rintro kf19 a w ⟨x11, x12, hl21, ⟨g13, g14, hA⟩⟩
   rcases kf19 with _ | kf19
   ·rw [roadref2_All.l1_zero] at hl21
    cases hl21
   ·rw [roadref2_All.l1_succ] at hl21
    refine G.use hl21 hA ?_
    refine G.seq fun K22 hK23 => ?_
    refine G.seq fun K24 hK25 => ?_
    refine G.region ?_
    refine G.p rfl (V.move rfl) ?_
    refine G.lenr (i := 0) (enc := e_T_Expr) (xs := x11) rfl fun hN26 => ?_
    refine G.q rfl (V.len_row (j := 0) (enc := e_T_Expr) (xs := x11) rfl rfl Try.runUnderlying42) ?_
    refine G.p rfl (V.bin (u := .int .i64 (x11.length : Int)) (v := .int .i64 0) (r := .bool (decide ((x11.length : Int) > 0))) rfl rfl b_gtr) ?_
    refine G.nil ?_
    refine G.norm (L' := [(3, .val g13), (4, .val g14), (12, .val (.bool (decide ((x11.length : Int) > 0))))]) (is := [3, 4, 12]) (R' := [.row g13 47 8 (x11.map e_T_Expr), .row g14 47 8 (x12.map e_T_Expr)]) (js := [0, 0]) rfl rfl ?_
    refine G.next_ hK25 ?_
    refine G.cond (b := (decide ((x11.length : Int) > 0))) rfl (fun hc27 => ?_) (fun hc27 => ?_)
    ·refine G.norm (L' := [(3, .val g13), (4, .val g14)]) (is := [3, 4]) (R' := [.row g13 47 8 (x11.map e_T_Expr), .row g14 47 8 (x12.map e_T_Expr)]) (js := [0, 0]) rfl rfl ?_
     refine G.skip ?_
     refine G.next_ hK23 ?_
     refine G.block ?_
     refine G.seq fun K28 hK29 => ?_
     refine G.region ?_
     refine G.p rfl (V.move rfl) ?_
     refine G.p rfl (V.move rfl) ?_
     refine G.lenr (i := 0) (enc := e_T_Expr) (xs := x11) rfl fun hN30 => ?_
     refine G.q rfl (V.len_row (j := 0) (enc := e_T_Expr) (xs := x11) rfl rfl Try.runUnderlying42) ?_
     refine G.p rfl (V.bin (u := .int .i64 (x11.length : Int)) (v := .int .i64 1) (r := .int .i64 (subI (x11.length : Int) 1)) rfl rfl b_sub) ?_
     refine G.bind fun y31 hy32 => ?_
     refine G.q rfl (V.nth_row (j := 0) (enc := e_T_Expr) (xs := x11) (i := (subI (x11.length : Int) 1)) rfl rfl rfl Try.runUnderlying42 Try.sizeOf47 hy32) ?_
     refine G.q rfl (V.rowTN (i := 0) (enc := e_T_Expr) (xs := x11) (j := 0) (c1 := (lf_T_Expr y31)) ((subI (x11.length : Int) 1).toNat) rfl rfl (nth_get hy32) rfl (c_T_Expr _) rfl rfl rfl Try.isAgg47 Try.sizeOf47) ?_
     refine G.op rfl (O.alloc (ds := [.val (.int .i64 0), .val (.int .i64 0), .val (bs ([] : Str)), .val (.slice none 0 0), .val (.slice none 0 0), .val (.slice none 0 0), .val (.slice none 0 0), .val (.int .i64 0)]) Try.zeroValue47 rfl) fun g33 => ?_
     refine G.opn (O.store (i := 0) (o := 0) (ds := [.val (.int .i64 0), .val (.int .i64 0), .val (bs ([] : Str)), .val (.slice none 0 0), .val (.slice none 0 0), .val (.slice none 0 0), .val (.slice none 0 0), .val (.int .i64 0)]) rfl (.of rfl) rfl (OneC.agg (List.forall_mem_cons.2 ⟨(.val rfl), (List.forall_mem_cons.2 ⟨(.val rfl), (List.forall_mem_cons.2 ⟨(.val rfl), (List.forall_mem_cons.2 ⟨.sl, (List.forall_mem_cons.2 ⟨.sl, (List.forall_mem_cons.2 ⟨.sl, (List.forall_mem_cons.2 ⟨.sl, (List.forall_mem_cons.2 ⟨(.val rfl), (List.forall_mem_nil _)⟩)⟩)⟩)⟩)⟩)⟩)⟩)⟩)) Try.sizeOf47 rfl rfl) fun _ => ?_
     refine G.nil ?_
     refine G.norm (L' := [(3, .val g13), (4, .val g14), (5, .val (.pointer (some ⟨g33, 0, none⟩)))]) (is := [3, 4, 5]) (R' := [.cells g33 47 (lf_T_Expr y31), .row g13 47 8 (x11.map e_T_Expr), .row g14 47 8 (x12.map e_T_Expr)]) (js := [0, 0, 0]) rfl rfl ?_
     refine G.next_ hK29 ?_
     refine G.seq fun K34 hK35 => ?_
     refine G.region ?_
     refine G.p rfl (V.move rfl) ?_
     refine G.p rfl (V.move rfl) ?_
     refine G.lenr (i := 1) (enc := e_T_Expr) (xs := x11) rfl fun hN36 => ?_
     refine G.q rfl (V.len_row (j := 1) (enc := e_T_Expr) (xs := x11) rfl rfl Try.runUnderlying42) ?_
     refine G.p rfl (V.bin (u := .int .i64 (x11.length : Int)) (v := .int .i64 1) (r := .int .i64 (subI (x11.length : Int) 1)) rfl rfl b_sub) ?_
     refine G.bind fun l37 hl38 => ?_
     refine G.op rfl (O.sub_row (k := 1) (enc := e_T_Expr) (xs := x11) (l := 0) (h := (subI (x11.length : Int) 1)) rfl rfl Try.runUnderlying42 Try.sizeOf47 rfl rfl hl38) fun v39 => ?_
     refine G.p rfl (V.assign rfl) ?_
     refine G.nil ?_
     refine G.norm (L' := [(3, .val v39), (4, .val g14), (5, .val (.pointer (some ⟨g33, 0, none⟩)))]) (is := [3, 4, 5]) (R' := [.cells g33 47 (lf_T_Expr y31), .row v39 47 8 (l37.map e_T_Expr), .row g14 47 8 (x12.map e_T_Expr)]) (js := [0, 0, 0]) rfl rfl ?_
     refine G.next_ hK35 ?_
     refine G.seq fun K40 hK41 => ?_
     refine G.region ?_
     refine G.p rfl (V.move rfl) ?_
     refine G.q rfl (V.load_cellN (i := 0) (ds := (lf_T_Expr y31)) (c1 := (lf_T_Expr y31)) rfl rfl Try.isAgg47 Try.sizeOf47 rfl rfl rfl) ?_
     refine G.op rfl (O.buildSlice (xs := [.tmp 25]) (ds := ([y31] : List T_Expr).map e_T_Expr) elt42 rfl (.cons (.eq rfl (e_T_Expr_eq y31).symm) .nil) rfl (by decide) (List.forall_mem_cons.2 ⟨(fun c hc => (one_T_Expr _ c hc).mono), (List.forall_mem_nil _)⟩) (List.forall_mem_cons.2 ⟨(by rw [c_T_Expr]; rfl), (List.forall_mem_nil _)⟩)) fun v42 => ?_
     refine G.bind fun l43 hl44 => ?_
     refine G.op rfl (O.append_row (i := 3) (j := 0) (enc := e_T_Expr) (xs := x12) (ys := ([y31] : List T_Expr)) (lim := 1034834473200) elt42 rfl rfl rfl rfl (by decide) (by decide) one_T_Expr hl44) fun v45 => ?_
     refine G.p rfl (V.assign rfl) ?_
     refine G.nil ?_
     refine G.norm (L' := [(3, .val v39), (4, .val v45), (5, .val (.pointer (some ⟨g33, 0, none⟩)))]) (is := [3, 4, 5]) (R' := [.cells g33 47 (lf_T_Expr y31), .row v39 47 8 (l37.map e_T_Expr), .row v45 47 8 (l43.map e_T_Expr)]) (js := [1, 1, 1]) rfl rfl ?_
     refine G.next_ hK41 ?_
     refine G.seq fun K46 hK47 => ?_
     refine G.seq fun K48 hK49 => ?_
     refine G.region ?_
     refine G.p rfl (V.fieldAddr (o' := 6) rfl Try.runUnderlying47 rfl Try.sizeOf45 rfl) ?_
     refine G.q rfl (V.load_cell (i := 0) (ds := (lf_T_Expr y31)) (d := eL e_T_Arm 12 y31.fArms) rfl rfl Try.isAgg45 rfl rfl) ?_
     refine G.lenb (enc := e_T_Arm) (xs := y31.fArms) (sz := 12) (x := .tmp 29) (.of rfl) fun hN50 => ?_
     refine G.p rfl (V.len_sl (enc := e_T_Arm) (xs := y31.fArms) (sz := 12) (.of rfl) Try.runUnderlying45) ?_
     refine G.p rfl (V.bin (u := .int .i64 (y31.fArms.length : Int)) (v := .int .i64 1) (r := .int .i64 (subI (y31.fArms.length : Int) 1)) rfl rfl b_sub) ?_
     refine G.p rfl (V.assign rfl) ?_
     refine G.nil ?_
     refine G.norm (L' := [(3, .val v39), (4, .val v45), (5, .val (.pointer (some ⟨g33, 0, none⟩))), (6, .val (.int .i64 (subI (y31.fArms.length : Int) 1)))]) (is := [3, 4, 5, 6]) (R' := [.cells g33 47 (lf_T_Expr y31), .row v39 47 8 (l37.map e_T_Expr), .row v45 47 8 (l43.map e_T_Expr)]) (js := [0, 0, 0]) rfl rfl ?_
     refine G.next_ hK49 ?_
     refine G.join (E := fun b a w => ∃ (g_0 : Value), Ass Gl B 62 [(3, .val g_0), (4, .val v45), (5, .val (.pointer (some ⟨g33, 0, none⟩)))] [.row g_0 47 8 (b.map e_T_Expr), .row v45 47 8 (l43.map e_T_Expr), .cells g33 47 (lf_T_Expr y31)] a w) ?_ ?_
     ·intro b hF59
      refine G.block ?_
      refine G.norm (L' := [(3, .val v39), (4, .val v45), (5, .val (.pointer (some ⟨g33, 0, none⟩))), (6, .val (.int .i64 (subI (y31.fArms.length : Int) 1)))]) (is := [3, 4, 5, 6]) (R' := [.row v39 47 8 (l37.map e_T_Expr), .row v45 47 8 (l43.map e_T_Expr), .cells g33 47 (lf_T_Expr y31)]) (js := [1, 1, 0]) rfl rfl ?_
      refine G.loop (fun kf58 a w => ∃ (x51 : List T_Expr) (x52 : Int), roadref2_All.l2 y31 kf58 x51 x52 = some b ∧ ∃ (g_0 : Value), Ass Gl B 62 [(3, .val g_0), (4, .val v45), (5, .val (.pointer (some ⟨g33, 0, none⟩))), (6, .val (.int .i64 x52))] [.row g_0 47 8 (x51.map e_T_Expr), .row v45 47 8 (l43.map e_T_Expr), .cells g33 47 (lf_T_Expr y31)] a w) (k) ?_ ?_
      ·intro hl75 a w hA
       exact ⟨l37, subI (y31.fArms.length : Int) 1, hl75, ⟨_, hA⟩⟩
      ·rintro kf58 a w ⟨x51, x52, hl60, ⟨g53, hA⟩⟩
       rcases kf58 with _ | kf58
       ·rw [roadref2_All.l2_zero] at hl60
        cases hl60
       ·rw [roadref2_All.l2_succ] at hl60
        refine G.use hl60 hA ?_
        refine G.seq fun K61 hK62 => ?_
        refine G.seq fun K63 hK64 => ?_
        refine G.region ?_
        refine G.p rfl (V.move rfl) ?_
        refine G.p rfl (V.bin (u := .int .i64 x52) (v := .int .i64 0) (r := .bool (decide (x52 ≥ 0))) rfl rfl b_geq) ?_
        refine G.nil ?_
        refine G.norm (L' := [(3, .val g53), (4, .val v45), (5, .val (.pointer (some ⟨g33, 0, none⟩))), (6, .val (.int .i64 x52)), (33, .val (.bool (decide (x52 ≥ 0))))]) (is := [3, 4, 5, 6, 33]) (R' := [.row g53 47 8 (x51.map e_T_Expr), .row v45 47 8 (l43.map e_T_Expr), .cells g33 47 (lf_T_Expr y31)]) (js := [0, 0, 0]) rfl rfl ?_
        refine G.next_ hK64 ?_
        refine G.cond (b := (decide (x52 ≥ 0))) rfl (fun hc65 => ?_) (fun hc65 => ?_)
        ·refine G.norm (L' := [(3, .val g53), (4, .val v45), (5, .val (.pointer (some ⟨g33, 0, none⟩))), (6, .val (.int .i64 x52))]) (is := [3, 4, 5, 6]) (R' := [.row g53 47 8 (x51.map e_T_Expr), .row v45 47 8 (l43.map e_T_Expr), .cells g33 47 (lf_T_Expr y31)]) (js := [0, 0, 0]) rfl rfl ?_
         refine G.skip ?_
         refine G.next_ hK62 ?_
         refine G.seq fun K66 hK67 => ?_
         refine G.block ?_
         refine G.region ?_
         refine G.p rfl (V.move rfl) ?_
         refine G.p rfl (V.fieldAddr (o' := 6) rfl Try.runUnderlying47 rfl Try.sizeOf45 rfl) ?_
         refine G.q rfl (V.load_cell (i := 2) (ds := (lf_T_Expr y31)) (d := eL e_T_Arm 12 y31.fArms) rfl rfl Try.isAgg45 rfl rfl) ?_
         refine G.p rfl (V.move rfl) ?_
         refine G.bind fun y68 hy69 => ?_
         refine G.p rfl (V.nth_sl (enc := e_T_Arm) (xs := y31.fArms) (i := x52) rfl rfl Try.runUnderlying45 Try.sizeOf85 hy69) ?_
         refine G.p rfl (V.fieldAddr_ptr (ds := (lf_T_Arm y68)) (d' := e_T_Expr y68.fBody) rfl (e_T_Arm_eq y68) Try.runUnderlying85 rfl Try.sizeOf47 rfl (c_T_Expr y68.fBody).symm) ?_
         refine G.q rfl (V.load_ptrN (ds := (lf_T_Expr y68.fBody)) rfl (e_T_Expr_eq y68.fBody) Try.isAgg47 Try.sizeOf47 rfl) ?_
         refine G.op rfl (O.buildSlice (xs := [.tmp 42]) (ds := ([y68.fBody] : List T_Expr).map e_T_Expr) elt42 rfl (.cons (.eq rfl (e_T_Expr_eq y68.fBody).symm) .nil) rfl (by decide) (List.forall_mem_cons.2 ⟨(fun c hc => (one_T_Expr _ c hc).mono), (List.forall_mem_nil _)⟩) (List.forall_mem_cons.2 ⟨(by rw [c_T_Expr]; rfl), (List.forall_mem_nil _)⟩)) fun v70 => ?_
         refine G.bind fun l71 hl72 => ?_
         refine G.op rfl (O.append_row (i := 1) (j := 0) (enc := e_T_Expr) (xs := x51) (ys := ([y68.fBody] : List T_Expr)) (lim := 1034834473200) elt42 rfl rfl rfl rfl (by decide) (by decide) one_T_Expr hl72) fun v73 => ?_
         refine G.p rfl (V.assign rfl) ?_
         refine G.nil ?_
         refine G.norm (L' := [(3, .val v73), (4, .val v45), (5, .val (.pointer (some ⟨g33, 0, none⟩))), (6, .val (.int .i64 x52))]) (is := [3, 4, 5, 6]) (R' := [.row v73 47 8 (l71.map e_T_Expr), .row v45 47 8 (l43.map e_T_Expr), .cells g33 47 (lf_T_Expr y31)]) (js := [1, 1, 1]) rfl rfl ?_
         refine G.inB ?_
         refine G.next_ hK67 ?_
         refine G.region ?_
         refine G.p rfl (V.move rfl) ?_
         refine G.p rfl (V.bin (u := .int .i64 x52) (v := .int .i64 1) (r := .int .i64 (subI x52 1)) rfl rfl b_sub) ?_
         refine G.p rfl (V.assign rfl) ?_
         refine G.nil ?_
         refine G.norm (L' := [(3, .val v73), (4, .val v45), (5, .val (.pointer (some ⟨g33, 0, none⟩))), (6, .val (.int .i64 (subI x52 1)))]) (is := [3, 4, 5, 6]) (R' := [.row v73 47 8 (l71.map e_T_Expr), .row v45 47 8 (l43.map e_T_Expr), .cells g33 47 (lf_T_Expr y31)]) (js := [0, 0, 0]) rfl rfl ?_
         refine G.again ?_
         intro hl74 a w hA
         exact ⟨kf58, Nat.lt_succ_self _, l71, subI x52 1, hl74, ⟨_, hA⟩⟩
        ·refine G.norm (L' := [(3, .val g53), (4, .val v45), (5, .val (.pointer (some ⟨g33, 0, none⟩)))]) (is := [3, 4, 5]) (R' := [.row g53 47 8 (x51.map e_T_Expr), .row v45 47 8 (l43.map e_T_Expr), .cells g33 47 (lf_T_Expr y31)]) (js := [0, 0, 0]) rfl rfl ?_
         refine G.exit ?_
         refine G.thn_exit ?_
         refine G.thn_exit ?_
         refine G.inB_eq ?_
         exact G.finE fun hb a w hA => by subst hb; exact ⟨_, hA⟩
     ·rintro b76 hb a w ⟨g77, hA⟩ hF78
      refine G.use hF78 hA ?_
      refine G.next_ hK47 ?_
      refine G.seq fun K79 hK80 => ?_
      refine G.region ?_
      refine G.p rfl (V.fieldAddr (o' := 5) rfl Try.runUnderlying47 rfl Try.sizeOf42 rfl) ?_
      refine G.q rfl (V.load_cell (i := 2) (ds := (lf_T_Expr y31)) (d := eL e_T_Expr 8 y31.fArgs) rfl rfl Try.isAgg42 rfl rfl) ?_
      refine G.lenb (enc := e_T_Expr) (xs := y31.fArgs) (sz := 8) (x := .tmp 46) (.of rfl) fun hN81 => ?_
      refine G.p rfl (V.len_sl (enc := e_T_Expr) (xs := y31.fArgs) (sz := 8) (.of rfl) Try.runUnderlying42) ?_
      refine G.p rfl (V.bin (u := .int .i64 (y31.fArgs.length : Int)) (v := .int .i64 1) (r := .int .i64 (subI (y31.fArgs.length : Int) 1)) rfl rfl b_sub) ?_
      refine G.p rfl (V.assign rfl) ?_
      refine G.nil ?_
      refine G.norm (L' := [(3, .val g77), (4, .val v45), (5, .val (.pointer (some ⟨g33, 0, none⟩))), (7, .val (.int .i64 (subI (y31.fArgs.length : Int) 1)))]) (is := [3, 4, 5, 7]) (R' := [.row g77 47 8 (b76.map e_T_Expr), .row v45 47 8 (l43.map e_T_Expr), .cells g33 47 (lf_T_Expr y31)]) (js := [0, 0, 0]) rfl rfl ?_
      refine G.next_ hK80 ?_
      refine G.join (E := fun b a w => ∃ (g_0 : Value), Ass Gl B 62 [(3, .val g_0), (4, .val v45)] [.row g_0 47 8 (b.map e_T_Expr), .row v45 47 8 (l43.map e_T_Expr)] a w) ?_ ?_
      ·intro b hF90
       refine G.block ?_
       refine G.norm (L' := [(3, .val g77), (4, .val v45), (5, .val (.pointer (some ⟨g33, 0, none⟩))), (7, .val (.int .i64 (subI (y31.fArgs.length : Int) 1)))]) (is := [3, 4, 5, 7]) (R' := [.row g77 47 8 (b76.map e_T_Expr), .row v45 47 8 (l43.map e_T_Expr), .cells g33 47 (lf_T_Expr y31)]) (js := [0, 0, 0]) rfl rfl ?_
       refine G.loop (fun kf89 a w => ∃ (x82 : List T_Expr) (x83 : Int), roadref2_All.l3 y31 kf89 x82 x83 = some b ∧ ∃ (g_0 : Value), Ass Gl B 62 [(3, .val g_0), (4, .val v45), (5, .val (.pointer (some ⟨g33, 0, none⟩))), (7, .val (.int .i64 x83))] [.row g_0 47 8 (x82.map e_T_Expr), .row v45 47 8 (l43.map e_T_Expr), .cells g33 47 (lf_T_Expr y31)] a w) (k) ?_ ?_
       ·intro hl106 a w hA
        exact ⟨b76, subI (y31.fArgs.length : Int) 1, hl106, ⟨_, hA⟩⟩
       ·rintro kf89 a w ⟨x82, x83, hl91, ⟨g84, hA⟩⟩
        rcases kf89 with _ | kf89
        ·rw [roadref2_All.l3_zero] at hl91
         cases hl91
        ·rw [roadref2_All.l3_succ] at hl91
         refine G.use hl91 hA ?_
         refine G.seq fun K92 hK93 => ?_
         refine G.seq fun K94 hK95 => ?_
         refine G.region ?_
         refine G.p rfl (V.move rfl) ?_
         refine G.p rfl (V.bin (u := .int .i64 x83) (v := .int .i64 0) (r := .bool (decide (x83 ≥ 0))) rfl rfl b_geq) ?_
         refine G.nil ?_
         refine G.norm (L' := [(3, .val g84), (4, .val v45), (5, .val (.pointer (some ⟨g33, 0, none⟩))), (7, .val (.int .i64 x83)), (50, .val (.bool (decide (x83 ≥ 0))))]) (is := [3, 4, 5, 7, 50]) (R' := [.row g84 47 8 (x82.map e_T_Expr), .row v45 47 8 (l43.map e_T_Expr), .cells g33 47 (lf_T_Expr y31)]) (js := [0, 0, 0]) rfl rfl ?_
         refine G.next_ hK95 ?_
         refine G.cond (b := (decide (x83 ≥ 0))) rfl (fun hc96 => ?_) (fun hc96 => ?_)
         ·refine G.norm (L' := [(3, .val g84), (4, .val v45), (5, .val (.pointer (some ⟨g33, 0, none⟩))), (7, .val (.int .i64 x83))]) (is := [3, 4, 5, 7]) (R' := [.row g84 47 8 (x82.map e_T_Expr), .row v45 47 8 (l43.map e_T_Expr), .cells g33 47 (lf_T_Expr y31)]) (js := [0, 0, 0]) rfl rfl ?_
          refine G.skip ?_
          refine G.next_ hK93 ?_
          refine G.seq fun K97 hK98 => ?_
          refine G.block ?_
          refine G.region ?_
          refine G.p rfl (V.move rfl) ?_
          refine G.p rfl (V.fieldAddr (o' := 5) rfl Try.runUnderlying47 rfl Try.sizeOf42 rfl) ?_
          refine G.q rfl (V.load_cell (i := 2) (ds := (lf_T_Expr y31)) (d := eL e_T_Expr 8 y31.fArgs) rfl rfl Try.isAgg42 rfl rfl) ?_
          refine G.p rfl (V.move rfl) ?_
          refine G.bind fun y99 hy100 => ?_
          refine G.p rfl (V.nth_sl (enc := e_T_Expr) (xs := y31.fArgs) (i := x83) rfl rfl Try.runUnderlying42 Try.sizeOf47 hy100) ?_
          refine G.q rfl (V.load_ptrN (ds := (lf_T_Expr y99)) rfl (e_T_Expr_eq y99) Try.isAgg47 Try.sizeOf47 rfl) ?_
          refine G.op rfl (O.buildSlice (xs := [.tmp 58]) (ds := ([y99] : List T_Expr).map e_T_Expr) elt42 rfl (.cons (.eq rfl (e_T_Expr_eq y99).symm) .nil) rfl (by decide) (List.forall_mem_cons.2 ⟨(fun c hc => (one_T_Expr _ c hc).mono), (List.forall_mem_nil _)⟩) (List.forall_mem_cons.2 ⟨(by rw [c_T_Expr]; rfl), (List.forall_mem_nil _)⟩)) fun v101 => ?_
          refine G.bind fun l102 hl103 => ?_
          refine G.op rfl (O.append_row (i := 1) (j := 0) (enc := e_T_Expr) (xs := x82) (ys := ([y99] : List T_Expr)) (lim := 1034834473200) elt42 rfl rfl rfl rfl (by decide) (by decide) one_T_Expr hl103) fun v104 => ?_
          refine G.p rfl (V.assign rfl) ?_
          refine G.nil ?_
          refine G.norm (L' := [(3, .val v104), (4, .val v45), (5, .val (.pointer (some ⟨g33, 0, none⟩))), (7, .val (.int .i64 x83))]) (is := [3, 4, 5, 7]) (R' := [.row v104 47 8 (l102.map e_T_Expr), .row v45 47 8 (l43.map e_T_Expr), .cells g33 47 (lf_T_Expr y31)]) (js := [1, 1, 1]) rfl rfl ?_
          refine G.inB ?_
          refine G.next_ hK98 ?_
          refine G.region ?_
          refine G.p rfl (V.move rfl) ?_
          refine G.p rfl (V.bin (u := .int .i64 x83) (v := .int .i64 1) (r := .int .i64 (subI x83 1)) rfl rfl b_sub) ?_
          refine G.p rfl (V.assign rfl) ?_
          refine G.nil ?_
          refine G.norm (L' := [(3, .val v104), (4, .val v45), (5, .val (.pointer (some ⟨g33, 0, none⟩))), (7, .val (.int .i64 (subI x83 1)))]) (is := [3, 4, 5, 7]) (R' := [.row v104 47 8 (l102.map e_T_Expr), .row v45 47 8 (l43.map e_T_Expr), .cells g33 47 (lf_T_Expr y31)]) (js := [0, 0, 0]) rfl rfl ?_
          refine G.again ?_
          intro hl105 a w hA
          exact ⟨kf89, Nat.lt_succ_self _, l102, subI x83 1, hl105, ⟨_, hA⟩⟩
         ·refine G.norm (L' := [(3, .val g84), (4, .val v45)]) (is := [3, 4]) (R' := [.row g84 47 8 (x82.map e_T_Expr), .row v45 47 8 (l43.map e_T_Expr)]) (js := [0, 0]) rfl rfl ?_
          refine G.exit ?_
          refine G.thn_exit ?_
          refine G.thn_exit ?_
          refine G.inB_eq ?_
          exact G.finE fun hb a w hA => by subst hb; exact ⟨_, hA⟩
      ·rintro b107 hb a w ⟨g108, hA⟩ hF109
       refine G.use hF109 hA ?_
       refine G.inB ?_
       refine G.norm (L' := [(3, .val g108), (4, .val v45)]) (is := [3, 4]) (R' := [.row g108 47 8 (b107.map e_T_Expr), .row v45 47 8 (l43.map e_T_Expr)]) (js := [0, 0]) rfl rfl ?_
       refine G.again ?_
       intro hl110 a w hA
       exact ⟨kf19, Nat.lt_succ_self _, b107, l43, hl110, ⟨_, _, hA⟩⟩
    ·refine G.norm (L' := [(4, .val g14)]) (is := [4]) (R' := [.row g14 47 8 (x12.map e_T_Expr)]) (js := [1]) rfl rfl ?_
     refine G.exit ?_
     refine G.thn_exit ?_
     refine G.thn_exit ?_
     refine G.inB_eq ?_
     exact G.finE fun hb a w hA => by subst hb; exact ⟨_, hA⟩
 ·rintro b112 hb a w ⟨g113, hA⟩ hF114
  refine G.use hF114 hA ?_
  refine G.next_ hK10 ?_
  refine G.seq fun K115 hK116 => ?_
  refine G.region ?_
  refine G.p rfl (V.move rfl) ?_
  refine G.p rfl (V.assign rfl) ?_
  refine G.nil ?_
  refine G.norm (L' := [(2, .val g113)]) (is := [2]) (R' := [.row g113 47 8 (b112.map e_T_Expr)]) (js := [0]) rfl rfl ?_
  refine G.next_ hK116 ?_
  refine G.ret ?_
  refine G.fin_ fun hF117 => ?_
  obtain rfl := Option.some.inj hF117
  exact G.ret1 Try.results29 g113 (is := [0]) (.of rfl) rfl
/-! roadstead/roadref2.pats -/
def roadref2_pats.l1  : Nat → (List T_Pat) → Int → Option (List T_Pat)
  | 0, _, _ => none
  | kf18 + 1, x11, x12 => (if (decide (x12 < (x11.length : Int))) = true then (nth x11 x12).bind fun y29 => (app 2513169434916 x11 y29.fArgs).bind fun l31 => roadref2_pats.l1 kf18 l31 (addI x12 1) else some x11)

theorem roadref2_pats.l1_zero  {x11 : List T_Pat} {x12 : Int} : roadref2_pats.l1  0 x11 x12 = none := rfl
theorem roadref2_pats.l1_succ  {kf18 : Nat} {x11 : List T_Pat} {x12 : Int} : roadref2_pats.l1  (kf18 + 1) x11 x12 = (if (decide (x12 < (x11.length : Int))) = true then (nth x11 x12).bind fun y29 => (app 2513169434916 x11 y29.fArgs).bind fun l31 => roadref2_pats.l1 kf18 l31 (addI x12 1) else some x11) := rfl
def roadref2_pats.Spec (F : T_Pat → Option (List T_Pat)) : Prop := ∀ {b0 : T_Pat} {out : List T_Pat}, F b0 = some out → Ct Gl Try.prog 30 [.agg (lf_T_Pat b0)] [] (fun x : Value => .val x) (fun x : Value => [.row x 83 4 (out.map e_T_Pat)])
def roadref2_pats (k : Nat) (b0 : T_Pat) : Option (List T_Pat) := (roadref2_pats.l1 k ([b0] : List T_Pat) 0).bind fun b36 => some b36
set_option maxRecDepth 100000 in
theorem roadref2_pats_ok (k : Nat) : roadref2_pats.Spec (roadref2_pats k) := by
 intro b0 out hp
 refine ct_of_G (nt := 21) Try.func30 rfl Try.ntmps30 rfl (fun B => ?_) hp
 unfold roadref2_pats
 refine G.seq fun K1 hK2 => ?_
 refine G.region ?_
 refine G.op rfl (O.box (.of rfl) (OneC.agg (List.forall_mem_cons.2 ⟨(.val rfl), (List.forall_mem_cons.2 ⟨(.val rfl), (List.forall_mem_cons.2 ⟨(.val rfl), (List.forall_mem_cons.2 ⟨.sl, (List.forall_mem_nil _)⟩)⟩)⟩)⟩))) fun g3 => ?_
 refine G.p rfl (V.assign rfl) ?_
 refine G.nil ?_
 refine G.norm (L' := [(1, .val (.pointer (some ⟨g3, 0, none⟩)))]) (is := [1]) (R' := [.cells g3 83 (lf_T_Pat b0)]) (js := [0]) rfl rfl ?_
 refine G.next_ hK2 ?_
 refine G.seq fun K4 hK5 => ?_
 refine G.region ?_
 refine G.q rfl (V.load_cellN (i := 0) (ds := (lf_T_Pat b0)) (c1 := (lf_T_Pat b0)) rfl rfl Try.isAgg83 Try.sizeOf83 rfl rfl rfl) ?_
 refine G.op rfl (O.buildSlice (xs := [.tmp 5]) (ds := ([b0] : List T_Pat).map e_T_Pat) elt81 rfl (.cons (.eq rfl (e_T_Pat_eq b0).symm) .nil) rfl (by decide) (List.forall_mem_cons.2 ⟨(fun c hc => (one_T_Pat _ c hc).mono), (List.forall_mem_nil _)⟩) (List.forall_mem_cons.2 ⟨(by rw [c_T_Pat]; rfl), (List.forall_mem_nil _)⟩)) fun v6 => ?_
 refine G.p rfl (V.assign rfl) ?_
 refine G.nil ?_
 refine G.norm (L' := [(3, .val v6)]) (is := [3]) (R' := [.row v6 83 4 (([b0] : List T_Pat).map e_T_Pat)]) (js := [0]) rfl rfl ?_
 refine G.next_ hK5 ?_
 refine G.seq fun K7 hK8 => ?_
 refine G.seq fun K9 hK10 => ?_
 refine G.region ?_
 refine G.p rfl (V.assign rfl) ?_
 refine G.nil ?_
 refine G.norm (L' := [(3, .val v6), (4, .val (.int .i64 0))]) (is := [3, 4]) (R' := [.row v6 83 4 (([b0] : List T_Pat).map e_T_Pat)]) (js := [0]) rfl rfl ?_
 refine G.next_ hK10 ?_
 refine G.join (E := fun b a w => ∃ (g_0 : Value), Ass Gl B 21 [(3, .val g_0)] [.row g_0 83 4 (b.map e_T_Pat)] a w) ?_ ?_
 ·intro b hF19
  refine G.block ?_
  refine G.norm (L' := [(3, .val v6), (4, .val (.int .i64 0))]) (is := [3, 4]) (R' := [.row v6 83 4 (([b0] : List T_Pat).map e_T_Pat)]) (js := [0]) rfl rfl ?_
  refine G.loop (fun kf18 a w => ∃ (x11 : List T_Pat) (x12 : Int), roadref2_pats.l1 kf18 x11 x12 = some b ∧ ∃ (g_0 : Value), Ass Gl B 21 [(3, .val g_0), (4, .val (.int .i64 x12))] [.row g_0 83 4 (x11.map e_T_Pat)] a w) (k) ?_ ?_
  ·intro hl35 a w hA
   exact ⟨([b0] : List T_Pat), 0, hl35, ⟨_, hA⟩⟩
  ·rintro kf18 a w ⟨x11, x12, hl20, ⟨g13, hA⟩⟩
   rcases kf18 with _ | kf18
   ·rw [roadref2_pats.l1_zero] at hl20
    cases hl20
   ·rw [roadref2_pats.l1_succ] at hl20
    refine G.use hl20 hA ?_
    refine G.seq fun K21 hK22 => ?_
    refine G.seq fun K23 hK24 => ?_
    refine G.region ?_
    refine G.p rfl (V.move rfl) ?_
    refine G.p rfl (V.move rfl) ?_
    refine G.lenr (i := 0) (enc := e_T_Pat) (xs := x11) rfl fun hN25 => ?_
    refine G.q rfl (V.len_row (j := 0) (enc := e_T_Pat) (xs := x11) rfl rfl Try.runUnderlying81) ?_
    refine G.p rfl (V.bin (u := .int .i64 x12) (v := .int .i64 (x11.length : Int)) (r := .bool (decide (x12 < (x11.length : Int)))) rfl rfl b_lss) ?_
    refine G.nil ?_
    refine G.norm (L' := [(3, .val g13), (4, .val (.int .i64 x12)), (10, .val (.bool (decide (x12 < (x11.length : Int)))))]) (is := [3, 4, 10]) (R' := [.row g13 83 4 (x11.map e_T_Pat)]) (js := [0]) rfl rfl ?_
    refine G.next_ hK24 ?_
    refine G.cond (b := (decide (x12 < (x11.length : Int)))) rfl (fun hc26 => ?_) (fun hc26 => ?_)
    ·refine G.norm (L' := [(3, .val g13), (4, .val (.int .i64 x12))]) (is := [3, 4]) (R' := [.row g13 83 4 (x11.map e_T_Pat)]) (js := [0]) rfl rfl ?_
     refine G.skip ?_
     refine G.next_ hK22 ?_
     refine G.seq fun K27 hK28 => ?_
     refine G.block ?_
     refine G.region ?_
     refine G.p rfl (V.move rfl) ?_
     refine G.p rfl (V.move rfl) ?_
     refine G.p rfl (V.move rfl) ?_
     refine G.bind fun y29 hy30 => ?_
     refine G.q rfl (V.nth_row (j := 0) (enc := e_T_Pat) (xs := x11) (i := x12) rfl rfl rfl Try.runUnderlying81 Try.sizeOf83 hy30) ?_
     refine G.p rfl (V.fieldAddr_rp (o' := x12.toNat * 4 + 3) rfl Try.runUnderlying83 rfl Try.sizeOf81 rfl) ?_
     refine G.q rfl (V.rowT1 (i := 0) (enc := e_T_Pat) (xs := x11) (y := y29) (j := 3) (d' := eL e_T_Pat 4 y29.fArgs) x12.toNat rfl rfl (nth_get hy30) rfl (by rw [c_T_Pat]; rfl) rfl Try.isAgg81) ?_
     refine G.bind fun l31 hl32 => ?_
     refine G.op rfl (O.append (i := 0) (enc := e_T_Pat) (xs := x11) (ys := y29.fArgs) (lim := 2513169434916) elt81 rfl rfl (.of rfl) (by decide) (by decide) one_T_Pat hl32) fun v33 => ?_
     refine G.p rfl (V.assign rfl) ?_
     refine G.nil ?_
     refine G.norm (L' := [(3, .val v33), (4, .val (.int .i64 x12))]) (is := [3, 4]) (R' := [.row v33 83 4 (l31.map e_T_Pat)]) (js := [0]) rfl rfl ?_
     refine G.inB ?_
     refine G.next_ hK28 ?_
     refine G.region ?_
     refine G.p rfl (V.move rfl) ?_
     refine G.p rfl (V.bin (u := .int .i64 x12) (v := .int .i64 1) (r := .int .i64 (addI x12 1)) rfl rfl b_add) ?_
     refine G.p rfl (V.assign rfl) ?_
     refine G.nil ?_
     refine G.norm (L' := [(3, .val v33), (4, .val (.int .i64 (addI x12 1)))]) (is := [3, 4]) (R' := [.row v33 83 4 (l31.map e_T_Pat)]) (js := [0]) rfl rfl ?_
     refine G.again ?_
     intro hl34 a w hA
     exact ⟨kf18, Nat.lt_succ_self _, l31, addI x12 1, hl34, ⟨_, hA⟩⟩
    ·refine G.norm (L' := [(3, .val g13)]) (is := [3]) (R' := [.row g13 83 4 (x11.map e_T_Pat)]) (js := [0]) rfl rfl ?_
     refine G.exit ?_
     refine G.thn_exit ?_
     refine G.thn_exit ?_
     refine G.inB_eq ?_
     exact G.finE fun hb a w hA => by subst hb; exact ⟨_, hA⟩
 ·rintro b36 hb a w ⟨g37, hA⟩ hF38
  refine G.use hF38 hA ?_
  refine G.next_ hK8 ?_
  refine G.seq fun K39 hK40 => ?_
  refine G.region ?_
  refine G.p rfl (V.move rfl) ?_
  refine G.p rfl (V.assign rfl) ?_
  refine G.nil ?_
  refine G.norm (L' := [(2, .val g37)]) (is := [2]) (R' := [.row g37 83 4 (b36.map e_T_Pat)]) (js := [0]) rfl rfl ?_
  refine G.next_ hK40 ?_
  refine G.ret ?_
  refine G.fin_ fun hF41 => ?_
  obtain rfl := Option.some.inj hF41
  exact G.ret1 Try.results30 g37 (is := [0]) (.of rfl) rfl
/-! roadstead/roadref2.SizeOf -/
def roadref2_SizeOf.l2 (k : Nat) : List (T_Arm) → Int → Option (Int)
  | [], x40 => some x40
  | y42 :: rest43, x40 => (roadref2_pats k y42.fPat).bind fun r61 => roadref2_SizeOf.l2 k rest43 (addI x40 (r61.length : Int))

theorem roadref2_SizeOf.l2_nil (k : Nat) {x40 : Int} : roadref2_SizeOf.l2 k [] x40 = some x40 := rfl
theorem roadref2_SizeOf.l2_cons (k : Nat) {y42 : T_Arm} {rest43 : List (T_Arm)} {x40 : Int} : roadref2_SizeOf.l2 k (y42 :: rest43) x40 = (roadref2_pats k y42.fPat).bind fun r61 => roadref2_SizeOf.l2 k rest43 (addI x40 (r61.length : Int)) := rfl
def roadref2_SizeOf.l1 (k : Nat) : List (T_Expr) → Int → Option (Int)
  | [], x14 => some x14
  | y16 :: rest17, x14 => (roadref2_SizeOf.l2 k y16.fArms (addI x14 1)).bind fun b67 => roadref2_SizeOf.l1 k rest17 b67

theorem roadref2_SizeOf.l1_nil (k : Nat) {x14 : Int} : roadref2_SizeOf.l1 k [] x14 = some x14 := rfl
theorem roadref2_SizeOf.l1_cons (k : Nat) {y16 : T_Expr} {rest17 : List (T_Expr)} {x14 : Int} : roadref2_SizeOf.l1 k (y16 :: rest17) x14 = (roadref2_SizeOf.l2 k y16.fArms (addI x14 1)).bind fun b67 => roadref2_SizeOf.l1 k rest17 b67 := rfl
def roadref2_SizeOf.Spec (F : T_Expr → Option (Int)) : Prop := ∀ {b0 : T_Expr} {out : Int}, F b0 = some out → Ct Gl Try.prog 17 [.agg (lf_T_Expr b0)] [] (fun x : Unit => .val (.int .i64 out)) (fun x : Unit => [])
def roadref2_SizeOf (k : Nat) (b0 : T_Expr) : Option (Int) := (roadref2_All k b0).bind fun r10 => (roadref2_SizeOf.l1 k r10 0).bind fun b71 => some b71
set_option maxRecDepth 100000 in
theorem roadref2_SizeOf_ok (k : Nat) : roadref2_SizeOf.Spec (roadref2_SizeOf k) := by
 intro b0 out hp
 refine ct_of_G (nt := 33) Try.func17 rfl Try.ntmps17 rfl (fun B => ?_) hp
 unfold roadref2_SizeOf
 refine G.seq fun K1 hK2 => ?_
 refine G.region ?_
 refine G.op rfl (O.box (.of rfl) (OneC.agg (List.forall_mem_cons.2 ⟨(.val rfl), (List.forall_mem_cons.2 ⟨(.val rfl), (List.forall_mem_cons.2 ⟨(.val rfl), (List.forall_mem_cons.2 ⟨.sl, (List.forall_mem_cons.2 ⟨.sl, (List.forall_mem_cons.2 ⟨.sl, (List.forall_mem_cons.2 ⟨.sl, (List.forall_mem_cons.2 ⟨(.val rfl), (List.forall_mem_nil _)⟩)⟩)⟩)⟩)⟩)⟩)⟩)⟩))) fun g3 => ?_
 refine G.p rfl (V.assign rfl) ?_
 refine G.nil ?_
 refine G.norm (L' := [(1, .val (.pointer (some ⟨g3, 0, none⟩)))]) (is := [1]) (R' := [.cells g3 47 (lf_T_Expr b0)]) (js := [0]) rfl rfl ?_
 refine G.next_ hK2 ?_
 refine G.seq fun K4 hK5 => ?_
 refine G.region ?_
 refine G.p rfl (V.assign rfl) ?_
 refine G.nil ?_
 refine G.norm (L' := [(1, .val (.pointer (some ⟨g3, 0, none⟩))), (3, .val (.int .i64 0))]) (is := [1, 3]) (R' := [.cells g3 47 (lf_T_Expr b0)]) (js := [0]) rfl rfl ?_
 refine G.next_ hK5 ?_
 refine G.seq fun K6 hK7 => ?_
 refine G.seq fun K8 hK9 => ?_
 refine G.region ?_
 refine G.q rfl (V.load_cellN (i := 0) (ds := (lf_T_Expr b0)) (c1 := (lf_T_Expr b0)) rfl rfl Try.isAgg47 Try.sizeOf47 rfl rfl rfl) ?_
 refine G.bind fun r10 hr11 => ?_
 refine G.op rfl (O.call (xs := [.tmp 8]) (is := []) (Rp := []) (Rr := [.cells g3 47 (lf_T_Expr b0)]) (roadref2_All_ok k hr11) (.cons (.of rfl) .nil) Try.call29 rfl) fun x12 => ?_
 refine G.lenr (i := 0) (enc := e_T_Expr) (xs := r10) rfl fun hN13 => ?_
 refine G.q rfl (V.len_row (j := 0) (enc := e_T_Expr) (xs := r10) rfl rfl Try.runUnderlying42) ?_
 refine G.p rfl (V.move rfl) ?_
 refine G.nil ?_
 refine G.norm (L' := [(3, .val (.int .i64 0)), (9, .val x12), (10, .val (.int .i64 (r10.length : Int))), (11, .val (.int .i64 0))]) (is := [3, 9, 10, 11]) (R' := [.row x12 47 8 (r10.map e_T_Expr)]) (js := [0]) rfl rfl ?_
 refine G.next_ hK9 ?_
 refine G.join (E := fun b a w => Ass Gl B 33 [(3, .val (.int .i64 b))] [] a w) ?_ ?_
 ·intro b hF20
  refine G.block ?_
  refine G.norm (L' := [(3, .val (.int .i64 0)), (9, .val x12), (10, .val (.int .i64 (r10.length : Int))), (11, .val (.int .i64 ((0 : Nat) : Int)))]) (is := [3, 9, 10, 11]) (R' := [.row x12 47 8 (r10.map e_T_Expr)]) (js := [0]) rfl rfl ?_
  refine G.loop (fun kq a w => ∃ (rest17 : List (T_Expr)) (i15 : Nat) (x14 : Int), kq = rest17.length ∧ roadref2_SizeOf.l1 k rest17 x14 = some b ∧ r10.drop i15 = rest17 ∧ Ass Gl B 33 [(3, .val (.int .i64 x14)), (9, .val x12), (10, .val (.int .i64 (r10.length : Int))), (11, .val (.int .i64 (i15 : Int)))] [.row x12 47 8 (r10.map e_T_Expr)] a w) (r10.length) ?_ ?_
  ·intro hl70 a w hA
   exact ⟨r10, 0, 0, rfl, hl70, rfl, hA⟩
  ·rintro _ a w ⟨rest17, i15, x14, rfl, hl21, hd18, hA⟩
   rcases rest17 with _ | ⟨y16, rest17⟩
   ·rw [roadref2_SizeOf.l1_nil] at hl21
    refine G.use hl21 hA ?_
    refine G.seq fun K22 hK23 => ?_
    refine G.region ?_
    refine G.p rfl (V.bin (u := .int .i64 (i15 : Int)) (v := .int .i64 (r10.length : Int)) (r := .bool (decide ((i15 : Int) < (r10.length : Int)))) rfl rfl b_lss) ?_
    refine G.nil ?_
    refine G.norm (L' := [(3, .val (.int .i64 x14)), (9, .val x12), (10, .val (.int .i64 (r10.length : Int))), (11, .val (.int .i64 (i15 : Int))), (12, .val (.bool (decide ((i15 : Int) < (r10.length : Int)))))]) (is := [3, 9, 10, 11, 12]) (R' := [.row x12 47 8 (r10.map e_T_Expr)]) (js := [0]) rfl rfl ?_
    refine G.next_ hK23 ?_
    refine G.seq fun K24 hK25 => ?_
    refine G.no rfl (rng_end hd18) ?_
    refine G.exit ?_
    refine G.thn_exit ?_
    refine G.thn_exit ?_
    refine G.inB_eq ?_
    refine G.norm (L' := [(3, .val (.int .i64 x14))]) (is := [3]) (R' := []) (js := []) rfl rfl ?_
    exact G.finE fun hb a w hA => by subst hb; exact hA
   ·rw [roadref2_SizeOf.l1_cons] at hl21
    refine G.use hl21 hA ?_
    refine G.seq fun K26 hK27 => ?_
    refine G.region ?_
    refine G.p rfl (V.bin (u := .int .i64 (i15 : Int)) (v := .int .i64 (r10.length : Int)) (r := .bool (decide ((i15 : Int) < (r10.length : Int)))) rfl rfl b_lss) ?_
    refine G.nil ?_
    refine G.norm (L' := [(3, .val (.int .i64 x14)), (9, .val x12), (10, .val (.int .i64 (r10.length : Int))), (11, .val (.int .i64 (i15 : Int))), (12, .val (.bool (decide ((i15 : Int) < (r10.length : Int)))))]) (is := [3, 9, 10, 11, 12]) (R' := [.row x12 47 8 (r10.map e_T_Expr)]) (js := [0]) rfl rfl ?_
    refine G.next_ hK27 ?_
    refine G.seq fun K28 hK29 => ?_
    refine G.yes rfl (rng_more hd18) ?_
    refine G.skip ?_
    refine G.next_ hK29 ?_
    refine G.seq fun K30 hK31 => ?_
    refine G.block ?_
    refine G.seq fun K32 hK33 => ?_
    refine G.region ?_
    refine G.q rfl (V.atT_row (k := i15) (i := 0) (enc := e_T_Expr) (xs := r10) rfl rfl rfl Try.runUnderlying42 Try.sizeOf47 (rng_at hd18)) ?_
    refine G.q rfl (V.rowTN (i := 0) (enc := e_T_Expr) (xs := r10) (j := 0) (c1 := (lf_T_Expr y16)) i15 rfl rfl (rng_at hd18) rfl (c_T_Expr _) rfl rfl rfl Try.isAgg47 Try.sizeOf47) ?_
    refine G.op rfl (O.alloc (ds := [.val (.int .i64 0), .val (.int .i64 0), .val (bs ([] : Str)), .val (.slice none 0 0), .val (.slice none 0 0), .val (.slice none 0 0), .val (.slice none 0 0), .val (.int .i64 0)]) Try.zeroValue47 rfl) fun g34 => ?_
    refine G.opn (O.store (i := 0) (o := 0) (ds := [.val (.int .i64 0), .val (.int .i64 0), .val (bs ([] : Str)), .val (.slice none 0 0), .val (.slice none 0 0), .val (.slice none 0 0), .val (.slice none 0 0), .val (.int .i64 0)]) rfl (.of rfl) rfl (OneC.agg (List.forall_mem_cons.2 ⟨(.val rfl), (List.forall_mem_cons.2 ⟨(.val rfl), (List.forall_mem_cons.2 ⟨(.val rfl), (List.forall_mem_cons.2 ⟨.sl, (List.forall_mem_cons.2 ⟨.sl, (List.forall_mem_cons.2 ⟨.sl, (List.forall_mem_cons.2 ⟨.sl, (List.forall_mem_cons.2 ⟨(.val rfl), (List.forall_mem_nil _)⟩)⟩)⟩)⟩)⟩)⟩)⟩)⟩)) Try.sizeOf47 rfl rfl) fun _ => ?_
    refine G.nil ?_
    refine G.norm (L' := [(3, .val (.int .i64 x14)), (5, .val (.pointer (some ⟨g34, 0, none⟩))), (9, .val x12), (10, .val (.int .i64 (r10.length : Int))), (11, .val (.int .i64 (i15 : Int)))]) (is := [3, 5, 9, 10, 11]) (R' := [.cells g34 47 (lf_T_Expr y16), .row x12 47 8 (r10.map e_T_Expr)]) (js := [0, 0]) rfl rfl ?_
    refine G.next_ hK33 ?_
    refine G.seq fun K35 hK36 => ?_
    refine G.region ?_
    refine G.p rfl (V.move rfl) ?_
    refine G.p rfl (V.bin (u := .int .i64 x14) (v := .int .i64 1) (r := .int .i64 (addI x14 1)) rfl rfl b_add) ?_
    refine G.p rfl (V.assign rfl) ?_
    refine G.nil ?_
    refine G.norm (L' := [(3, .val (.int .i64 (addI x14 1))), (5, .val (.pointer (some ⟨g34, 0, none⟩))), (9, .val x12), (10, .val (.int .i64 (r10.length : Int))), (11, .val (.int .i64 (i15 : Int)))]) (is := [3, 5, 9, 10, 11]) (R' := [.cells g34 47 (lf_T_Expr y16), .row x12 47 8 (r10.map e_T_Expr)]) (js := [0, 0]) rfl rfl ?_
    refine G.next_ hK36 ?_
    refine G.seq fun K37 hK38 => ?_
    refine G.region ?_
    refine G.p rfl (V.fieldAddr (o' := 6) rfl Try.runUnderlying47 rfl Try.sizeOf45 rfl) ?_
    refine G.q rfl (V.load_cell (i := 0) (ds := (lf_T_Expr y16)) (d := eL e_T_Arm 12 y16.fArms) rfl rfl Try.isAgg45 rfl rfl) ?_
    refine G.lenb (enc := e_T_Arm) (xs := y16.fArms) (sz := 12) (x := .tmp 18) (.of rfl) fun hN39 => ?_
    refine G.p rfl (V.len_sl (enc := e_T_Arm) (xs := y16.fArms) (sz := 12) (.of rfl) Try.runUnderlying45) ?_
    refine G.p rfl (V.move rfl) ?_
    refine G.nil ?_
    refine G.norm (L' := [(3, .val (.int .i64 (addI x14 1))), (9, .val x12), (10, .val (.int .i64 (r10.length : Int))), (11, .val (.int .i64 (i15 : Int))), (18, eL e_T_Arm 12 y16.fArms), (19, .val (.int .i64 (y16.fArms.length : Int))), (20, .val (.int .i64 0))]) (is := [3, 9, 10, 11, 18, 19, 20]) (R' := [.row x12 47 8 (r10.map e_T_Expr)]) (js := [1]) rfl rfl ?_
    refine G.next_ hK38 ?_
    refine G.join (E := fun b a w => Ass Gl B 33 [(3, .val (.int .i64 b)), (9, .val x12), (10, .val (.int .i64 (r10.length : Int))), (11, .val (.int .i64 (i15 : Int)))] [.row x12 47 8 (r10.map e_T_Expr)] a w) ?_ ?_
    ·intro b hF46
     refine G.block ?_
     refine G.norm (L' := [(3, .val (.int .i64 (addI x14 1))), (9, .val x12), (10, .val (.int .i64 (r10.length : Int))), (11, .val (.int .i64 (i15 : Int))), (18, eL e_T_Arm 12 y16.fArms), (19, .val (.int .i64 (y16.fArms.length : Int))), (20, .val (.int .i64 ((0 : Nat) : Int)))]) (is := [3, 9, 10, 11, 18, 19, 20]) (R' := [.row x12 47 8 (r10.map e_T_Expr)]) (js := [0]) rfl rfl ?_
     refine G.loop (fun kq a w => ∃ (rest43 : List (T_Arm)) (i41 : Nat) (x40 : Int), kq = rest43.length ∧ roadref2_SizeOf.l2 k rest43 x40 = some b ∧ y16.fArms.drop i41 = rest43 ∧ Ass Gl B 33 [(3, .val (.int .i64 x40)), (9, .val x12), (10, .val (.int .i64 (r10.length : Int))), (11, .val (.int .i64 (i15 : Int))), (18, eL e_T_Arm 12 y16.fArms), (19, .val (.int .i64 (y16.fArms.length : Int))), (20, .val (.int .i64 (i41 : Int)))] [.row x12 47 8 (r10.map e_T_Expr)] a w) (y16.fArms.length) ?_ ?_
     ·intro hl66 a w hA
      exact ⟨y16.fArms, 0, addI x14 1, rfl, hl66, rfl, hA⟩
     ·rintro _ a w ⟨rest43, i41, x40, rfl, hl47, hd44, hA⟩
      rcases rest43 with _ | ⟨y42, rest43⟩
      ·rw [roadref2_SizeOf.l2_nil] at hl47
       refine G.use hl47 hA ?_
       refine G.seq fun K48 hK49 => ?_
       refine G.region ?_
       refine G.p rfl (V.bin (u := .int .i64 (i41 : Int)) (v := .int .i64 (y16.fArms.length : Int)) (r := .bool (decide ((i41 : Int) < (y16.fArms.length : Int)))) rfl rfl b_lss) ?_
       refine G.nil ?_
       refine G.norm (L' := [(3, .val (.int .i64 x40)), (9, .val x12), (10, .val (.int .i64 (r10.length : Int))), (11, .val (.int .i64 (i15 : Int))), (18, eL e_T_Arm 12 y16.fArms), (19, .val (.int .i64 (y16.fArms.length : Int))), (20, .val (.int .i64 (i41 : Int))), (21, .val (.bool (decide ((i41 : Int) < (y16.fArms.length : Int)))))]) (is := [3, 9, 10, 11, 18, 19, 20, 21]) (R' := [.row x12 47 8 (r10.map e_T_Expr)]) (js := [0]) rfl rfl ?_
       refine G.next_ hK49 ?_
       refine G.seq fun K50 hK51 => ?_
       refine G.no rfl (rng_end hd44) ?_
       refine G.exit ?_
       refine G.thn_exit ?_
       refine G.thn_exit ?_
       refine G.inB_eq ?_
       refine G.norm (L' := [(3, .val (.int .i64 x40)), (9, .val x12), (10, .val (.int .i64 (r10.length : Int))), (11, .val (.int .i64 (i15 : Int)))]) (is := [3, 9, 10, 11]) (R' := [.row x12 47 8 (r10.map e_T_Expr)]) (js := [0]) rfl rfl ?_
       exact G.finE fun hb a w hA => by subst hb; exact hA
      ·rw [roadref2_SizeOf.l2_cons] at hl47
       refine G.use hl47 hA ?_
       refine G.seq fun K52 hK53 => ?_
       refine G.region ?_
       refine G.p rfl (V.bin (u := .int .i64 (i41 : Int)) (v := .int .i64 (y16.fArms.length : Int)) (r := .bool (decide ((i41 : Int) < (y16.fArms.length : Int)))) rfl rfl b_lss) ?_
       refine G.nil ?_
       refine G.norm (L' := [(3, .val (.int .i64 x40)), (9, .val x12), (10, .val (.int .i64 (r10.length : Int))), (11, .val (.int .i64 (i15 : Int))), (18, eL e_T_Arm 12 y16.fArms), (19, .val (.int .i64 (y16.fArms.length : Int))), (20, .val (.int .i64 (i41 : Int))), (21, .val (.bool (decide ((i41 : Int) < (y16.fArms.length : Int)))))]) (is := [3, 9, 10, 11, 18, 19, 20, 21]) (R' := [.row x12 47 8 (r10.map e_T_Expr)]) (js := [0]) rfl rfl ?_
       refine G.next_ hK53 ?_
       refine G.seq fun K54 hK55 => ?_
       refine G.yes rfl (rng_more hd44) ?_
       refine G.skip ?_
       refine G.next_ hK55 ?_
       refine G.seq fun K56 hK57 => ?_
       refine G.block ?_
       refine G.seq fun K58 hK59 => ?_
       refine G.region ?_
       refine G.p rfl (V.at_sl (k := i41) rfl rfl Try.runUnderlying45 Try.sizeOf85 (map_at (rng_at hd44))) ?_
       refine G.q rfl (V.load_ptrN (ds := (lf_T_Arm y42)) rfl (e_T_Arm_eq y42) Try.isAgg85 Try.sizeOf85 rfl) ?_
       refine G.op rfl (O.alloc (ds := [.val (.int .i64 0), .val (.int .i64 0), .val (bs ([] : Str)), .val (.slice none 0 0), .val (.int .i64 0), .val (.int .i64 0), .val (bs ([] : Str)), .val (.slice none 0 0), .val (.slice none 0 0), .val (.slice none 0 0), .val (.slice none 0 0), .val (.int .i64 0)]) Try.zeroValue85 rfl) fun g60 => ?_
       refine G.opn (O.store (i := 0) (o := 0) (ds := [.val (.int .i64 0), .val (.int .i64 0), .val (bs ([] : Str)), .val (.slice none 0 0), .val (.int .i64 0), .val (.int .i64 0), .val (bs ([] : Str)), .val (.slice none 0 0), .val (.slice none 0 0), .val (.slice none 0 0), .val (.slice none 0 0), .val (.int .i64 0)]) rfl (.of rfl) rfl (OneC.agg (List.forall_mem_cons.2 ⟨(.val rfl), (List.forall_mem_cons.2 ⟨(.val rfl), (List.forall_mem_cons.2 ⟨(.val rfl), (List.forall_mem_cons.2 ⟨.sl, (List.forall_mem_cons.2 ⟨(.val rfl), (List.forall_mem_cons.2 ⟨(.val rfl), (List.forall_mem_cons.2 ⟨(.val rfl), (List.forall_mem_cons.2 ⟨.sl, (List.forall_mem_cons.2 ⟨.sl, (List.forall_mem_cons.2 ⟨.sl, (List.forall_mem_cons.2 ⟨.sl, (List.forall_mem_cons.2 ⟨(.val rfl), (List.forall_mem_nil _)⟩)⟩)⟩)⟩)⟩)⟩)⟩)⟩)⟩)⟩)⟩)⟩)) Try.sizeOf85 rfl rfl) fun _ => ?_
       refine G.nil ?_
       refine G.norm (L' := [(3, .val (.int .i64 x40)), (7, .val (.pointer (some ⟨g60, 0, none⟩))), (9, .val x12), (10, .val (.int .i64 (r10.length : Int))), (11, .val (.int .i64 (i15 : Int))), (18, eL e_T_Arm 12 y16.fArms), (19, .val (.int .i64 (y16.fArms.length : Int))), (20, .val (.int .i64 (i41 : Int)))]) (is := [3, 7, 9, 10, 11, 18, 19, 20]) (R' := [.cells g60 85 (lf_T_Arm y42), .row x12 47 8 (r10.map e_T_Expr)]) (js := [0, 0]) rfl rfl ?_
       refine G.next_ hK59 ?_
       refine G.region ?_
       refine G.p rfl (V.move rfl) ?_
       refine G.p rfl (V.fieldAddr (o' := 0) rfl Try.runUnderlying85 rfl Try.sizeOf83 rfl) ?_
       refine G.q rfl (V.load_cellN (i := 0) (ds := (lf_T_Arm y42)) (c1 := (lf_T_Pat y42.fPat)) rfl rfl Try.isAgg83 Try.sizeOf83 rfl rfl rfl) ?_
       refine G.bind fun r61 hr62 => ?_
       refine G.op rfl (O.call (xs := [.tmp 26]) (is := []) (Rp := []) (Rr := [.cells g60 85 (lf_T_Arm y42), .row x12 47 8 (r10.map e_T_Expr)]) (roadref2_pats_ok k hr62) (.cons (.of rfl) .nil) Try.call30 rfl) fun x63 => ?_
       refine G.lenr (i := 0) (enc := e_T_Pat) (xs := r61) rfl fun hN64 => ?_
       refine G.q rfl (V.len_row (j := 0) (enc := e_T_Pat) (xs := r61) rfl rfl Try.runUnderlying81) ?_
       refine G.p rfl (V.bin (u := .int .i64 x40) (v := .int .i64 (r61.length : Int)) (r := .int .i64 (addI x40 (r61.length : Int))) rfl rfl b_add) ?_
       refine G.p rfl (V.assign rfl) ?_
       refine G.nil ?_
       refine G.norm (L' := [(3, .val (.int .i64 (addI x40 (r61.length : Int)))), (9, .val x12), (10, .val (.int .i64 (r10.length : Int))), (11, .val (.int .i64 (i15 : Int))), (18, eL e_T_Arm 12 y16.fArms), (19, .val (.int .i64 (y16.fArms.length : Int))), (20, .val (.int .i64 (i41 : Int)))]) (is := [3, 9, 10, 11, 18, 19, 20]) (R' := [.row x12 47 8 (r10.map e_T_Expr)]) (js := [2]) rfl rfl ?_
       refine G.inB ?_
       refine G.next_ hK57 ?_
       refine G.region ?_
       refine G.p rfl (V.incr (i := i41) (N := y16.fArms.length) rfl rfl (rng_lt hd44) (hN39)) ?_
       refine G.p rfl (V.move rfl) ?_
       refine G.nil ?_
       refine G.norm (L' := [(3, .val (.int .i64 (addI x40 (r61.length : Int)))), (9, .val x12), (10, .val (.int .i64 (r10.length : Int))), (11, .val (.int .i64 (i15 : Int))), (18, eL e_T_Arm 12 y16.fArms), (19, .val (.int .i64 (y16.fArms.length : Int))), (20, .val (.int .i64 ((i41 + 1 : Nat) : Int)))]) (is := [3, 9, 10, 11, 18, 19, 20]) (R' := [.row x12 47 8 (r10.map e_T_Expr)]) (js := [0]) rfl rfl ?_
       refine G.again ?_
       intro hl65 a w hA
       exact ⟨_, Nat.lt_succ_self _, rest43, i41 + 1, addI x40 (r61.length : Int), rfl, hl65, rng_next hd44, hA⟩
    ·rintro b67 hb a w hA hF68
     refine G.use hF68 hA ?_
     refine G.inB ?_
     refine G.next_ hK31 ?_
     refine G.region ?_
     refine G.p rfl (V.incr (i := i15) (N := r10.length) rfl rfl (rng_lt hd18) (hN13)) ?_
     refine G.p rfl (V.move rfl) ?_
     refine G.nil ?_
     refine G.norm (L' := [(3, .val (.int .i64 b67)), (9, .val x12), (10, .val (.int .i64 (r10.length : Int))), (11, .val (.int .i64 ((i15 + 1 : Nat) : Int)))]) (is := [3, 9, 10, 11]) (R' := [.row x12 47 8 (r10.map e_T_Expr)]) (js := [0]) rfl rfl ?_
     refine G.again ?_
     intro hl69 a w hA
     exact ⟨_, Nat.lt_succ_self _, rest17, i15 + 1, b67, rfl, hl69, rng_next hd18, hA⟩
 ·rintro b71 hb a w hA hF72
  refine G.use hF72 hA ?_
  refine G.next_ hK7 ?_
  refine G.seq fun K73 hK74 => ?_
  refine G.region ?_
  refine G.p rfl (V.move rfl) ?_
  refine G.p rfl (V.assign rfl) ?_
  refine G.nil ?_
  refine G.norm (L' := [(2, .val (.int .i64 b71))]) (is := [2]) (R' := []) (js := []) rfl rfl ?_
  refine G.next_ hK74 ?_
  refine G.ret ?_
  refine G.fin_ fun hF75 => ?_
  obtain rfl := Option.some.inj hF75
  exact G.ret1 Try.results17 () (is := []) (.of rfl) rfl
/-! roadstead/roadlaw2.small -/
def roadlaw2_small.l1 (k : Nat) : List (T_Expr) → Int → Option (Int)
  | [], x14 => some x14
  | y16 :: rest17, x14 => (roadref2_SizeOf k y16).bind fun r35 => roadlaw2_small.l1 k rest17 (addI x14 r35)

theorem roadlaw2_small.l1_nil (k : Nat) {x14 : Int} : roadlaw2_small.l1 k [] x14 = some x14 := rfl
theorem roadlaw2_small.l1_cons (k : Nat) {y16 : T_Expr} {rest17 : List (T_Expr)} {x14 : Int} : roadlaw2_small.l1 k (y16 :: rest17) x14 = (roadref2_SizeOf k y16).bind fun r35 => roadlaw2_small.l1 k rest17 (addI x14 r35) := rfl
def roadlaw2_small.Spec (F : T_Program → Option (Bool)) : Prop := ∀ {b0 : T_Program} {out : Bool}, F b0 = some out → Ct Gl Try.prog 4 [.agg (lf_T_Program b0)] [] (fun x : Unit => .val (.bool out)) (fun x : Unit => [])
def roadlaw2_small (k : Nat) (b0 : T_Program) : Option (Bool) := (roadref2_BodiesOf b0).bind fun r10 => (roadlaw2_small.l1 k r10 0).bind fun b40 => some (decide (b40 ≤ 400))
set_option maxRecDepth 100000 in
theorem roadlaw2_small_ok (k : Nat) : roadlaw2_small.Spec (roadlaw2_small k) := by
 intro b0 out hp
 refine ct_of_G (nt := 20) Try.func4 rfl Try.ntmps4 rfl (fun B => ?_) hp
 unfold roadlaw2_small
 refine G.seq fun K1 hK2 => ?_
 refine G.region ?_
 refine G.op rfl (O.box (.of rfl) (OneC.agg (List.forall_mem_cons.2 ⟨(.val rfl), (List.forall_mem_cons.2 ⟨(.val rfl), (List.forall_mem_cons.2 ⟨.sl, (List.forall_mem_cons.2 ⟨.sl, (List.forall_mem_cons.2 ⟨.sl, (List.forall_mem_cons.2 ⟨.sl, (List.forall_mem_cons.2 ⟨.sl, (List.forall_mem_cons.2 ⟨.sl, (List.forall_mem_nil _)⟩)⟩)⟩)⟩)⟩)⟩)⟩)⟩))) fun g3 => ?_
 refine G.p rfl (V.assign rfl) ?_
 refine G.nil ?_
 refine G.norm (L' := [(1, .val (.pointer (some ⟨g3, 0, none⟩)))]) (is := [1]) (R' := [.cells g3 29 (lf_T_Program b0)]) (js := [0]) rfl rfl ?_
 refine G.next_ hK2 ?_
 refine G.seq fun K4 hK5 => ?_
 refine G.region ?_
 refine G.p rfl (V.assign rfl) ?_
 refine G.nil ?_
 refine G.norm (L' := [(1, .val (.pointer (some ⟨g3, 0, none⟩))), (3, .val (.int .i64 0))]) (is := [1, 3]) (R' := [.cells g3 29 (lf_T_Program b0)]) (js := [0]) rfl rfl ?_
 refine G.next_ hK5 ?_
 refine G.seq fun K6 hK7 => ?_
 refine G.seq fun K8 hK9 => ?_
 refine G.region ?_
 refine G.q rfl (V.load_cellN (i := 0) (ds := (lf_T_Program b0)) (c1 := (lf_T_Program b0)) rfl rfl Try.isAgg29 Try.sizeOf29 rfl rfl rfl) ?_
 refine G.bind fun r10 hr11 => ?_
 refine G.op rfl (O.call (xs := [.tmp 6]) (is := []) (Rp := []) (Rr := [.cells g3 29 (lf_T_Program b0)]) (roadref2_BodiesOf_ok hr11) (.cons (.of rfl) .nil) Try.call12 rfl) fun x12 => ?_
 refine G.lenr (i := 0) (enc := e_T_Expr) (xs := r10) rfl fun hN13 => ?_
 refine G.q rfl (V.len_row (j := 0) (enc := e_T_Expr) (xs := r10) rfl rfl Try.runUnderlying42) ?_
 refine G.p rfl (V.move rfl) ?_
 refine G.nil ?_
 refine G.norm (L' := [(3, .val (.int .i64 0)), (7, .val x12), (8, .val (.int .i64 (r10.length : Int))), (9, .val (.int .i64 0))]) (is := [3, 7, 8, 9]) (R' := [.row x12 47 8 (r10.map e_T_Expr)]) (js := [0]) rfl rfl ?_
 refine G.next_ hK9 ?_
 refine G.join (E := fun b a w => Ass Gl B 20 [(3, .val (.int .i64 b))] [] a w) ?_ ?_
 ·intro b hF20
  refine G.block ?_
  refine G.norm (L' := [(3, .val (.int .i64 0)), (7, .val x12), (8, .val (.int .i64 (r10.length : Int))), (9, .val (.int .i64 ((0 : Nat) : Int)))]) (is := [3, 7, 8, 9]) (R' := [.row x12 47 8 (r10.map e_T_Expr)]) (js := [0]) rfl rfl ?_
  refine G.loop (fun kq a w => ∃ (rest17 : List (T_Expr)) (i15 : Nat) (x14 : Int), kq = rest17.length ∧ roadlaw2_small.l1 k rest17 x14 = some b ∧ r10.drop i15 = rest17 ∧ Ass Gl B 20 [(3, .val (.int .i64 x14)), (7, .val x12), (8, .val (.int .i64 (r10.length : Int))), (9, .val (.int .i64 (i15 : Int)))] [.row x12 47 8 (r10.map e_T_Expr)] a w) (r10.length) ?_ ?_
  ·intro hl39 a w hA
   exact ⟨r10, 0, 0, rfl, hl39, rfl, hA⟩
  ·rintro _ a w ⟨rest17, i15, x14, rfl, hl21, hd18, hA⟩
   rcases rest17 with _ | ⟨y16, rest17⟩
   ·rw [roadlaw2_small.l1_nil] at hl21
    refine G.use hl21 hA ?_
    refine G.seq fun K22 hK23 => ?_
    refine G.region ?_
    refine G.p rfl (V.bin (u := .int .i64 (i15 : Int)) (v := .int .i64 (r10.length : Int)) (r := .bool (decide ((i15 : Int) < (r10.length : Int)))) rfl rfl b_lss) ?_
    refine G.nil ?_
    refine G.norm (L' := [(3, .val (.int .i64 x14)), (7, .val x12), (8, .val (.int .i64 (r10.length : Int))), (9, .val (.int .i64 (i15 : Int))), (10, .val (.bool (decide ((i15 : Int) < (r10.length : Int)))))]) (is := [3, 7, 8, 9, 10]) (R' := [.row x12 47 8 (r10.map e_T_Expr)]) (js := [0]) rfl rfl ?_
    refine G.next_ hK23 ?_
    refine G.seq fun K24 hK25 => ?_
    refine G.no rfl (rng_end hd18) ?_
    refine G.exit ?_
    refine G.thn_exit ?_
    refine G.thn_exit ?_
    refine G.inB_eq ?_
    refine G.norm (L' := [(3, .val (.int .i64 x14))]) (is := [3]) (R' := []) (js := []) rfl rfl ?_
    exact G.finE fun hb a w hA => by subst hb; exact hA
   ·rw [roadlaw2_small.l1_cons] at hl21
    refine G.use hl21 hA ?_
    refine G.seq fun K26 hK27 => ?_
    refine G.region ?_
    refine G.p rfl (V.bin (u := .int .i64 (i15 : Int)) (v := .int .i64 (r10.length : Int)) (r := .bool (decide ((i15 : Int) < (r10.length : Int)))) rfl rfl b_lss) ?_
    refine G.nil ?_
    refine G.norm (L' := [(3, .val (.int .i64 x14)), (7, .val x12), (8, .val (.int .i64 (r10.length : Int))), (9, .val (.int .i64 (i15 : Int))), (10, .val (.bool (decide ((i15 : Int) < (r10.length : Int)))))]) (is := [3, 7, 8, 9, 10]) (R' := [.row x12 47 8 (r10.map e_T_Expr)]) (js := [0]) rfl rfl ?_
    refine G.next_ hK27 ?_
    refine G.seq fun K28 hK29 => ?_
    refine G.yes rfl (rng_more hd18) ?_
    refine G.skip ?_
    refine G.next_ hK29 ?_
    refine G.seq fun K30 hK31 => ?_
    refine G.block ?_
    refine G.seq fun K32 hK33 => ?_
    refine G.region ?_
    refine G.q rfl (V.atT_row (k := i15) (i := 0) (enc := e_T_Expr) (xs := r10) rfl rfl rfl Try.runUnderlying42 Try.sizeOf47 (rng_at hd18)) ?_
    refine G.q rfl (V.rowTN (i := 0) (enc := e_T_Expr) (xs := r10) (j := 0) (c1 := (lf_T_Expr y16)) i15 rfl rfl (rng_at hd18) rfl (c_T_Expr _) rfl rfl rfl Try.isAgg47 Try.sizeOf47) ?_
    refine G.op rfl (O.alloc (ds := [.val (.int .i64 0), .val (.int .i64 0), .val (bs ([] : Str)), .val (.slice none 0 0), .val (.slice none 0 0), .val (.slice none 0 0), .val (.slice none 0 0), .val (.int .i64 0)]) Try.zeroValue47 rfl) fun g34 => ?_
    refine G.opn (O.store (i := 0) (o := 0) (ds := [.val (.int .i64 0), .val (.int .i64 0), .val (bs ([] : Str)), .val (.slice none 0 0), .val (.slice none 0 0), .val (.slice none 0 0), .val (.slice none 0 0), .val (.int .i64 0)]) rfl (.of rfl) rfl (OneC.agg (List.forall_mem_cons.2 ⟨(.val rfl), (List.forall_mem_cons.2 ⟨(.val rfl), (List.forall_mem_cons.2 ⟨(.val rfl), (List.forall_mem_cons.2 ⟨.sl, (List.forall_mem_cons.2 ⟨.sl, (List.forall_mem_cons.2 ⟨.sl, (List.forall_mem_cons.2 ⟨.sl, (List.forall_mem_cons.2 ⟨(.val rfl), (List.forall_mem_nil _)⟩)⟩)⟩)⟩)⟩)⟩)⟩)⟩)) Try.sizeOf47 rfl rfl) fun _ => ?_
    refine G.nil ?_
    refine G.norm (L' := [(3, .val (.int .i64 x14)), (5, .val (.pointer (some ⟨g34, 0, none⟩))), (7, .val x12), (8, .val (.int .i64 (r10.length : Int))), (9, .val (.int .i64 (i15 : Int)))]) (is := [3, 5, 7, 8, 9]) (R' := [.cells g34 47 (lf_T_Expr y16), .row x12 47 8 (r10.map e_T_Expr)]) (js := [0, 0]) rfl rfl ?_
    refine G.next_ hK33 ?_
    refine G.region ?_
    refine G.p rfl (V.move rfl) ?_
    refine G.q rfl (V.load_cellN (i := 0) (ds := (lf_T_Expr y16)) (c1 := (lf_T_Expr y16)) rfl rfl Try.isAgg47 Try.sizeOf47 rfl rfl rfl) ?_
    refine G.bind fun r35 hr36 => ?_
    refine G.op rfl (O.call (xs := [.tmp 14]) (is := []) (Rp := []) (Rr := [.cells g34 47 (lf_T_Expr y16), .row x12 47 8 (r10.map e_T_Expr)]) (roadref2_SizeOf_ok k hr36) (.cons (.of rfl) .nil) Try.call17 rfl) fun x37 => ?_
    refine G.p rfl (V.bin (u := .int .i64 x14) (v := .int .i64 r35) (r := .int .i64 (addI x14 r35)) rfl rfl b_add) ?_
    refine G.p rfl (V.assign rfl) ?_
    refine G.nil ?_
    refine G.norm (L' := [(3, .val (.int .i64 (addI x14 r35))), (7, .val x12), (8, .val (.int .i64 (r10.length : Int))), (9, .val (.int .i64 (i15 : Int)))]) (is := [3, 7, 8, 9]) (R' := [.row x12 47 8 (r10.map e_T_Expr)]) (js := [1]) rfl rfl ?_
    refine G.inB ?_
    refine G.next_ hK31 ?_
    refine G.region ?_
    refine G.p rfl (V.incr (i := i15) (N := r10.length) rfl rfl (rng_lt hd18) (hN13)) ?_
    refine G.p rfl (V.move rfl) ?_
    refine G.nil ?_
    refine G.norm (L' := [(3, .val (.int .i64 (addI x14 r35))), (7, .val x12), (8, .val (.int .i64 (r10.length : Int))), (9, .val (.int .i64 ((i15 + 1 : Nat) : Int)))]) (is := [3, 7, 8, 9]) (R' := [.row x12 47 8 (r10.map e_T_Expr)]) (js := [0]) rfl rfl ?_
    refine G.again ?_
    intro hl38 a w hA
    exact ⟨_, Nat.lt_succ_self _, rest17, i15 + 1, addI x14 r35, rfl, hl38, rng_next hd18, hA⟩
 ·rintro b40 hb a w hA hF41
  refine G.use hF41 hA ?_
  refine G.next_ hK7 ?_
  refine G.seq fun K42 hK43 => ?_
  refine G.region ?_
  refine G.p rfl (V.move rfl) ?_
  refine G.p rfl (V.bin (u := .int .i64 b40) (v := .int .i64 400) (r := .bool (decide (b40 ≤ 400))) rfl rfl b_leq) ?_
  refine G.p rfl (V.assign rfl) ?_
  refine G.nil ?_
  refine G.norm (L' := [(2, .val (.bool (decide (b40 ≤ 400))))]) (is := [2]) (R' := []) (js := []) rfl rfl ?_
  refine G.next_ hK43 ?_
  refine G.ret ?_
  refine G.fin_ fun hF44 => ?_
  obtain rfl := Option.some.inj hF44
  exact G.ret1 Try.results4 () (is := []) (.of rfl) rfl
/-! roadstead/scope.Twice -/
def scope_Twice.l1  : List (Str) → (List (Str × Bool)) → Option (Bool ⊕ (Unit))
  | [], x11 => some (.inr ())
  | y13 :: rest14, x11 => (if ((mget x11 y13).getD false) = true then some (.inl true) else scope_Twice.l1 rest14 (mput x11 y13 true))

theorem scope_Twice.l1_nil  {x11 : List (Str × Bool)} : scope_Twice.l1  [] x11 = some (.inr ()) := rfl
theorem scope_Twice.l1_cons  {y13 : Str} {rest14 : List (Str)} {x11 : List (Str × Bool)} : scope_Twice.l1  (y13 :: rest14) x11 = (if ((mget x11 y13).getD false) = true then some (.inl true) else scope_Twice.l1 rest14 (mput x11 y13 true)) := rfl
def scope_Twice.Spec (F : (List Str) → Option (Bool)) : Prop := ∀ {b0 : List Str} {out : Bool}, F b0 = some out → Ct Gl Try.prog 16 [eL eS 1 b0] [] (fun x : Unit => .val (.bool out)) (fun x : Unit => [])
def scope_Twice (b0 : List Str) : Option (Bool) := (scope_Twice.l1 b0 ([] : List (Str × Bool))).bind (retOr fun b43 => some false)
set_option maxRecDepth 100000 in
theorem scope_Twice_ok : scope_Twice.Spec (scope_Twice) := by
 intro b0 out hp
 refine ct_of_G (nt := 19) Try.func16 rfl Try.ntmps16 rfl (fun B => ?_) hp
 unfold scope_Twice
 refine G.seq fun K1 hK2 => ?_
 refine G.region ?_
 refine G.p rfl (V.assign rfl) ?_
 refine G.nil ?_
 refine G.norm (L' := [(0, eL eS 1 b0)]) (is := [0]) (R' := []) (js := []) rfl rfl ?_
 refine G.next_ hK2 ?_
 refine G.seq fun K3 hK4 => ?_
 refine G.region ?_
 refine G.op rfl (O.makeMap (κ := Str) (ν := Bool) (kv := bs) (enc := eB)) fun g5 => ?_
 refine G.p rfl (V.assign rfl) ?_
 refine G.nil ?_
 refine G.norm (L' := [(0, eL eS 1 b0), (3, .val (.map (some g5)))]) (is := [0, 3]) (R' := [.map g5 (encM bs eB ([] : List (Str × Bool)))]) (js := [0]) rfl rfl ?_
 refine G.next_ hK4 ?_
 refine G.seq fun K6 hK7 => ?_
 refine G.seq fun K8 hK9 => ?_
 refine G.region ?_
 refine G.p rfl (V.move rfl) ?_
 refine G.lenb (enc := eS) (xs := b0) (sz := 1) (x := .tmp 7) (.of rfl) fun hN10 => ?_
 refine G.p rfl (V.len_sl (enc := eS) (xs := b0) (sz := 1) (.of rfl) Try.runUnderlying30) ?_
 refine G.p rfl (V.move rfl) ?_
 refine G.nil ?_
 refine G.norm (L' := [(3, .val (.map (some g5))), (7, eL eS 1 b0), (8, .val (.int .i64 (b0.length : Int))), (9, .val (.int .i64 0))]) (is := [3, 7, 8, 9]) (R' := [.map g5 (encM bs eB ([] : List (Str × Bool)))]) (js := [0]) rfl rfl ?_
 refine G.next_ hK9 ?_
 refine G.join (E := fun o a w => ∃ b, o = .inr b ∧ Ass Gl B 19 [] [] a w) ?_ ?_
 ·intro b hF17
  refine G.block ?_
  refine G.norm (L' := [(3, .val (.map (some g5))), (7, eL eS 1 b0), (8, .val (.int .i64 (b0.length : Int))), (9, .val (.int .i64 ((0 : Nat) : Int)))]) (is := [3, 7, 8, 9]) (R' := [.map g5 (encM bs eB ([] : List (Str × Bool)))]) (js := [0]) rfl rfl ?_
  refine G.loop (fun kq a w => ∃ (rest14 : List (Str)) (i12 : Nat) (x11 : List (Str × Bool)), kq = rest14.length ∧ scope_Twice.l1 rest14 x11 = some b ∧ b0.drop i12 = rest14 ∧ Ass Gl B 19 [(3, .val (.map (some g5))), (7, eL eS 1 b0), (8, .val (.int .i64 (b0.length : Int))), (9, .val (.int .i64 (i12 : Int)))] [.map g5 (encM bs eB x11)] a w) (b0.length) ?_ ?_
  ·intro hl42 a w hA
   exact ⟨b0, 0, ([] : List (Str × Bool)), rfl, hl42, rfl, hA⟩
  ·rintro _ a w ⟨rest14, i12, x11, rfl, hl18, hd15, hA⟩
   rcases rest14 with _ | ⟨y13, rest14⟩
   ·rw [scope_Twice.l1_nil] at hl18
    refine G.use hl18 hA ?_
    refine G.seq fun K19 hK20 => ?_
    refine G.region ?_
    refine G.p rfl (V.bin (u := .int .i64 (i12 : Int)) (v := .int .i64 (b0.length : Int)) (r := .bool (decide ((i12 : Int) < (b0.length : Int)))) rfl rfl b_lss) ?_
    refine G.nil ?_
    refine G.norm (L' := [(3, .val (.map (some g5))), (7, eL eS 1 b0), (8, .val (.int .i64 (b0.length : Int))), (9, .val (.int .i64 (i12 : Int))), (10, .val (.bool (decide ((i12 : Int) < (b0.length : Int)))))]) (is := [3, 7, 8, 9, 10]) (R' := [.map g5 (encM bs eB x11)]) (js := [0]) rfl rfl ?_
    refine G.next_ hK20 ?_
    refine G.seq fun K21 hK22 => ?_
    refine G.no rfl (rng_end hd15) ?_
    refine G.exit ?_
    refine G.thn_exit ?_
    refine G.thn_exit ?_
    refine G.inB_eq ?_
    refine G.norm (L' := []) (is := []) (R' := []) (js := []) rfl rfl ?_
    exact G.finE fun hb a w hA => by subst hb; exact ⟨_, rfl, hA⟩
   ·rw [scope_Twice.l1_cons] at hl18
    refine G.use hl18 hA ?_
    refine G.seq fun K23 hK24 => ?_
    refine G.region ?_
    refine G.p rfl (V.bin (u := .int .i64 (i12 : Int)) (v := .int .i64 (b0.length : Int)) (r := .bool (decide ((i12 : Int) < (b0.length : Int)))) rfl rfl b_lss) ?_
    refine G.nil ?_
    refine G.norm (L' := [(3, .val (.map (some g5))), (7, eL eS 1 b0), (8, .val (.int .i64 (b0.length : Int))), (9, .val (.int .i64 (i12 : Int))), (10, .val (.bool (decide ((i12 : Int) < (b0.length : Int)))))]) (is := [3, 7, 8, 9, 10]) (R' := [.map g5 (encM bs eB x11)]) (js := [0]) rfl rfl ?_
    refine G.next_ hK24 ?_
    refine G.seq fun K25 hK26 => ?_
    refine G.yes rfl (rng_more hd15) ?_
    refine G.skip ?_
    refine G.next_ hK26 ?_
    refine G.seq fun K27 hK28 => ?_
    refine G.block ?_
    refine G.seq fun K29 hK30 => ?_
    refine G.region ?_
    refine G.p rfl (V.at_sl (k := i12) rfl rfl Try.runUnderlying30 Try.sizeOf9 (map_at (rng_at hd15))) ?_
    refine G.q rfl (V.load_ptr (d := .val (bs y13)) rfl Try.isAgg9 rfl) ?_
    refine G.p rfl (V.assign rfl) ?_
    refine G.nil ?_
    refine G.norm (L' := [(3, .val (.map (some g5))), (5, .val (bs y13)), (7, eL eS 1 b0), (8, .val (.int .i64 (b0.length : Int))), (9, .val (.int .i64 (i12 : Int)))]) (is := [3, 5, 7, 8, 9]) (R' := [.map g5 (encM bs eB x11)]) (js := [0]) rfl rfl ?_
    refine G.next_ hK30 ?_
    refine G.seq fun K31 hK32 => ?_
    refine G.seq fun K33 hK34 => ?_
    refine G.region ?_
    refine G.p rfl (V.move rfl) ?_
    refine G.p rfl (V.move rfl) ?_
    refine G.q rfl (V.lookup (enc := eB) (k := y13) (Keys.str Try.underlying9) Try.runUnderlying79 Try.zeroValue4 false (fun _ _ => RdV.val.2 rfl) rfl rfl (i := 0) rfl) ?_
    refine G.nil ?_
    refine G.norm (L' := [(3, .val (.map (some g5))), (5, .val (bs y13)), (7, eL eS 1 b0), (8, .val (.int .i64 (b0.length : Int))), (9, .val (.int .i64 (i12 : Int))), (15, .val (.bool ((mget x11 y13).getD false)))]) (is := [3, 5, 7, 8, 9, 15]) (R' := [.map g5 (encM bs eB x11)]) (js := [0]) rfl rfl ?_
    refine G.next_ hK34 ?_
    refine G.cond (b := ((mget x11 y13).getD false)) rfl (fun hc35 => ?_) (fun hc35 => ?_)
    ·refine G.norm (L' := []) (is := []) (R' := []) (js := []) rfl rfl ?_
     refine G.seq fun K36 hK37 => ?_
     refine G.region ?_
     refine G.p rfl (V.assign rfl) ?_
     refine G.nil ?_
     refine G.norm (L' := [(2, .val (.bool true))]) (is := [2]) (R' := []) (js := []) rfl rfl ?_
     refine G.next_ hK37 ?_
     refine G.ret ?_
     refine G.thn_ret ?_
     refine G.inB_ret ?_
     refine G.thn_ret ?_
     refine G.thn_ret ?_
     refine G.inB_ret ?_
     refine G.thn_ret ?_
     refine G.thn_ret ?_
     refine G.fin_ fun hF38 => ?_
     have hb39 := Option.some.inj hF38
     subst hb39
     have hF40 : (some true : Option (Bool)) = some _ := hF17
     obtain rfl := Option.some.inj hF40
     exact G.ret1 Try.results16 () (is := []) (.of rfl) rfl
    ·refine G.norm (L' := [(3, .val (.map (some g5))), (5, .val (bs y13)), (7, eL eS 1 b0), (8, .val (.int .i64 (b0.length : Int))), (9, .val (.int .i64 (i12 : Int)))]) (is := [3, 5, 7, 8, 9]) (R' := [.map g5 (encM bs eB x11)]) (js := [0]) rfl rfl ?_
     refine G.skip ?_
     refine G.next_ hK32 ?_
     refine G.region ?_
     refine G.p rfl (V.move rfl) ?_
     refine G.p rfl (V.move rfl) ?_
     refine G.opn (O.mapUpdate (k := y13) (u := true) (Keys.str Try.underlying9) Try.runUnderlying79 rfl rfl (.of rfl) (i := 0) rfl) fun _ => ?_
     refine G.nil ?_
     refine G.norm (L' := [(3, .val (.map (some g5))), (7, eL eS 1 b0), (8, .val (.int .i64 (b0.length : Int))), (9, .val (.int .i64 (i12 : Int)))]) (is := [3, 7, 8, 9]) (R' := [.map g5 (encM bs eB (mput x11 y13 true))]) (js := [0]) rfl rfl ?_
     refine G.inB ?_
     refine G.next_ hK28 ?_
     refine G.region ?_
     refine G.p rfl (V.incr (i := i12) (N := b0.length) rfl rfl (rng_lt hd15) (hN10)) ?_
     refine G.p rfl (V.move rfl) ?_
     refine G.nil ?_
     refine G.norm (L' := [(3, .val (.map (some g5))), (7, eL eS 1 b0), (8, .val (.int .i64 (b0.length : Int))), (9, .val (.int .i64 ((i12 + 1 : Nat) : Int)))]) (is := [3, 7, 8, 9]) (R' := [.map g5 (encM bs eB (mput x11 y13 true))]) (js := [0]) rfl rfl ?_
     refine G.again ?_
     intro hl41 a w hA
     exact ⟨_, Nat.lt_succ_self _, rest14, i12 + 1, (mput x11 y13 true), rfl, hl41, rng_next hd15, hA⟩
 ·rintro _ hb a w ⟨b43, rfl, hA⟩ hF44
  refine G.use hF44 hA ?_
  refine G.inr ?_
  refine G.next_ hK7 ?_
  refine G.seq fun K45 hK46 => ?_
  refine G.region ?_
  refine G.p rfl (V.assign rfl) ?_
  refine G.nil ?_
  refine G.norm (L' := [(2, .val (.bool false))]) (is := [2]) (R' := []) (js := []) rfl rfl ?_
  refine G.next_ hK46 ?_
  refine G.ret ?_
  refine G.fin_ fun hF47 => ?_
  obtain rfl := Option.some.inj hF47
  exact G.ret1 Try.results16 () (is := []) (.of rfl) rfl
/-! roadstead/scope.Makers -/
def scope_Makers.l2  : List (T_Make) → (List Str) → Option (List Str)
  | [], x36 => some x36
  | y39 :: rest40, x36 => (app 8796093022208 x36 ([y39.fName] : List Str)).bind fun l59 => scope_Makers.l2 rest40 l59

theorem scope_Makers.l2_nil  {x36 : List Str} : scope_Makers.l2  [] x36 = some x36 := rfl
theorem scope_Makers.l2_cons  {y39 : T_Make} {rest40 : List (T_Make)} {x36 : List Str} : scope_Makers.l2  (y39 :: rest40) x36 = (app 8796093022208 x36 ([y39.fName] : List Str)).bind fun l59 => scope_Makers.l2 rest40 l59 := rfl
def scope_Makers.l1  : List (T_Data) → (List Str) → Option (List Str)
  | [], x11 => some x11
  | y14 :: rest15, x11 => (scope_Makers.l2 y14.fMakes x11).bind fun b64 => scope_Makers.l1 rest15 b64

theorem scope_Makers.l1_nil  {x11 : List Str} : scope_Makers.l1  [] x11 = some x11 := rfl
theorem scope_Makers.l1_cons  {y14 : T_Data} {rest15 : List (T_Data)} {x11 : List Str} : scope_Makers.l1  (y14 :: rest15) x11 = (scope_Makers.l2 y14.fMakes x11).bind fun b64 => scope_Makers.l1 rest15 b64 := rfl
def scope_Makers.Spec (F : T_Program → Option (List Str)) : Prop := ∀ {b0 : T_Program} {out : List Str}, F b0 = some out → Ct Gl Try.prog 9 [.agg (lf_T_Program b0)] [] (fun x : Value => .val x) (fun x : Value => [.row x 9 1 (out.map eS)])
def scope_Makers (b0 : T_Program) : Option (List Str) := (scope_Makers.l1 b0.fDatas ([] : List Str)).bind fun b69 => some b69
set_option maxRecDepth 100000 in
theorem scope_Makers_ok : scope_Makers.Spec (scope_Makers) := by
 intro b0 out hp
 refine ct_of_G (nt := 30) Try.func9 rfl Try.ntmps9 rfl (fun B => ?_) hp
 unfold scope_Makers
 refine G.seq fun K1 hK2 => ?_
 refine G.region ?_
 refine G.op rfl (O.box (.of rfl) (OneC.agg (List.forall_mem_cons.2 ⟨(.val rfl), (List.forall_mem_cons.2 ⟨(.val rfl), (List.forall_mem_cons.2 ⟨.sl, (List.forall_mem_cons.2 ⟨.sl, (List.forall_mem_cons.2 ⟨.sl, (List.forall_mem_cons.2 ⟨.sl, (List.forall_mem_cons.2 ⟨.sl, (List.forall_mem_cons.2 ⟨.sl, (List.forall_mem_nil _)⟩)⟩)⟩)⟩)⟩)⟩)⟩)⟩))) fun g3 => ?_
 refine G.p rfl (V.assign rfl) ?_
 refine G.nil ?_
 refine G.norm (L' := [(1, .val (.pointer (some ⟨g3, 0, none⟩)))]) (is := [1]) (R' := [.cells g3 29 (lf_T_Program b0)]) (js := [0]) rfl rfl ?_
 refine G.next_ hK2 ?_
 refine G.seq fun K4 hK5 => ?_
 refine G.region ?_
 refine G.p rfl (V.assign rfl) ?_
 refine G.nil ?_
 refine G.norm (L' := [(1, .val (.pointer (some ⟨g3, 0, none⟩))), (3, .val (.slice none 0 0))]) (is := [1, 3]) (R' := [.cells g3 29 (lf_T_Program b0)]) (js := [0]) rfl rfl ?_
 refine G.next_ hK5 ?_
 refine G.seq fun K6 hK7 => ?_
 refine G.seq fun K8 hK9 => ?_
 refine G.region ?_
 refine G.p rfl (V.fieldAddr (o' := 3) rfl Try.runUnderlying29 rfl Try.sizeOf23 rfl) ?_
 refine G.q rfl (V.load_cell (i := 0) (ds := (lf_T_Program b0)) (d := eL e_T_Data 3 b0.fDatas) rfl rfl Try.isAgg23 rfl rfl) ?_
 refine G.lenb (enc := e_T_Data) (xs := b0.fDatas) (sz := 3) (x := .tmp 9) (.of rfl) fun hN10 => ?_
 refine G.p rfl (V.len_sl (enc := e_T_Data) (xs := b0.fDatas) (sz := 3) (.of rfl) Try.runUnderlying23) ?_
 refine G.p rfl (V.move rfl) ?_
 refine G.nil ?_
 refine G.norm (L' := [(3, .val (.slice none 0 0)), (9, eL e_T_Data 3 b0.fDatas), (10, .val (.int .i64 (b0.fDatas.length : Int))), (11, .val (.int .i64 0))]) (is := [3, 9, 10, 11]) (R' := []) (js := []) rfl rfl ?_
 refine G.next_ hK9 ?_
 refine G.join (E := fun b a w => ∃ (g_0 : Value), Ass Gl B 30 [(3, .val g_0)] [.row g_0 9 1 (b.map eS)] a w) ?_ ?_
 ·intro b hF18
  refine G.block ?_
  refine G.nilrow 9 1 none ?_
  refine G.norm (L' := [(3, .val (.slice none 0 0)), (9, eL e_T_Data 3 b0.fDatas), (10, .val (.int .i64 (b0.fDatas.length : Int))), (11, .val (.int .i64 ((0 : Nat) : Int)))]) (is := [3, 9, 10, 11]) (R' := [.row (.slice none 0 0) 9 1 (([] : List Str).map eS)]) (js := [0]) rfl rfl ?_
  refine G.loop (fun kq a w => ∃ (rest15 : List (T_Data)) (i13 : Nat) (x11 : List Str), kq = rest15.length ∧ scope_Makers.l1 rest15 x11 = some b ∧ b0.fDatas.drop i13 = rest15 ∧ ∃ (g_0 : Value), Ass Gl B 30 [(3, .val g_0), (9, eL e_T_Data 3 b0.fDatas), (10, .val (.int .i64 (b0.fDatas.length : Int))), (11, .val (.int .i64 (i13 : Int)))] [.row g_0 9 1 (x11.map eS)] a w) (b0.fDatas.length) ?_ ?_
  ·intro hl68 a w hA
   exact ⟨b0.fDatas, 0, ([] : List Str), rfl, hl68, rfl, ⟨_, hA⟩⟩
  ·rintro _ a w ⟨rest15, i13, x11, rfl, hl19, hd16, ⟨g12, hA⟩⟩
   rcases rest15 with _ | ⟨y14, rest15⟩
   ·rw [scope_Makers.l1_nil] at hl19
    refine G.use hl19 hA ?_
    refine G.seq fun K20 hK21 => ?_
    refine G.region ?_
    refine G.p rfl (V.bin (u := .int .i64 (i13 : Int)) (v := .int .i64 (b0.fDatas.length : Int)) (r := .bool (decide ((i13 : Int) < (b0.fDatas.length : Int)))) rfl rfl b_lss) ?_
    refine G.nil ?_
    refine G.norm (L' := [(3, .val g12), (9, eL e_T_Data 3 b0.fDatas), (10, .val (.int .i64 (b0.fDatas.length : Int))), (11, .val (.int .i64 (i13 : Int))), (12, .val (.bool (decide ((i13 : Int) < (b0.fDatas.length : Int)))))]) (is := [3, 9, 10, 11, 12]) (R' := [.row g12 9 1 (x11.map eS)]) (js := [0]) rfl rfl ?_
    refine G.next_ hK21 ?_
    refine G.seq fun K22 hK23 => ?_
    refine G.no rfl (rng_end hd16) ?_
    refine G.exit ?_
    refine G.thn_exit ?_
    refine G.thn_exit ?_
    refine G.inB_eq ?_
    refine G.norm (L' := [(3, .val g12)]) (is := [3]) (R' := [.row g12 9 1 (x11.map eS)]) (js := [0]) rfl rfl ?_
    exact G.finE fun hb a w hA => by subst hb; exact ⟨_, hA⟩
   ·rw [scope_Makers.l1_cons] at hl19
    refine G.use hl19 hA ?_
    refine G.seq fun K24 hK25 => ?_
    refine G.region ?_
    refine G.p rfl (V.bin (u := .int .i64 (i13 : Int)) (v := .int .i64 (b0.fDatas.length : Int)) (r := .bool (decide ((i13 : Int) < (b0.fDatas.length : Int)))) rfl rfl b_lss) ?_
    refine G.nil ?_
    refine G.norm (L' := [(3, .val g12), (9, eL e_T_Data 3 b0.fDatas), (10, .val (.int .i64 (b0.fDatas.length : Int))), (11, .val (.int .i64 (i13 : Int))), (12, .val (.bool (decide ((i13 : Int) < (b0.fDatas.length : Int)))))]) (is := [3, 9, 10, 11, 12]) (R' := [.row g12 9 1 (x11.map eS)]) (js := [0]) rfl rfl ?_
    refine G.next_ hK25 ?_
    refine G.seq fun K26 hK27 => ?_
    refine G.yes rfl (rng_more hd16) ?_
    refine G.skip ?_
    refine G.next_ hK27 ?_
    refine G.seq fun K28 hK29 => ?_
    refine G.block ?_
    refine G.seq fun K30 hK31 => ?_
    refine G.region ?_
    refine G.p rfl (V.at_sl (k := i13) rfl rfl Try.runUnderlying23 Try.sizeOf73 (map_at (rng_at hd16))) ?_
    refine G.q rfl (V.load_ptrN (ds := (lf_T_Data y14)) rfl (e_T_Data_eq y14) Try.isAgg73 Try.sizeOf73 rfl) ?_
    refine G.op rfl (O.alloc (ds := [.val (bs ([] : Str)), .val (.slice none 0 0), .val (.slice none 0 0)]) Try.zeroValue73 rfl) fun g32 => ?_
    refine G.opn (O.store (i := 0) (o := 0) (ds := [.val (bs ([] : Str)), .val (.slice none 0 0), .val (.slice none 0 0)]) rfl (.of rfl) rfl (OneC.agg (List.forall_mem_cons.2 ⟨(.val rfl), (List.forall_mem_cons.2 ⟨.sl, (List.forall_mem_cons.2 ⟨.sl, (List.forall_mem_nil _)⟩)⟩)⟩)) Try.sizeOf73 rfl rfl) fun _ => ?_
    refine G.nil ?_
    refine G.norm (L' := [(3, .val g12), (5, .val (.pointer (some ⟨g32, 0, none⟩))), (9, eL e_T_Data 3 b0.fDatas), (10, .val (.int .i64 (b0.fDatas.length : Int))), (11, .val (.int .i64 (i13 : Int)))]) (is := [3, 5, 9, 10, 11]) (R' := [.cells g32 73 (lf_T_Data y14), .row g12 9 1 (x11.map eS)]) (js := [0, 0]) rfl rfl ?_
    refine G.next_ hK31 ?_
    refine G.seq fun K33 hK34 => ?_
    refine G.region ?_
    refine G.p rfl (V.fieldAddr (o' := 2) rfl Try.runUnderlying73 rfl Try.sizeOf71 rfl) ?_
    refine G.q rfl (V.load_cell (i := 0) (ds := (lf_T_Data y14)) (d := eL e_T_Make 2 y14.fMakes) rfl rfl Try.isAgg71 rfl rfl) ?_
    refine G.lenb (enc := e_T_Make) (xs := y14.fMakes) (sz := 2) (x := .tmp 16) (.of rfl) fun hN35 => ?_
    refine G.p rfl (V.len_sl (enc := e_T_Make) (xs := y14.fMakes) (sz := 2) (.of rfl) Try.runUnderlying71) ?_
    refine G.p rfl (V.move rfl) ?_
    refine G.nil ?_
    refine G.norm (L' := [(3, .val g12), (9, eL e_T_Data 3 b0.fDatas), (10, .val (.int .i64 (b0.fDatas.length : Int))), (11, .val (.int .i64 (i13 : Int))), (16, eL e_T_Make 2 y14.fMakes), (17, .val (.int .i64 (y14.fMakes.length : Int))), (18, .val (.int .i64 0))]) (is := [3, 9, 10, 11, 16, 17, 18]) (R' := [.row g12 9 1 (x11.map eS)]) (js := [1]) rfl rfl ?_
    refine G.next_ hK34 ?_
    refine G.join (E := fun b a w => ∃ (g_0 : Value), Ass Gl B 30 [(3, .val g_0), (9, eL e_T_Data 3 b0.fDatas), (10, .val (.int .i64 (b0.fDatas.length : Int))), (11, .val (.int .i64 (i13 : Int)))] [.row g_0 9 1 (b.map eS)] a w) ?_ ?_
    ·intro b hF43
     refine G.block ?_
     refine G.norm (L' := [(3, .val g12), (9, eL e_T_Data 3 b0.fDatas), (10, .val (.int .i64 (b0.fDatas.length : Int))), (11, .val (.int .i64 (i13 : Int))), (16, eL e_T_Make 2 y14.fMakes), (17, .val (.int .i64 (y14.fMakes.length : Int))), (18, .val (.int .i64 ((0 : Nat) : Int)))]) (is := [3, 9, 10, 11, 16, 17, 18]) (R' := [.row g12 9 1 (x11.map eS)]) (js := [0]) rfl rfl ?_
     refine G.loop (fun kq a w => ∃ (rest40 : List (T_Make)) (i38 : Nat) (x36 : List Str), kq = rest40.length ∧ scope_Makers.l2 rest40 x36 = some b ∧ y14.fMakes.drop i38 = rest40 ∧ ∃ (g_0 : Value), Ass Gl B 30 [(3, .val g_0), (9, eL e_T_Data 3 b0.fDatas), (10, .val (.int .i64 (b0.fDatas.length : Int))), (11, .val (.int .i64 (i13 : Int))), (16, eL e_T_Make 2 y14.fMakes), (17, .val (.int .i64 (y14.fMakes.length : Int))), (18, .val (.int .i64 (i38 : Int)))] [.row g_0 9 1 (x36.map eS)] a w) (y14.fMakes.length) ?_ ?_
     ·intro hl63 a w hA
      exact ⟨y14.fMakes, 0, x11, rfl, hl63, rfl, ⟨_, hA⟩⟩
     ·rintro _ a w ⟨rest40, i38, x36, rfl, hl44, hd41, ⟨g37, hA⟩⟩
      rcases rest40 with _ | ⟨y39, rest40⟩
      ·rw [scope_Makers.l2_nil] at hl44
       refine G.use hl44 hA ?_
       refine G.seq fun K45 hK46 => ?_
       refine G.region ?_
       refine G.p rfl (V.bin (u := .int .i64 (i38 : Int)) (v := .int .i64 (y14.fMakes.length : Int)) (r := .bool (decide ((i38 : Int) < (y14.fMakes.length : Int)))) rfl rfl b_lss) ?_
       refine G.nil ?_
       refine G.norm (L' := [(3, .val g37), (9, eL e_T_Data 3 b0.fDatas), (10, .val (.int .i64 (b0.fDatas.length : Int))), (11, .val (.int .i64 (i13 : Int))), (16, eL e_T_Make 2 y14.fMakes), (17, .val (.int .i64 (y14.fMakes.length : Int))), (18, .val (.int .i64 (i38 : Int))), (19, .val (.bool (decide ((i38 : Int) < (y14.fMakes.length : Int)))))]) (is := [3, 9, 10, 11, 16, 17, 18, 19]) (R' := [.row g37 9 1 (x36.map eS)]) (js := [0]) rfl rfl ?_
       refine G.next_ hK46 ?_
       refine G.seq fun K47 hK48 => ?_
       refine G.no rfl (rng_end hd41) ?_
       refine G.exit ?_
       refine G.thn_exit ?_
       refine G.thn_exit ?_
       refine G.inB_eq ?_
       refine G.norm (L' := [(3, .val g37), (9, eL e_T_Data 3 b0.fDatas), (10, .val (.int .i64 (b0.fDatas.length : Int))), (11, .val (.int .i64 (i13 : Int)))]) (is := [3, 9, 10, 11]) (R' := [.row g37 9 1 (x36.map eS)]) (js := [0]) rfl rfl ?_
       exact G.finE fun hb a w hA => by subst hb; exact ⟨_, hA⟩
      ·rw [scope_Makers.l2_cons] at hl44
       refine G.use hl44 hA ?_
       refine G.seq fun K49 hK50 => ?_
       refine G.region ?_
       refine G.p rfl (V.bin (u := .int .i64 (i38 : Int)) (v := .int .i64 (y14.fMakes.length : Int)) (r := .bool (decide ((i38 : Int) < (y14.fMakes.length : Int)))) rfl rfl b_lss) ?_
       refine G.nil ?_
       refine G.norm (L' := [(3, .val g37), (9, eL e_T_Data 3 b0.fDatas), (10, .val (.int .i64 (b0.fDatas.length : Int))), (11, .val (.int .i64 (i13 : Int))), (16, eL e_T_Make 2 y14.fMakes), (17, .val (.int .i64 (y14.fMakes.length : Int))), (18, .val (.int .i64 (i38 : Int))), (19, .val (.bool (decide ((i38 : Int) < (y14.fMakes.length : Int)))))]) (is := [3, 9, 10, 11, 16, 17, 18, 19]) (R' := [.row g37 9 1 (x36.map eS)]) (js := [0]) rfl rfl ?_
       refine G.next_ hK50 ?_
       refine G.seq fun K51 hK52 => ?_
       refine G.yes rfl (rng_more hd41) ?_
       refine G.skip ?_
       refine G.next_ hK52 ?_
       refine G.seq fun K53 hK54 => ?_
       refine G.block ?_
       refine G.seq fun K55 hK56 => ?_
       refine G.region ?_
       refine G.p rfl (V.at_sl (k := i38) rfl rfl Try.runUnderlying71 Try.sizeOf77 (map_at (rng_at hd41))) ?_
       refine G.q rfl (V.load_ptrN (ds := [.val (bs y39.fName), eL e_T_Type 3 y39.fArgs]) rfl (e_T_Make_eq y39) Try.isAgg77 Try.sizeOf77 rfl) ?_
       refine G.op rfl (O.alloc (ds := [.val (bs ([] : Str)), .val (.slice none 0 0)]) Try.zeroValue77 rfl) fun g57 => ?_
       refine G.opn (O.store (i := 0) (o := 0) (ds := [.val (bs ([] : Str)), .val (.slice none 0 0)]) rfl (.of rfl) rfl (OneC.agg (List.forall_mem_cons.2 ⟨(.val rfl), (List.forall_mem_cons.2 ⟨.sl, (List.forall_mem_nil _)⟩)⟩)) Try.sizeOf77 rfl rfl) fun _ => ?_
       refine G.nil ?_
       refine G.norm (L' := [(3, .val g37), (7, .val (.pointer (some ⟨g57, 0, none⟩))), (9, eL e_T_Data 3 b0.fDatas), (10, .val (.int .i64 (b0.fDatas.length : Int))), (11, .val (.int .i64 (i13 : Int))), (16, eL e_T_Make 2 y14.fMakes), (17, .val (.int .i64 (y14.fMakes.length : Int))), (18, .val (.int .i64 (i38 : Int)))]) (is := [3, 7, 9, 10, 11, 16, 17, 18]) (R' := [.cells g57 77 [.val (bs y39.fName), eL e_T_Type 3 y39.fArgs], .row g37 9 1 (x36.map eS)]) (js := [0, 0]) rfl rfl ?_
       refine G.next_ hK56 ?_
       refine G.region ?_
       refine G.p rfl (V.move rfl) ?_
       refine G.p rfl (V.fieldAddr (o' := 0) rfl Try.runUnderlying77 rfl Try.sizeOf9 rfl) ?_
       refine G.q rfl (V.load_cell (i := 0) (ds := [.val (bs y39.fName), eL e_T_Type 3 y39.fArgs]) (d := .val (bs y39.fName)) rfl rfl Try.isAgg9 rfl rfl) ?_
       refine G.op rfl (O.buildSlice (xs := [.tmp 24]) (ds := ([y39.fName] : List Str).map eS) elt30 rfl (.cons (.of rfl) .nil) rfl (by decide) (List.forall_mem_cons.2 ⟨(fun c hc => ((fun _ => one_S) _ c hc).mono), (List.forall_mem_nil _)⟩) (List.forall_mem_cons.2 ⟨rfl, (List.forall_mem_nil _)⟩)) fun v58 => ?_
       refine G.bind fun l59 hl60 => ?_
       refine G.op rfl (O.append_row (i := 2) (j := 0) (enc := eS) (xs := x36) (ys := ([y39.fName] : List Str)) (lim := 8796093022208) elt30 rfl rfl rfl rfl (by decide) (by decide) (fun _ => one_S) hl60) fun v61 => ?_
       refine G.p rfl (V.assign rfl) ?_
       refine G.nil ?_
       refine G.norm (L' := [(3, .val v61), (9, eL e_T_Data 3 b0.fDatas), (10, .val (.int .i64 (b0.fDatas.length : Int))), (11, .val (.int .i64 (i13 : Int))), (16, eL e_T_Make 2 y14.fMakes), (17, .val (.int .i64 (y14.fMakes.length : Int))), (18, .val (.int .i64 (i38 : Int)))]) (is := [3, 9, 10, 11, 16, 17, 18]) (R' := [.row v61 9 1 (l59.map eS)]) (js := [2]) rfl rfl ?_
       refine G.inB ?_
       refine G.next_ hK54 ?_
       refine G.region ?_
       refine G.p rfl (V.incr (i := i38) (N := y14.fMakes.length) rfl rfl (rng_lt hd41) (hN35)) ?_
       refine G.p rfl (V.move rfl) ?_
       refine G.nil ?_
       refine G.norm (L' := [(3, .val v61), (9, eL e_T_Data 3 b0.fDatas), (10, .val (.int .i64 (b0.fDatas.length : Int))), (11, .val (.int .i64 (i13 : Int))), (16, eL e_T_Make 2 y14.fMakes), (17, .val (.int .i64 (y14.fMakes.length : Int))), (18, .val (.int .i64 ((i38 + 1 : Nat) : Int)))]) (is := [3, 9, 10, 11, 16, 17, 18]) (R' := [.row v61 9 1 (l59.map eS)]) (js := [0]) rfl rfl ?_
       refine G.again ?_
       intro hl62 a w hA
       exact ⟨_, Nat.lt_succ_self _, rest40, i38 + 1, l59, rfl, hl62, rng_next hd41, ⟨_, hA⟩⟩
    ·rintro b64 hb a w ⟨g65, hA⟩ hF66
     refine G.use hF66 hA ?_
     refine G.inB ?_
     refine G.next_ hK29 ?_
     refine G.region ?_
     refine G.p rfl (V.incr (i := i13) (N := b0.fDatas.length) rfl rfl (rng_lt hd16) (hN10)) ?_
     refine G.p rfl (V.move rfl) ?_
     refine G.nil ?_
     refine G.norm (L' := [(3, .val g65), (9, eL e_T_Data 3 b0.fDatas), (10, .val (.int .i64 (b0.fDatas.length : Int))), (11, .val (.int .i64 ((i13 + 1 : Nat) : Int)))]) (is := [3, 9, 10, 11]) (R' := [.row g65 9 1 (b64.map eS)]) (js := [0]) rfl rfl ?_
     refine G.again ?_
     intro hl67 a w hA
     exact ⟨_, Nat.lt_succ_self _, rest15, i13 + 1, b64, rfl, hl67, rng_next hd16, ⟨_, hA⟩⟩
 ·rintro b69 hb a w ⟨g70, hA⟩ hF71
  refine G.use hF71 hA ?_
  refine G.next_ hK7 ?_
  refine G.seq fun K72 hK73 => ?_
  refine G.region ?_
  refine G.p rfl (V.move rfl) ?_
  refine G.p rfl (V.assign rfl) ?_
  refine G.nil ?_
  refine G.norm (L' := [(2, .val g70)]) (is := [2]) (R' := [.row g70 9 1 (b69.map eS)]) (js := [0]) rfl rfl ?_
  refine G.next_ hK73 ?_
  refine G.ret ?_
  refine G.fin_ fun hF74 => ?_
  obtain rfl := Option.some.inj hF74
  exact G.ret1 Try.results9 g70 (is := [0]) (.of rfl) rfl
/-! roadstead/scope.Callable -/
def scope_Callable.l2  : List (T_Func) → (List Str) → Option (List Str)
  | [], x36 => some x36
  | y39 :: rest40, x36 => (app 8796093022208 x36 ([y39.fName] : List Str)).bind fun l59 => scope_Callable.l2 rest40 l59

theorem scope_Callable.l2_nil  {x36 : List Str} : scope_Callable.l2  [] x36 = some x36 := rfl
theorem scope_Callable.l2_cons  {y39 : T_Func} {rest40 : List (T_Func)} {x36 : List Str} : scope_Callable.l2  (y39 :: rest40) x36 = (app 8796093022208 x36 ([y39.fName] : List Str)).bind fun l59 => scope_Callable.l2 rest40 l59 := rfl
def scope_Callable.l1  : List (T_Trait) → (List Str) → Option (List Str)
  | [], x11 => some x11
  | y14 :: rest15, x11 => (scope_Callable.l2 y14.fFuncs x11).bind fun b64 => scope_Callable.l1 rest15 b64

theorem scope_Callable.l1_nil  {x11 : List Str} : scope_Callable.l1  [] x11 = some x11 := rfl
theorem scope_Callable.l1_cons  {y14 : T_Trait} {rest15 : List (T_Trait)} {x11 : List Str} : scope_Callable.l1  (y14 :: rest15) x11 = (scope_Callable.l2 y14.fFuncs x11).bind fun b64 => scope_Callable.l1 rest15 b64 := rfl
def scope_Callable.l3  : List (T_Func) → (List Str) → Option (List Str)
  | [], x77 => some x77
  | y80 :: rest81, x77 => (app 8796093022208 x77 ([y80.fName] : List Str)).bind fun l100 => scope_Callable.l3 rest81 l100

theorem scope_Callable.l3_nil  {x77 : List Str} : scope_Callable.l3  [] x77 = some x77 := rfl
theorem scope_Callable.l3_cons  {y80 : T_Func} {rest81 : List (T_Func)} {x77 : List Str} : scope_Callable.l3  (y80 :: rest81) x77 = (app 8796093022208 x77 ([y80.fName] : List Str)).bind fun l100 => scope_Callable.l3 rest81 l100 := rfl
def scope_Callable.Spec (F : T_Program → Option (List Str)) : Prop := ∀ {b0 : T_Program} {out : List Str}, F b0 = some out → Ct Gl Try.prog 10 [.agg (lf_T_Program b0)] [] (fun x : Value => .val x) (fun x : Value => [.row x 9 1 (out.map eS)])
def scope_Callable (b0 : T_Program) : Option (List Str) := (scope_Callable.l1 b0.fTraits ([] : List Str)).bind fun b69 => (scope_Callable.l3 b0.fFuncs b69).bind fun b105 => some b105
set_option maxRecDepth 100000 in
theorem scope_Callable_ok : scope_Callable.Spec (scope_Callable) := by
 intro b0 out hp
 refine ct_of_G (nt := 45) Try.func10 rfl Try.ntmps10 rfl (fun B => ?_) hp
 unfold scope_Callable
 refine G.seq fun K1 hK2 => ?_
 refine G.region ?_
 refine G.op rfl (O.box (.of rfl) (OneC.agg (List.forall_mem_cons.2 ⟨(.val rfl), (List.forall_mem_cons.2 ⟨(.val rfl), (List.forall_mem_cons.2 ⟨.sl, (List.forall_mem_cons.2 ⟨.sl, (List.forall_mem_cons.2 ⟨.sl, (List.forall_mem_cons.2 ⟨.sl, (List.forall_mem_cons.2 ⟨.sl, (List.forall_mem_cons.2 ⟨.sl, (List.forall_mem_nil _)⟩)⟩)⟩)⟩)⟩)⟩)⟩)⟩))) fun g3 => ?_
 refine G.p rfl (V.assign rfl) ?_
 refine G.nil ?_
 refine G.norm (L' := [(1, .val (.pointer (some ⟨g3, 0, none⟩)))]) (is := [1]) (R' := [.cells g3 29 (lf_T_Program b0)]) (js := [0]) rfl rfl ?_
 refine G.next_ hK2 ?_
 refine G.seq fun K4 hK5 => ?_
 refine G.region ?_
 refine G.p rfl (V.assign rfl) ?_
 refine G.nil ?_
 refine G.norm (L' := [(1, .val (.pointer (some ⟨g3, 0, none⟩))), (3, .val (.slice none 0 0))]) (is := [1, 3]) (R' := [.cells g3 29 (lf_T_Program b0)]) (js := [0]) rfl rfl ?_
 refine G.next_ hK5 ?_
 refine G.seq fun K6 hK7 => ?_
 refine G.seq fun K8 hK9 => ?_
 refine G.region ?_
 refine G.p rfl (V.fieldAddr (o' := 4) rfl Try.runUnderlying29 rfl Try.sizeOf24 rfl) ?_
 refine G.q rfl (V.load_cell (i := 0) (ds := (lf_T_Program b0)) (d := eL e_T_Trait 2 b0.fTraits) rfl rfl Try.isAgg24 rfl rfl) ?_
 refine G.lenb (enc := e_T_Trait) (xs := b0.fTraits) (sz := 2) (x := .tmp 11) (.of rfl) fun hN10 => ?_
 refine G.p rfl (V.len_sl (enc := e_T_Trait) (xs := b0.fTraits) (sz := 2) (.of rfl) Try.runUnderlying24) ?_
 refine G.p rfl (V.move rfl) ?_
 refine G.nil ?_
 refine G.norm (L' := [(1, .val (.pointer (some ⟨g3, 0, none⟩))), (3, .val (.slice none 0 0)), (11, eL e_T_Trait 2 b0.fTraits), (12, .val (.int .i64 (b0.fTraits.length : Int))), (13, .val (.int .i64 0))]) (is := [1, 3, 11, 12, 13]) (R' := [.cells g3 29 (lf_T_Program b0)]) (js := [0]) rfl rfl ?_
 refine G.next_ hK9 ?_
 refine G.join (E := fun b a w => ∃ (g_0 : Value), Ass Gl B 45 [(1, .val (.pointer (some ⟨g3, 0, none⟩))), (3, .val g_0)] [.cells g3 29 (lf_T_Program b0), .row g_0 9 1 (b.map eS)] a w) ?_ ?_
 ·intro b hF18
  refine G.block ?_
  refine G.nilrow 9 1 none ?_
  refine G.norm (L' := [(1, .val (.pointer (some ⟨g3, 0, none⟩))), (3, .val (.slice none 0 0)), (11, eL e_T_Trait 2 b0.fTraits), (12, .val (.int .i64 (b0.fTraits.length : Int))), (13, .val (.int .i64 ((0 : Nat) : Int)))]) (is := [1, 3, 11, 12, 13]) (R' := [.cells g3 29 (lf_T_Program b0), .row (.slice none 0 0) 9 1 (([] : List Str).map eS)]) (js := [1, 0]) rfl rfl ?_
  refine G.loop (fun kq a w => ∃ (rest15 : List (T_Trait)) (i13 : Nat) (x11 : List Str), kq = rest15.length ∧ scope_Callable.l1 rest15 x11 = some b ∧ b0.fTraits.drop i13 = rest15 ∧ ∃ (g_0 : Value), Ass Gl B 45 [(1, .val (.pointer (some ⟨g3, 0, none⟩))), (3, .val g_0), (11, eL e_T_Trait 2 b0.fTraits), (12, .val (.int .i64 (b0.fTraits.length : Int))), (13, .val (.int .i64 (i13 : Int)))] [.cells g3 29 (lf_T_Program b0), .row g_0 9 1 (x11.map eS)] a w) (b0.fTraits.length) ?_ ?_
  ·intro hl68 a w hA
   exact ⟨b0.fTraits, 0, ([] : List Str), rfl, hl68, rfl, ⟨_, hA⟩⟩
  ·rintro _ a w ⟨rest15, i13, x11, rfl, hl19, hd16, ⟨g12, hA⟩⟩
   rcases rest15 with _ | ⟨y14, rest15⟩
   ·rw [scope_Callable.l1_nil] at hl19
    refine G.use hl19 hA ?_
    refine G.seq fun K20 hK21 => ?_
    refine G.region ?_
    refine G.p rfl (V.bin (u := .int .i64 (i13 : Int)) (v := .int .i64 (b0.fTraits.length : Int)) (r := .bool (decide ((i13 : Int) < (b0.fTraits.length : Int)))) rfl rfl b_lss) ?_
    refine G.nil ?_
    refine G.norm (L' := [(1, .val (.pointer (some ⟨g3, 0, none⟩))), (3, .val g12), (11, eL e_T_Trait 2 b0.fTraits), (12, .val (.int .i64 (b0.fTraits.length : Int))), (13, .val (.int .i64 (i13 : Int))), (14, .val (.bool (decide ((i13 : Int) < (b0.fTraits.length : Int)))))]) (is := [1, 3, 11, 12, 13, 14]) (R' := [.cells g3 29 (lf_T_Program b0), .row g12 9 1 (x11.map eS)]) (js := [0, 0]) rfl rfl ?_
    refine G.next_ hK21 ?_
    refine G.seq fun K22 hK23 => ?_
    refine G.no rfl (rng_end hd16) ?_
    refine G.exit ?_
    refine G.thn_exit ?_
    refine G.thn_exit ?_
    refine G.inB_eq ?_
    refine G.norm (L' := [(1, .val (.pointer (some ⟨g3, 0, none⟩))), (3, .val g12)]) (is := [1, 3]) (R' := [.cells g3 29 (lf_T_Program b0), .row g12 9 1 (x11.map eS)]) (js := [0, 0]) rfl rfl ?_
    exact G.finE fun hb a w hA => by subst hb; exact ⟨_, hA⟩
   ·rw [scope_Callable.l1_cons] at hl19
    refine G.use hl19 hA ?_
    refine G.seq fun K24 hK25 => ?_
    refine G.region ?_
    refine G.p rfl (V.bin (u := .int .i64 (i13 : Int)) (v := .int .i64 (b0.fTraits.length : Int)) (r := .bool (decide ((i13 : Int) < (b0.fTraits.length : Int)))) rfl rfl b_lss) ?_
    refine G.nil ?_
    refine G.norm (L' := [(1, .val (.pointer (some ⟨g3, 0, none⟩))), (3, .val g12), (11, eL e_T_Trait 2 b0.fTraits), (12, .val (.int .i64 (b0.fTraits.length : Int))), (13, .val (.int .i64 (i13 : Int))), (14, .val (.bool (decide ((i13 : Int) < (b0.fTraits.length : Int)))))]) (is := [1, 3, 11, 12, 13, 14]) (R' := [.cells g3 29 (lf_T_Program b0), .row g12 9 1 (x11.map eS)]) (js := [0, 0]) rfl rfl ?_
    refine G.next_ hK25 ?_
    refine G.seq fun K26 hK27 => ?_
    refine G.yes rfl (rng_more hd16) ?_
    refine G.skip ?_
    refine G.next_ hK27 ?_
    refine G.seq fun K28 hK29 => ?_
    refine G.block ?_
    refine G.seq fun K30 hK31 => ?_
    refine G.region ?_
    refine G.p rfl (V.at_sl (k := i13) rfl rfl Try.runUnderlying24 Try.sizeOf55 (map_at (rng_at hd16))) ?_
    refine G.q rfl (V.load_ptrN (ds := [.val (bs y14.fName), eL e_T_Func 15 y14.fFuncs]) rfl (e_T_Trait_eq y14) Try.isAgg55 Try.sizeOf55 rfl) ?_
    refine G.op rfl (O.alloc (ds := [.val (bs ([] : Str)), .val (.slice none 0 0)]) Try.zeroValue55 rfl) fun g32 => ?_
    refine G.opn (O.store (i := 0) (o := 0) (ds := [.val (bs ([] : Str)), .val (.slice none 0 0)]) rfl (.of rfl) rfl (OneC.agg (List.forall_mem_cons.2 ⟨(.val rfl), (List.forall_mem_cons.2 ⟨.sl, (List.forall_mem_nil _)⟩)⟩)) Try.sizeOf55 rfl rfl) fun _ => ?_
    refine G.nil ?_
    refine G.norm (L' := [(1, .val (.pointer (some ⟨g3, 0, none⟩))), (3, .val g12), (5, .val (.pointer (some ⟨g32, 0, none⟩))), (11, eL e_T_Trait 2 b0.fTraits), (12, .val (.int .i64 (b0.fTraits.length : Int))), (13, .val (.int .i64 (i13 : Int)))]) (is := [1, 3, 5, 11, 12, 13]) (R' := [.cells g32 55 [.val (bs y14.fName), eL e_T_Func 15 y14.fFuncs], .cells g3 29 (lf_T_Program b0), .row g12 9 1 (x11.map eS)]) (js := [0, 0, 0]) rfl rfl ?_
    refine G.next_ hK31 ?_
    refine G.seq fun K33 hK34 => ?_
    refine G.region ?_
    refine G.p rfl (V.fieldAddr (o' := 1) rfl Try.runUnderlying55 rfl Try.sizeOf26 rfl) ?_
    refine G.q rfl (V.load_cell (i := 0) (ds := [.val (bs y14.fName), eL e_T_Func 15 y14.fFuncs]) (d := eL e_T_Func 15 y14.fFuncs) rfl rfl Try.isAgg26 rfl rfl) ?_
    refine G.lenb (enc := e_T_Func) (xs := y14.fFuncs) (sz := 15) (x := .tmp 18) (.of rfl) fun hN35 => ?_
    refine G.p rfl (V.len_sl (enc := e_T_Func) (xs := y14.fFuncs) (sz := 15) (.of rfl) Try.runUnderlying26) ?_
    refine G.p rfl (V.move rfl) ?_
    refine G.nil ?_
    refine G.norm (L' := [(1, .val (.pointer (some ⟨g3, 0, none⟩))), (3, .val g12), (11, eL e_T_Trait 2 b0.fTraits), (12, .val (.int .i64 (b0.fTraits.length : Int))), (13, .val (.int .i64 (i13 : Int))), (18, eL e_T_Func 15 y14.fFuncs), (19, .val (.int .i64 (y14.fFuncs.length : Int))), (20, .val (.int .i64 0))]) (is := [1, 3, 11, 12, 13, 18, 19, 20]) (R' := [.cells g3 29 (lf_T_Program b0), .row g12 9 1 (x11.map eS)]) (js := [1, 1]) rfl rfl ?_
    refine G.next_ hK34 ?_
    refine G.join (E := fun b a w => ∃ (g_0 : Value), Ass Gl B 45 [(1, .val (.pointer (some ⟨g3, 0, none⟩))), (3, .val g_0), (11, eL e_T_Trait 2 b0.fTraits), (12, .val (.int .i64 (b0.fTraits.length : Int))), (13, .val (.int .i64 (i13 : Int)))] [.cells g3 29 (lf_T_Program b0), .row g_0 9 1 (b.map eS)] a w) ?_ ?_
    ·intro b hF43
     refine G.block ?_
     refine G.norm (L' := [(1, .val (.pointer (some ⟨g3, 0, none⟩))), (3, .val g12), (11, eL e_T_Trait 2 b0.fTraits), (12, .val (.int .i64 (b0.fTraits.length : Int))), (13, .val (.int .i64 (i13 : Int))), (18, eL e_T_Func 15 y14.fFuncs), (19, .val (.int .i64 (y14.fFuncs.length : Int))), (20, .val (.int .i64 ((0 : Nat) : Int)))]) (is := [1, 3, 11, 12, 13, 18, 19, 20]) (R' := [.cells g3 29 (lf_T_Program b0), .row g12 9 1 (x11.map eS)]) (js := [0, 0]) rfl rfl ?_
     refine G.loop (fun kq a w => ∃ (rest40 : List (T_Func)) (i38 : Nat) (x36 : List Str), kq = rest40.length ∧ scope_Callable.l2 rest40 x36 = some b ∧ y14.fFuncs.drop i38 = rest40 ∧ ∃ (g_0 : Value), Ass Gl B 45 [(1, .val (.pointer (some ⟨g3, 0, none⟩))), (3, .val g_0), (11, eL e_T_Trait 2 b0.fTraits), (12, .val (.int .i64 (b0.fTraits.length : Int))), (13, .val (.int .i64 (i13 : Int))), (18, eL e_T_Func 15 y14.fFuncs), (19, .val (.int .i64 (y14.fFuncs.length : Int))), (20, .val (.int .i64 (i38 : Int)))] [.cells g3 29 (lf_T_Program b0), .row g_0 9 1 (x36.map eS)] a w) (y14.fFuncs.length) ?_ ?_
     ·intro hl63 a w hA
      exact ⟨y14.fFuncs, 0, x11, rfl, hl63, rfl, ⟨_, hA⟩⟩
     ·rintro _ a w ⟨rest40, i38, x36, rfl, hl44, hd41, ⟨g37, hA⟩⟩
      rcases rest40 with _ | ⟨y39, rest40⟩
      ·rw [scope_Callable.l2_nil] at hl44
       refine G.use hl44 hA ?_
       refine G.seq fun K45 hK46 => ?_
       refine G.region ?_
       refine G.p rfl (V.bin (u := .int .i64 (i38 : Int)) (v := .int .i64 (y14.fFuncs.length : Int)) (r := .bool (decide ((i38 : Int) < (y14.fFuncs.length : Int)))) rfl rfl b_lss) ?_
       refine G.nil ?_
       refine G.norm (L' := [(1, .val (.pointer (some ⟨g3, 0, none⟩))), (3, .val g37), (11, eL e_T_Trait 2 b0.fTraits), (12, .val (.int .i64 (b0.fTraits.length : Int))), (13, .val (.int .i64 (i13 : Int))), (18, eL e_T_Func 15 y14.fFuncs), (19, .val (.int .i64 (y14.fFuncs.length : Int))), (20, .val (.int .i64 (i38 : Int))), (21, .val (.bool (decide ((i38 : Int) < (y14.fFuncs.length : Int)))))]) (is := [1, 3, 11, 12, 13, 18, 19, 20, 21]) (R' := [.cells g3 29 (lf_T_Program b0), .row g37 9 1 (x36.map eS)]) (js := [0, 0]) rfl rfl ?_
       refine G.next_ hK46 ?_
       refine G.seq fun K47 hK48 => ?_
       refine G.no rfl (rng_end hd41) ?_
       refine G.exit ?_
       refine G.thn_exit ?_
       refine G.thn_exit ?_
       refine G.inB_eq ?_
       refine G.norm (L' := [(1, .val (.pointer (some ⟨g3, 0, none⟩))), (3, .val g37), (11, eL e_T_Trait 2 b0.fTraits), (12, .val (.int .i64 (b0.fTraits.length : Int))), (13, .val (.int .i64 (i13 : Int)))]) (is := [1, 3, 11, 12, 13]) (R' := [.cells g3 29 (lf_T_Program b0), .row g37 9 1 (x36.map eS)]) (js := [0, 0]) rfl rfl ?_
       exact G.finE fun hb a w hA => by subst hb; exact ⟨_, hA⟩
      ·rw [scope_Callable.l2_cons] at hl44
       refine G.use hl44 hA ?_
       refine G.seq fun K49 hK50 => ?_
       refine G.region ?_
       refine G.p rfl (V.bin (u := .int .i64 (i38 : Int)) (v := .int .i64 (y14.fFuncs.length : Int)) (r := .bool (decide ((i38 : Int) < (y14.fFuncs.length : Int)))) rfl rfl b_lss) ?_
       refine G.nil ?_
       refine G.norm (L' := [(1, .val (.pointer (some ⟨g3, 0, none⟩))), (3, .val g37), (11, eL e_T_Trait 2 b0.fTraits), (12, .val (.int .i64 (b0.fTraits.length : Int))), (13, .val (.int .i64 (i13 : Int))), (18, eL e_T_Func 15 y14.fFuncs), (19, .val (.int .i64 (y14.fFuncs.length : Int))), (20, .val (.int .i64 (i38 : Int))), (21, .val (.bool (decide ((i38 : Int) < (y14.fFuncs.length : Int)))))]) (is := [1, 3, 11, 12, 13, 18, 19, 20, 21]) (R' := [.cells g3 29 (lf_T_Program b0), .row g37 9 1 (x36.map eS)]) (js := [0, 0]) rfl rfl ?_
       refine G.next_ hK50 ?_
       refine G.seq fun K51 hK52 => ?_
       refine G.yes rfl (rng_more hd41) ?_
       refine G.skip ?_
       refine G.next_ hK52 ?_
       refine G.seq fun K53 hK54 => ?_
       refine G.block ?_
       refine G.seq fun K55 hK56 => ?_
       refine G.region ?_
       refine G.p rfl (V.at_sl (k := i38) rfl rfl Try.runUnderlying26 Try.sizeOf59 (map_at (rng_at hd41))) ?_
       refine G.q rfl (V.load_ptrN (ds := (lf_T_Func y39)) rfl (e_T_Func_eq y39) Try.isAgg59 Try.sizeOf59 rfl) ?_
       refine G.op rfl (O.alloc (ds := [.val (bs ([] : Str)), .val (.slice none 0 0), .val (.slice none 0 0), .val (.slice none 0 0), .val (.int .i64 0), .val (bs ([] : Str)), .val (.slice none 0 0), .val (.int .i64 0), .val (.int .i64 0), .val (bs ([] : Str)), .val (.slice none 0 0), .val (.slice none 0 0), .val (.slice none 0 0), .val (.slice none 0 0), .val (.int .i64 0)]) Try.zeroValue59 rfl) fun g57 => ?_
       refine G.opn (O.store (i := 0) (o := 0) (ds := [.val (bs ([] : Str)), .val (.slice none 0 0), .val (.slice none 0 0), .val (.slice none 0 0), .val (.int .i64 0), .val (bs ([] : Str)), .val (.slice none 0 0), .val (.int .i64 0), .val (.int .i64 0), .val (bs ([] : Str)), .val (.slice none 0 0), .val (.slice none 0 0), .val (.slice none 0 0), .val (.slice none 0 0), .val (.int .i64 0)]) rfl (.of rfl) rfl (OneC.agg (List.forall_mem_cons.2 ⟨(.val rfl), (List.forall_mem_cons.2 ⟨.sl, (List.forall_mem_cons.2 ⟨.sl, (List.forall_mem_cons.2 ⟨.sl, (List.forall_mem_cons.2 ⟨(.val rfl), (List.forall_mem_cons.2 ⟨(.val rfl), (List.forall_mem_cons.2 ⟨.sl, (List.forall_mem_cons.2 ⟨(.val rfl), (List.forall_mem_cons.2 ⟨(.val rfl), (List.forall_mem_cons.2 ⟨(.val rfl), (List.forall_mem_cons.2 ⟨.sl, (List.forall_mem_cons.2 ⟨.sl, (List.forall_mem_cons.2 ⟨.sl, (List.forall_mem_cons.2 ⟨.sl, (List.forall_mem_cons.2 ⟨(.val rfl), (List.forall_mem_nil _)⟩)⟩)⟩)⟩)⟩)⟩)⟩)⟩)⟩)⟩)⟩)⟩)⟩)⟩)⟩)) Try.sizeOf59 rfl rfl) fun _ => ?_
       refine G.nil ?_
       refine G.norm (L' := [(1, .val (.pointer (some ⟨g3, 0, none⟩))), (3, .val g37), (7, .val (.pointer (some ⟨g57, 0, none⟩))), (11, eL e_T_Trait 2 b0.fTraits), (12, .val (.int .i64 (b0.fTraits.length : Int))), (13, .val (.int .i64 (i13 : Int))), (18, eL e_T_Func 15 y14.fFuncs), (19, .val (.int .i64 (y14.fFuncs.length : Int))), (20, .val (.int .i64 (i38 : Int)))]) (is := [1, 3, 7, 11, 12, 13, 18, 19, 20]) (R' := [.cells g57 59 (lf_T_Func y39), .cells g3 29 (lf_T_Program b0), .row g37 9 1 (x36.map eS)]) (js := [0, 0, 0]) rfl rfl ?_
       refine G.next_ hK56 ?_
       refine G.region ?_
       refine G.p rfl (V.move rfl) ?_
       refine G.p rfl (V.fieldAddr (o' := 0) rfl Try.runUnderlying59 rfl Try.sizeOf9 rfl) ?_
       refine G.q rfl (V.load_cell (i := 0) (ds := (lf_T_Func y39)) (d := .val (bs y39.fName)) rfl rfl Try.isAgg9 rfl rfl) ?_
       refine G.op rfl (O.buildSlice (xs := [.tmp 26]) (ds := ([y39.fName] : List Str).map eS) elt30 rfl (.cons (.of rfl) .nil) rfl (by decide) (List.forall_mem_cons.2 ⟨(fun c hc => ((fun _ => one_S) _ c hc).mono), (List.forall_mem_nil _)⟩) (List.forall_mem_cons.2 ⟨rfl, (List.forall_mem_nil _)⟩)) fun v58 => ?_
       refine G.bind fun l59 hl60 => ?_
       refine G.op rfl (O.append_row (i := 3) (j := 0) (enc := eS) (xs := x36) (ys := ([y39.fName] : List Str)) (lim := 8796093022208) elt30 rfl rfl rfl rfl (by decide) (by decide) (fun _ => one_S) hl60) fun v61 => ?_
       refine G.p rfl (V.assign rfl) ?_
       refine G.nil ?_
       refine G.norm (L' := [(1, .val (.pointer (some ⟨g3, 0, none⟩))), (3, .val v61), (11, eL e_T_Trait 2 b0.fTraits), (12, .val (.int .i64 (b0.fTraits.length : Int))), (13, .val (.int .i64 (i13 : Int))), (18, eL e_T_Func 15 y14.fFuncs), (19, .val (.int .i64 (y14.fFuncs.length : Int))), (20, .val (.int .i64 (i38 : Int)))]) (is := [1, 3, 11, 12, 13, 18, 19, 20]) (R' := [.cells g3 29 (lf_T_Program b0), .row v61 9 1 (l59.map eS)]) (js := [2, 2]) rfl rfl ?_
       refine G.inB ?_
       refine G.next_ hK54 ?_
       refine G.region ?_
       refine G.p rfl (V.incr (i := i38) (N := y14.fFuncs.length) rfl rfl (rng_lt hd41) (hN35)) ?_
       refine G.p rfl (V.move rfl) ?_
       refine G.nil ?_
       refine G.norm (L' := [(1, .val (.pointer (some ⟨g3, 0, none⟩))), (3, .val v61), (11, eL e_T_Trait 2 b0.fTraits), (12, .val (.int .i64 (b0.fTraits.length : Int))), (13, .val (.int .i64 (i13 : Int))), (18, eL e_T_Func 15 y14.fFuncs), (19, .val (.int .i64 (y14.fFuncs.length : Int))), (20, .val (.int .i64 ((i38 + 1 : Nat) : Int)))]) (is := [1, 3, 11, 12, 13, 18, 19, 20]) (R' := [.cells g3 29 (lf_T_Program b0), .row v61 9 1 (l59.map eS)]) (js := [0, 0]) rfl rfl ?_
       refine G.again ?_
       intro hl62 a w hA
       exact ⟨_, Nat.lt_succ_self _, rest40, i38 + 1, l59, rfl, hl62, rng_next hd41, ⟨_, hA⟩⟩
    ·rintro b64 hb a w ⟨g65, hA⟩ hF66
     refine G.use hF66 hA ?_
     refine G.inB ?_
     refine G.next_ hK29 ?_
     refine G.region ?_
     refine G.p rfl (V.incr (i := i13) (N := b0.fTraits.length) rfl rfl (rng_lt hd16) (hN10)) ?_
     refine G.p rfl (V.move rfl) ?_
     refine G.nil ?_
     refine G.norm (L' := [(1, .val (.pointer (some ⟨g3, 0, none⟩))), (3, .val g65), (11, eL e_T_Trait 2 b0.fTraits), (12, .val (.int .i64 (b0.fTraits.length : Int))), (13, .val (.int .i64 ((i13 + 1 : Nat) : Int)))]) (is := [1, 3, 11, 12, 13]) (R' := [.cells g3 29 (lf_T_Program b0), .row g65 9 1 (b64.map eS)]) (js := [0, 0]) rfl rfl ?_
     refine G.again ?_
     intro hl67 a w hA
     exact ⟨_, Nat.lt_succ_self _, rest15, i13 + 1, b64, rfl, hl67, rng_next hd16, ⟨_, hA⟩⟩
 ·rintro b69 hb a w ⟨g70, hA⟩ hF71
  refine G.use hF71 hA ?_
  refine G.next_ hK7 ?_
  refine G.seq fun K72 hK73 => ?_
  refine G.seq fun K74 hK75 => ?_
  refine G.region ?_
  refine G.p rfl (V.fieldAddr (o' := 6) rfl Try.runUnderlying29 rfl Try.sizeOf26 rfl) ?_
  refine G.q rfl (V.load_cell (i := 0) (ds := (lf_T_Program b0)) (d := eL e_T_Func 15 b0.fFuncs) rfl rfl Try.isAgg26 rfl rfl) ?_
  refine G.lenb (enc := e_T_Func) (xs := b0.fFuncs) (sz := 15) (x := .tmp 32) (.of rfl) fun hN76 => ?_
  refine G.p rfl (V.len_sl (enc := e_T_Func) (xs := b0.fFuncs) (sz := 15) (.of rfl) Try.runUnderlying26) ?_
  refine G.p rfl (V.move rfl) ?_
  refine G.nil ?_
  refine G.norm (L' := [(3, .val g70), (32, eL e_T_Func 15 b0.fFuncs), (33, .val (.int .i64 (b0.fFuncs.length : Int))), (34, .val (.int .i64 0))]) (is := [3, 32, 33, 34]) (R' := [.row g70 9 1 (b69.map eS)]) (js := [1]) rfl rfl ?_
  refine G.next_ hK75 ?_
  refine G.join (E := fun b a w => ∃ (g_0 : Value), Ass Gl B 45 [(3, .val g_0)] [.row g_0 9 1 (b.map eS)] a w) ?_ ?_
  ·intro b hF84
   refine G.block ?_
   refine G.norm (L' := [(3, .val g70), (32, eL e_T_Func 15 b0.fFuncs), (33, .val (.int .i64 (b0.fFuncs.length : Int))), (34, .val (.int .i64 ((0 : Nat) : Int)))]) (is := [3, 32, 33, 34]) (R' := [.row g70 9 1 (b69.map eS)]) (js := [0]) rfl rfl ?_
   refine G.loop (fun kq a w => ∃ (rest81 : List (T_Func)) (i79 : Nat) (x77 : List Str), kq = rest81.length ∧ scope_Callable.l3 rest81 x77 = some b ∧ b0.fFuncs.drop i79 = rest81 ∧ ∃ (g_0 : Value), Ass Gl B 45 [(3, .val g_0), (32, eL e_T_Func 15 b0.fFuncs), (33, .val (.int .i64 (b0.fFuncs.length : Int))), (34, .val (.int .i64 (i79 : Int)))] [.row g_0 9 1 (x77.map eS)] a w) (b0.fFuncs.length) ?_ ?_
   ·intro hl104 a w hA
    exact ⟨b0.fFuncs, 0, b69, rfl, hl104, rfl, ⟨_, hA⟩⟩
   ·rintro _ a w ⟨rest81, i79, x77, rfl, hl85, hd82, ⟨g78, hA⟩⟩
    rcases rest81 with _ | ⟨y80, rest81⟩
    ·rw [scope_Callable.l3_nil] at hl85
     refine G.use hl85 hA ?_
     refine G.seq fun K86 hK87 => ?_
     refine G.region ?_
     refine G.p rfl (V.bin (u := .int .i64 (i79 : Int)) (v := .int .i64 (b0.fFuncs.length : Int)) (r := .bool (decide ((i79 : Int) < (b0.fFuncs.length : Int)))) rfl rfl b_lss) ?_
     refine G.nil ?_
     refine G.norm (L' := [(3, .val g78), (32, eL e_T_Func 15 b0.fFuncs), (33, .val (.int .i64 (b0.fFuncs.length : Int))), (34, .val (.int .i64 (i79 : Int))), (35, .val (.bool (decide ((i79 : Int) < (b0.fFuncs.length : Int)))))]) (is := [3, 32, 33, 34, 35]) (R' := [.row g78 9 1 (x77.map eS)]) (js := [0]) rfl rfl ?_
     refine G.next_ hK87 ?_
     refine G.seq fun K88 hK89 => ?_
     refine G.no rfl (rng_end hd82) ?_
     refine G.exit ?_
     refine G.thn_exit ?_
     refine G.thn_exit ?_
     refine G.inB_eq ?_
     refine G.norm (L' := [(3, .val g78)]) (is := [3]) (R' := [.row g78 9 1 (x77.map eS)]) (js := [0]) rfl rfl ?_
     exact G.finE fun hb a w hA => by subst hb; exact ⟨_, hA⟩
    ·rw [scope_Callable.l3_cons] at hl85
     refine G.use hl85 hA ?_
     refine G.seq fun K90 hK91 => ?_
     refine G.region ?_
     refine G.p rfl (V.bin (u := .int .i64 (i79 : Int)) (v := .int .i64 (b0.fFuncs.length : Int)) (r := .bool (decide ((i79 : Int) < (b0.fFuncs.length : Int)))) rfl rfl b_lss) ?_
     refine G.nil ?_
     refine G.norm (L' := [(3, .val g78), (32, eL e_T_Func 15 b0.fFuncs), (33, .val (.int .i64 (b0.fFuncs.length : Int))), (34, .val (.int .i64 (i79 : Int))), (35, .val (.bool (decide ((i79 : Int) < (b0.fFuncs.length : Int)))))]) (is := [3, 32, 33, 34, 35]) (R' := [.row g78 9 1 (x77.map eS)]) (js := [0]) rfl rfl ?_
     refine G.next_ hK91 ?_
     refine G.seq fun K92 hK93 => ?_
     refine G.yes rfl (rng_more hd82) ?_
     refine G.skip ?_
     refine G.next_ hK93 ?_
     refine G.seq fun K94 hK95 => ?_
     refine G.block ?_
     refine G.seq fun K96 hK97 => ?_
     refine G.region ?_
     refine G.p rfl (V.at_sl (k := i79) rfl rfl Try.runUnderlying26 Try.sizeOf59 (map_at (rng_at hd82))) ?_
     refine G.q rfl (V.load_ptrN (ds := (lf_T_Func y80)) rfl (e_T_Func_eq y80) Try.isAgg59 Try.sizeOf59 rfl) ?_
     refine G.op rfl (O.alloc (ds := [.val (bs ([] : Str)), .val (.slice none 0 0), .val (.slice none 0 0), .val (.slice none 0 0), .val (.int .i64 0), .val (bs ([] : Str)), .val (.slice none 0 0), .val (.int .i64 0), .val (.int .i64 0), .val (bs ([] : Str)), .val (.slice none 0 0), .val (.slice none 0 0), .val (.slice none 0 0), .val (.slice none 0 0), .val (.int .i64 0)]) Try.zeroValue59 rfl) fun g98 => ?_
     refine G.opn (O.store (i := 0) (o := 0) (ds := [.val (bs ([] : Str)), .val (.slice none 0 0), .val (.slice none 0 0), .val (.slice none 0 0), .val (.int .i64 0), .val (bs ([] : Str)), .val (.slice none 0 0), .val (.int .i64 0), .val (.int .i64 0), .val (bs ([] : Str)), .val (.slice none 0 0), .val (.slice none 0 0), .val (.slice none 0 0), .val (.slice none 0 0), .val (.int .i64 0)]) rfl (.of rfl) rfl (OneC.agg (List.forall_mem_cons.2 ⟨(.val rfl), (List.forall_mem_cons.2 ⟨.sl, (List.forall_mem_cons.2 ⟨.sl, (List.forall_mem_cons.2 ⟨.sl, (List.forall_mem_cons.2 ⟨(.val rfl), (List.forall_mem_cons.2 ⟨(.val rfl), (List.forall_mem_cons.2 ⟨.sl, (List.forall_mem_cons.2 ⟨(.val rfl), (List.forall_mem_cons.2 ⟨(.val rfl), (List.forall_mem_cons.2 ⟨(.val rfl), (List.forall_mem_cons.2 ⟨.sl, (List.forall_mem_cons.2 ⟨.sl, (List.forall_mem_cons.2 ⟨.sl, (List.forall_mem_cons.2 ⟨.sl, (List.forall_mem_cons.2 ⟨(.val rfl), (List.forall_mem_nil _)⟩)⟩)⟩)⟩)⟩)⟩)⟩)⟩)⟩)⟩)⟩)⟩)⟩)⟩)⟩)) Try.sizeOf59 rfl rfl) fun _ => ?_
     refine G.nil ?_
     refine G.norm (L' := [(3, .val g78), (9, .val (.pointer (some ⟨g98, 0, none⟩))), (32, eL e_T_Func 15 b0.fFuncs), (33, .val (.int .i64 (b0.fFuncs.length : Int))), (34, .val (.int .i64 (i79 : Int)))]) (is := [3, 9, 32, 33, 34]) (R' := [.cells g98 59 (lf_T_Func y80), .row g78 9 1 (x77.map eS)]) (js := [0, 0]) rfl rfl ?_
     refine G.next_ hK97 ?_
     refine G.region ?_
     refine G.p rfl (V.move rfl) ?_
     refine G.p rfl (V.fieldAddr (o' := 0) rfl Try.runUnderlying59 rfl Try.sizeOf9 rfl) ?_
     refine G.q rfl (V.load_cell (i := 0) (ds := (lf_T_Func y80)) (d := .val (bs y80.fName)) rfl rfl Try.isAgg9 rfl rfl) ?_
     refine G.op rfl (O.buildSlice (xs := [.tmp 40]) (ds := ([y80.fName] : List Str).map eS) elt30 rfl (.cons (.of rfl) .nil) rfl (by decide) (List.forall_mem_cons.2 ⟨(fun c hc => ((fun _ => one_S) _ c hc).mono), (List.forall_mem_nil _)⟩) (List.forall_mem_cons.2 ⟨rfl, (List.forall_mem_nil _)⟩)) fun v99 => ?_
     refine G.bind fun l100 hl101 => ?_
     refine G.op rfl (O.append_row (i := 2) (j := 0) (enc := eS) (xs := x77) (ys := ([y80.fName] : List Str)) (lim := 8796093022208) elt30 rfl rfl rfl rfl (by decide) (by decide) (fun _ => one_S) hl101) fun v102 => ?_
     refine G.p rfl (V.assign rfl) ?_
     refine G.nil ?_
     refine G.norm (L' := [(3, .val v102), (32, eL e_T_Func 15 b0.fFuncs), (33, .val (.int .i64 (b0.fFuncs.length : Int))), (34, .val (.int .i64 (i79 : Int)))]) (is := [3, 32, 33, 34]) (R' := [.row v102 9 1 (l100.map eS)]) (js := [2]) rfl rfl ?_
     refine G.inB ?_
     refine G.next_ hK95 ?_
     refine G.region ?_
     refine G.p rfl (V.incr (i := i79) (N := b0.fFuncs.length) rfl rfl (rng_lt hd82) (hN76)) ?_
     refine G.p rfl (V.move rfl) ?_
     refine G.nil ?_
     refine G.norm (L' := [(3, .val v102), (32, eL e_T_Func 15 b0.fFuncs), (33, .val (.int .i64 (b0.fFuncs.length : Int))), (34, .val (.int .i64 ((i79 + 1 : Nat) : Int)))]) (is := [3, 32, 33, 34]) (R' := [.row v102 9 1 (l100.map eS)]) (js := [0]) rfl rfl ?_
     refine G.again ?_
     intro hl103 a w hA
     exact ⟨_, Nat.lt_succ_self _, rest81, i79 + 1, l100, rfl, hl103, rng_next hd82, ⟨_, hA⟩⟩
  ·rintro b105 hb a w ⟨g106, hA⟩ hF107
   refine G.use hF107 hA ?_
   refine G.next_ hK73 ?_
   refine G.seq fun K108 hK109 => ?_
   refine G.region ?_
   refine G.p rfl (V.move rfl) ?_
   refine G.p rfl (V.assign rfl) ?_
   refine G.nil ?_
   refine G.norm (L' := [(2, .val g106)]) (is := [2]) (R' := [.row g106 9 1 (b105.map eS)]) (js := [0]) rfl rfl ?_
   refine G.next_ hK109 ?_
   refine G.ret ?_
   refine G.fin_ fun hF110 => ?_
   obtain rfl := Option.some.inj hF110
   exact G.ret1 Try.results10 g106 (is := [0]) (.of rfl) rfl
/-! roadstead/scope.Actors -/
def scope_Actors.l1  : List (T_Actor) → (List Str) → Option (List Str)
  | [], x11 => some x11
  | y14 :: rest15, x11 => (app 8796093022208 x11 ([y14.fName] : List Str)).bind fun l34 => scope_Actors.l1 rest15 l34

theorem scope_Actors.l1_nil  {x11 : List Str} : scope_Actors.l1  [] x11 = some x11 := rfl
theorem scope_Actors.l1_cons  {y14 : T_Actor} {rest15 : List (T_Actor)} {x11 : List Str} : scope_Actors.l1  (y14 :: rest15) x11 = (app 8796093022208 x11 ([y14.fName] : List Str)).bind fun l34 => scope_Actors.l1 rest15 l34 := rfl
def scope_Actors.Spec (F : T_Program → Option (List Str)) : Prop := ∀ {b0 : T_Program} {out : List Str}, F b0 = some out → Ct Gl Try.prog 11 [.agg (lf_T_Program b0)] [] (fun x : Value => .val x) (fun x : Value => [.row x 9 1 (out.map eS)])
def scope_Actors (b0 : T_Program) : Option (List Str) := (scope_Actors.l1 b0.fActors ([] : List Str)).bind fun b39 => some b39
set_option maxRecDepth 100000 in
theorem scope_Actors_ok : scope_Actors.Spec (scope_Actors) := by
 intro b0 out hp
 refine ct_of_G (nt := 20) Try.func11 rfl Try.ntmps11 rfl (fun B => ?_) hp
 unfold scope_Actors
 refine G.seq fun K1 hK2 => ?_
 refine G.region ?_
 refine G.op rfl (O.box (.of rfl) (OneC.agg (List.forall_mem_cons.2 ⟨(.val rfl), (List.forall_mem_cons.2 ⟨(.val rfl), (List.forall_mem_cons.2 ⟨.sl, (List.forall_mem_cons.2 ⟨.sl, (List.forall_mem_cons.2 ⟨.sl, (List.forall_mem_cons.2 ⟨.sl, (List.forall_mem_cons.2 ⟨.sl, (List.forall_mem_cons.2 ⟨.sl, (List.forall_mem_nil _)⟩)⟩)⟩)⟩)⟩)⟩)⟩)⟩))) fun g3 => ?_
 refine G.p rfl (V.assign rfl) ?_
 refine G.nil ?_
 refine G.norm (L' := [(1, .val (.pointer (some ⟨g3, 0, none⟩)))]) (is := [1]) (R' := [.cells g3 29 (lf_T_Program b0)]) (js := [0]) rfl rfl ?_
 refine G.next_ hK2 ?_
 refine G.seq fun K4 hK5 => ?_
 refine G.region ?_
 refine G.p rfl (V.assign rfl) ?_
 refine G.nil ?_
 refine G.norm (L' := [(1, .val (.pointer (some ⟨g3, 0, none⟩))), (3, .val (.slice none 0 0))]) (is := [1, 3]) (R' := [.cells g3 29 (lf_T_Program b0)]) (js := [0]) rfl rfl ?_
 refine G.next_ hK5 ?_
 refine G.seq fun K6 hK7 => ?_
 refine G.seq fun K8 hK9 => ?_
 refine G.region ?_
 refine G.p rfl (V.fieldAddr (o' := 7) rfl Try.runUnderlying29 rfl Try.sizeOf27 rfl) ?_
 refine G.q rfl (V.load_cell (i := 0) (ds := (lf_T_Program b0)) (d := eL e_T_Actor 14 b0.fActors) rfl rfl Try.isAgg27 rfl rfl) ?_
 refine G.lenb (enc := e_T_Actor) (xs := b0.fActors) (sz := 14) (x := .tmp 7) (.of rfl) fun hN10 => ?_
 refine G.p rfl (V.len_sl (enc := e_T_Actor) (xs := b0.fActors) (sz := 14) (.of rfl) Try.runUnderlying27) ?_
 refine G.p rfl (V.move rfl) ?_
 refine G.nil ?_
 refine G.norm (L' := [(3, .val (.slice none 0 0)), (7, eL e_T_Actor 14 b0.fActors), (8, .val (.int .i64 (b0.fActors.length : Int))), (9, .val (.int .i64 0))]) (is := [3, 7, 8, 9]) (R' := []) (js := []) rfl rfl ?_
 refine G.next_ hK9 ?_
 refine G.join (E := fun b a w => ∃ (g_0 : Value), Ass Gl B 20 [(3, .val g_0)] [.row g_0 9 1 (b.map eS)] a w) ?_ ?_
 ·intro b hF18
  refine G.block ?_
  refine G.nilrow 9 1 none ?_
  refine G.norm (L' := [(3, .val (.slice none 0 0)), (7, eL e_T_Actor 14 b0.fActors), (8, .val (.int .i64 (b0.fActors.length : Int))), (9, .val (.int .i64 ((0 : Nat) : Int)))]) (is := [3, 7, 8, 9]) (R' := [.row (.slice none 0 0) 9 1 (([] : List Str).map eS)]) (js := [0]) rfl rfl ?_
  refine G.loop (fun kq a w => ∃ (rest15 : List (T_Actor)) (i13 : Nat) (x11 : List Str), kq = rest15.length ∧ scope_Actors.l1 rest15 x11 = some b ∧ b0.fActors.drop i13 = rest15 ∧ ∃ (g_0 : Value), Ass Gl B 20 [(3, .val g_0), (7, eL e_T_Actor 14 b0.fActors), (8, .val (.int .i64 (b0.fActors.length : Int))), (9, .val (.int .i64 (i13 : Int)))] [.row g_0 9 1 (x11.map eS)] a w) (b0.fActors.length) ?_ ?_
  ·intro hl38 a w hA
   exact ⟨b0.fActors, 0, ([] : List Str), rfl, hl38, rfl, ⟨_, hA⟩⟩
  ·rintro _ a w ⟨rest15, i13, x11, rfl, hl19, hd16, ⟨g12, hA⟩⟩
   rcases rest15 with _ | ⟨y14, rest15⟩
   ·rw [scope_Actors.l1_nil] at hl19
    refine G.use hl19 hA ?_
    refine G.seq fun K20 hK21 => ?_
    refine G.region ?_
    refine G.p rfl (V.bin (u := .int .i64 (i13 : Int)) (v := .int .i64 (b0.fActors.length : Int)) (r := .bool (decide ((i13 : Int) < (b0.fActors.length : Int)))) rfl rfl b_lss) ?_
    refine G.nil ?_
    refine G.norm (L' := [(3, .val g12), (7, eL e_T_Actor 14 b0.fActors), (8, .val (.int .i64 (b0.fActors.length : Int))), (9, .val (.int .i64 (i13 : Int))), (10, .val (.bool (decide ((i13 : Int) < (b0.fActors.length : Int)))))]) (is := [3, 7, 8, 9, 10]) (R' := [.row g12 9 1 (x11.map eS)]) (js := [0]) rfl rfl ?_
    refine G.next_ hK21 ?_
    refine G.seq fun K22 hK23 => ?_
    refine G.no rfl (rng_end hd16) ?_
    refine G.exit ?_
    refine G.thn_exit ?_
    refine G.thn_exit ?_
    refine G.inB_eq ?_
    refine G.norm (L' := [(3, .val g12)]) (is := [3]) (R' := [.row g12 9 1 (x11.map eS)]) (js := [0]) rfl rfl ?_
    exact G.finE fun hb a w hA => by subst hb; exact ⟨_, hA⟩
   ·rw [scope_Actors.l1_cons] at hl19
    refine G.use hl19 hA ?_
    refine G.seq fun K24 hK25 => ?_
    refine G.region ?_
    refine G.p rfl (V.bin (u := .int .i64 (i13 : Int)) (v := .int .i64 (b0.fActors.length : Int)) (r := .bool (decide ((i13 : Int) < (b0.fActors.length : Int)))) rfl rfl b_lss) ?_
    refine G.nil ?_
    refine G.norm (L' := [(3, .val g12), (7, eL e_T_Actor 14 b0.fActors), (8, .val (.int .i64 (b0.fActors.length : Int))), (9, .val (.int .i64 (i13 : Int))), (10, .val (.bool (decide ((i13 : Int) < (b0.fActors.length : Int)))))]) (is := [3, 7, 8, 9, 10]) (R' := [.row g12 9 1 (x11.map eS)]) (js := [0]) rfl rfl ?_
    refine G.next_ hK25 ?_
    refine G.seq fun K26 hK27 => ?_
    refine G.yes rfl (rng_more hd16) ?_
    refine G.skip ?_
    refine G.next_ hK27 ?_
    refine G.seq fun K28 hK29 => ?_
    refine G.block ?_
    refine G.seq fun K30 hK31 => ?_
    refine G.region ?_
    refine G.p rfl (V.at_sl (k := i13) rfl rfl Try.runUnderlying27 Try.sizeOf68 (map_at (rng_at hd16))) ?_
    refine G.q rfl (V.load_ptrN (ds := (lf_T_Actor y14)) rfl (e_T_Actor_eq y14) Try.isAgg68 Try.sizeOf68 rfl) ?_
    refine G.op rfl (O.alloc (ds := [.val (bs ([] : Str)), .val (.slice none 0 0), .val (.slice none 0 0), .val (.int .i64 0), .val (bs ([] : Str)), .val (.slice none 0 0), .val (.int .i64 0), .val (.int .i64 0), .val (bs ([] : Str)), .val (.slice none 0 0), .val (.slice none 0 0), .val (.slice none 0 0), .val (.slice none 0 0), .val (.int .i64 0)]) Try.zeroValue68 rfl) fun g32 => ?_
    refine G.opn (O.store (i := 0) (o := 0) (ds := [.val (bs ([] : Str)), .val (.slice none 0 0), .val (.slice none 0 0), .val (.int .i64 0), .val (bs ([] : Str)), .val (.slice none 0 0), .val (.int .i64 0), .val (.int .i64 0), .val (bs ([] : Str)), .val (.slice none 0 0), .val (.slice none 0 0), .val (.slice none 0 0), .val (.slice none 0 0), .val (.int .i64 0)]) rfl (.of rfl) rfl (OneC.agg (List.forall_mem_cons.2 ⟨(.val rfl), (List.forall_mem_cons.2 ⟨.sl, (List.forall_mem_cons.2 ⟨.sl, (List.forall_mem_cons.2 ⟨(.val rfl), (List.forall_mem_cons.2 ⟨(.val rfl), (List.forall_mem_cons.2 ⟨.sl, (List.forall_mem_cons.2 ⟨(.val rfl), (List.forall_mem_cons.2 ⟨(.val rfl), (List.forall_mem_cons.2 ⟨(.val rfl), (List.forall_mem_cons.2 ⟨.sl, (List.forall_mem_cons.2 ⟨.sl, (List.forall_mem_cons.2 ⟨.sl, (List.forall_mem_cons.2 ⟨.sl, (List.forall_mem_cons.2 ⟨(.val rfl), (List.forall_mem_nil _)⟩)⟩)⟩)⟩)⟩)⟩)⟩)⟩)⟩)⟩)⟩)⟩)⟩)⟩)) Try.sizeOf68 rfl rfl) fun _ => ?_
    refine G.nil ?_
    refine G.norm (L' := [(3, .val g12), (5, .val (.pointer (some ⟨g32, 0, none⟩))), (7, eL e_T_Actor 14 b0.fActors), (8, .val (.int .i64 (b0.fActors.length : Int))), (9, .val (.int .i64 (i13 : Int)))]) (is := [3, 5, 7, 8, 9]) (R' := [.cells g32 68 (lf_T_Actor y14), .row g12 9 1 (x11.map eS)]) (js := [0, 0]) rfl rfl ?_
    refine G.next_ hK31 ?_
    refine G.region ?_
    refine G.p rfl (V.move rfl) ?_
    refine G.p rfl (V.fieldAddr (o' := 0) rfl Try.runUnderlying68 rfl Try.sizeOf9 rfl) ?_
    refine G.q rfl (V.load_cell (i := 0) (ds := (lf_T_Actor y14)) (d := .val (bs y14.fName)) rfl rfl Try.isAgg9 rfl rfl) ?_
    refine G.op rfl (O.buildSlice (xs := [.tmp 15]) (ds := ([y14.fName] : List Str).map eS) elt30 rfl (.cons (.of rfl) .nil) rfl (by decide) (List.forall_mem_cons.2 ⟨(fun c hc => ((fun _ => one_S) _ c hc).mono), (List.forall_mem_nil _)⟩) (List.forall_mem_cons.2 ⟨rfl, (List.forall_mem_nil _)⟩)) fun v33 => ?_
    refine G.bind fun l34 hl35 => ?_
    refine G.op rfl (O.append_row (i := 2) (j := 0) (enc := eS) (xs := x11) (ys := ([y14.fName] : List Str)) (lim := 8796093022208) elt30 rfl rfl rfl rfl (by decide) (by decide) (fun _ => one_S) hl35) fun v36 => ?_
    refine G.p rfl (V.assign rfl) ?_
    refine G.nil ?_
    refine G.norm (L' := [(3, .val v36), (7, eL e_T_Actor 14 b0.fActors), (8, .val (.int .i64 (b0.fActors.length : Int))), (9, .val (.int .i64 (i13 : Int)))]) (is := [3, 7, 8, 9]) (R' := [.row v36 9 1 (l34.map eS)]) (js := [2]) rfl rfl ?_
    refine G.inB ?_
    refine G.next_ hK29 ?_
    refine G.region ?_
    refine G.p rfl (V.incr (i := i13) (N := b0.fActors.length) rfl rfl (rng_lt hd16) (hN10)) ?_
    refine G.p rfl (V.move rfl) ?_
    refine G.nil ?_
    refine G.norm (L' := [(3, .val v36), (7, eL e_T_Actor 14 b0.fActors), (8, .val (.int .i64 (b0.fActors.length : Int))), (9, .val (.int .i64 ((i13 + 1 : Nat) : Int)))]) (is := [3, 7, 8, 9]) (R' := [.row v36 9 1 (l34.map eS)]) (js := [0]) rfl rfl ?_
    refine G.again ?_
    intro hl37 a w hA
    exact ⟨_, Nat.lt_succ_self _, rest15, i13 + 1, l34, rfl, hl37, rng_next hd16, ⟨_, hA⟩⟩
 ·rintro b39 hb a w ⟨g40, hA⟩ hF41
  refine G.use hF41 hA ?_
  refine G.next_ hK7 ?_
  refine G.seq fun K42 hK43 => ?_
  refine G.region ?_
  refine G.p rfl (V.move rfl) ?_
  refine G.p rfl (V.assign rfl) ?_
  refine G.nil ?_
  refine G.norm (L' := [(2, .val g40)]) (is := [2]) (R' := [.row g40 9 1 (b39.map eS)]) (js := [0]) rfl rfl ?_
  refine G.next_ hK43 ?_
  refine G.ret ?_
  refine G.fin_ fun hF44 => ?_
  obtain rfl := Option.some.inj hF44
  exact G.ret1 Try.results11 g40 (is := [0]) (.of rfl) rfl
/-! roadstead/scope.doubled -/
def scope_doubled.l1  : List (T_Use) → (List Str) → Option (List Str)
  | [], x14 => some x14
  | y17 :: rest18, x14 => (app 8796093022208 x14 ([y17.fName] : List Str)).bind fun l37 => scope_doubled.l1 rest18 l37

theorem scope_doubled.l1_nil  {x14 : List Str} : scope_doubled.l1  [] x14 = some x14 := rfl
theorem scope_doubled.l1_cons  {y17 : T_Use} {rest18 : List (T_Use)} {x14 : List Str} : scope_doubled.l1  (y17 :: rest18) x14 = (app 8796093022208 x14 ([y17.fName] : List Str)).bind fun l37 => scope_doubled.l1 rest18 l37 := rfl
def scope_doubled.l2  : List (T_Data) → (List Str) → Option (Bool ⊕ (List Str))
  | [], x50 => some (.inr x50)
  | y53 :: rest54, x50 => (app 8796093022208 x50 ([y53.fName] : List Str)).bind fun l75 => (scope_Twice y53.fParams).bind fun r80 => (if r80 = true then some (.inl true) else scope_doubled.l2 rest54 l75)

theorem scope_doubled.l2_nil  {x50 : List Str} : scope_doubled.l2  [] x50 = some (.inr x50) := rfl
theorem scope_doubled.l2_cons  {y53 : T_Data} {rest54 : List (T_Data)} {x50 : List Str} : scope_doubled.l2  (y53 :: rest54) x50 = (app 8796093022208 x50 ([y53.fName] : List Str)).bind fun l75 => (scope_Twice y53.fParams).bind fun r80 => (if r80 = true then some (.inl true) else scope_doubled.l2 rest54 l75) := rfl
def scope_doubled.l3  : List (T_Trait) → (List Str) → Option (List Str)
  | [], x99 => some x99
  | y102 :: rest103, x99 => (app 8796093022208 x99 ([y102.fName] : List Str)).bind fun l122 => scope_doubled.l3 rest103 l122

theorem scope_doubled.l3_nil  {x99 : List Str} : scope_doubled.l3  [] x99 = some x99 := rfl
theorem scope_doubled.l3_cons  {y102 : T_Trait} {rest103 : List (T_Trait)} {x99 : List Str} : scope_doubled.l3  (y102 :: rest103) x99 = (app 8796093022208 x99 ([y102.fName] : List Str)).bind fun l122 => scope_doubled.l3 rest103 l122 := rfl
def scope_doubled.Spec (F : T_Program → Option (Bool)) : Prop := ∀ {b0 : T_Program} {out : Bool}, F b0 = some out → Ct Gl Try.prog 18 [.agg (lf_T_Program b0)] [] (fun x : Unit => .val (.bool out)) (fun x : Unit => [])
def scope_doubled (b0 : T_Program) : Option (Bool) := (scope_doubled.l1 b0.fUses ([b0.fName] : List Str)).bind fun b42 => (scope_doubled.l2 b0.fDatas ([] : List Str)).bind (retOr fun b91 => (scope_doubled.l3 b0.fTraits ([] : List Str)).bind fun b127 => (scope_Twice b42).bind fun r132 => (if r132 = true then some true else (scope_Twice b91).bind fun r138 => some r138).bind fun t136 => (if t136 = true then some true else (scope_Twice b127).bind fun r144 => some r144).bind fun t142 => (if t142 = true then some true else (scope_Makers b0).bind fun r150 => (scope_Twice r150).bind fun r153 => some r153).bind fun t148 => (if t148 = true then some true else (scope_Callable b0).bind fun r159 => (scope_Twice r159).bind fun r162 => some r162).bind fun t157 => (if t157 = true then some true else (scope_Actors b0).bind fun r168 => (scope_Twice r168).bind fun r171 => some r171).bind fun t166 => some t166)
set_option maxRecDepth 100000 in
theorem scope_doubled_ok : scope_doubled.Spec (scope_doubled) := by
 intro b0 out hp
 refine ct_of_G (nt := 84) Try.func18 rfl Try.ntmps18 rfl (fun B => ?_) hp
 unfold scope_doubled
 refine G.seq fun K1 hK2 => ?_
 refine G.region ?_
 refine G.op rfl (O.box (.of rfl) (OneC.agg (List.forall_mem_cons.2 ⟨(.val rfl), (List.forall_mem_cons.2 ⟨(.val rfl), (List.forall_mem_cons.2 ⟨.sl, (List.forall_mem_cons.2 ⟨.sl, (List.forall_mem_cons.2 ⟨.sl, (List.forall_mem_cons.2 ⟨.sl, (List.forall_mem_cons.2 ⟨.sl, (List.forall_mem_cons.2 ⟨.sl, (List.forall_mem_nil _)⟩)⟩)⟩)⟩)⟩)⟩)⟩)⟩))) fun g3 => ?_
 refine G.p rfl (V.assign rfl) ?_
 refine G.nil ?_
 refine G.norm (L' := [(1, .val (.pointer (some ⟨g3, 0, none⟩)))]) (is := [1]) (R' := [.cells g3 29 (lf_T_Program b0)]) (js := [0]) rfl rfl ?_
 refine G.next_ hK2 ?_
 refine G.seq fun K4 hK5 => ?_
 refine G.region ?_
 refine G.p rfl (V.fieldAddr (o' := 0) rfl Try.runUnderlying29 rfl Try.sizeOf9 rfl) ?_
 refine G.q rfl (V.load_cell (i := 0) (ds := (lf_T_Program b0)) (d := .val (bs b0.fName)) rfl rfl Try.isAgg9 rfl rfl) ?_
 refine G.op rfl (O.buildSlice (xs := [.tmp 13]) (ds := ([b0.fName] : List Str).map eS) elt30 rfl (.cons (.of rfl) .nil) rfl (by decide) (List.forall_mem_cons.2 ⟨(fun c hc => ((fun _ => one_S) _ c hc).mono), (List.forall_mem_nil _)⟩) (List.forall_mem_cons.2 ⟨rfl, (List.forall_mem_nil _)⟩)) fun v6 => ?_
 refine G.op rfl (O.buildSlice (xs := []) (ds := ([] : List Str).map eS) elt30 rfl (.nil) rfl (by decide) (List.forall_mem_nil _) (List.forall_mem_nil _)) fun v7 => ?_
 refine G.op rfl (O.buildSlice (xs := []) (ds := ([] : List Str).map eS) elt30 rfl (.nil) rfl (by decide) (List.forall_mem_nil _) (List.forall_mem_nil _)) fun v8 => ?_
 refine G.p rfl (V.assign rfl) ?_
 refine G.p rfl (V.assign rfl) ?_
 refine G.p rfl (V.assign rfl) ?_
 refine G.nil ?_
 refine G.norm (L' := [(1, .val (.pointer (some ⟨g3, 0, none⟩))), (3, .val v6), (4, .val v7), (5, .val v8)]) (is := [1, 3, 4, 5]) (R' := [.row v8 9 1 (([] : List Str).map eS), .row v7 9 1 (([] : List Str).map eS), .row v6 9 1 (([b0.fName] : List Str).map eS), .cells g3 29 (lf_T_Program b0)]) (js := [0, 0, 0, 0]) rfl rfl ?_
 refine G.next_ hK5 ?_
 refine G.seq fun K9 hK10 => ?_
 refine G.seq fun K11 hK12 => ?_
 refine G.region ?_
 refine G.p rfl (V.fieldAddr (o' := 2) rfl Try.runUnderlying29 rfl Try.sizeOf22 rfl) ?_
 refine G.q rfl (V.load_cell (i := 3) (ds := (lf_T_Program b0)) (d := eL e_T_Use 3 b0.fUses) rfl rfl Try.isAgg22 rfl rfl) ?_
 refine G.lenb (enc := e_T_Use) (xs := b0.fUses) (sz := 3) (x := .tmp 18) (.of rfl) fun hN13 => ?_
 refine G.p rfl (V.len_sl (enc := e_T_Use) (xs := b0.fUses) (sz := 3) (.of rfl) Try.runUnderlying22) ?_
 refine G.p rfl (V.move rfl) ?_
 refine G.nil ?_
 refine G.norm (L' := [(1, .val (.pointer (some ⟨g3, 0, none⟩))), (3, .val v6), (4, .val v7), (5, .val v8), (18, eL e_T_Use 3 b0.fUses), (19, .val (.int .i64 (b0.fUses.length : Int))), (20, .val (.int .i64 0))]) (is := [1, 3, 4, 5, 18, 19, 20]) (R' := [.row v8 9 1 (([] : List Str).map eS), .row v7 9 1 (([] : List Str).map eS), .row v6 9 1 (([b0.fName] : List Str).map eS), .cells g3 29 (lf_T_Program b0)]) (js := [0, 0, 0, 0]) rfl rfl ?_
 refine G.next_ hK12 ?_
 refine G.join (E := fun b a w => ∃ (g_0 : Value), Ass Gl B 84 [(1, .val (.pointer (some ⟨g3, 0, none⟩))), (3, .val g_0), (4, .val v7), (5, .val v8)] [.cells g3 29 (lf_T_Program b0), .row g_0 9 1 (b.map eS), .row v7 9 1 (([] : List Str).map eS), .row v8 9 1 (([] : List Str).map eS)] a w) ?_ ?_
 ·intro b hF21
  refine G.block ?_
  refine G.norm (L' := [(1, .val (.pointer (some ⟨g3, 0, none⟩))), (3, .val v6), (4, .val v7), (5, .val v8), (18, eL e_T_Use 3 b0.fUses), (19, .val (.int .i64 (b0.fUses.length : Int))), (20, .val (.int .i64 ((0 : Nat) : Int)))]) (is := [1, 3, 4, 5, 18, 19, 20]) (R' := [.cells g3 29 (lf_T_Program b0), .row v6 9 1 (([b0.fName] : List Str).map eS), .row v7 9 1 (([] : List Str).map eS), .row v8 9 1 (([] : List Str).map eS)]) (js := [3, 2, 1, 0]) rfl rfl ?_
  refine G.loop (fun kq a w => ∃ (rest18 : List (T_Use)) (i16 : Nat) (x14 : List Str), kq = rest18.length ∧ scope_doubled.l1 rest18 x14 = some b ∧ b0.fUses.drop i16 = rest18 ∧ ∃ (g_0 : Value), Ass Gl B 84 [(1, .val (.pointer (some ⟨g3, 0, none⟩))), (3, .val g_0), (4, .val v7), (5, .val v8), (18, eL e_T_Use 3 b0.fUses), (19, .val (.int .i64 (b0.fUses.length : Int))), (20, .val (.int .i64 (i16 : Int)))] [.cells g3 29 (lf_T_Program b0), .row g_0 9 1 (x14.map eS), .row v7 9 1 (([] : List Str).map eS), .row v8 9 1 (([] : List Str).map eS)] a w) (b0.fUses.length) ?_ ?_
  ·intro hl41 a w hA
   exact ⟨b0.fUses, 0, ([b0.fName] : List Str), rfl, hl41, rfl, ⟨_, hA⟩⟩
  ·rintro _ a w ⟨rest18, i16, x14, rfl, hl22, hd19, ⟨g15, hA⟩⟩
   rcases rest18 with _ | ⟨y17, rest18⟩
   ·rw [scope_doubled.l1_nil] at hl22
    refine G.use hl22 hA ?_
    refine G.seq fun K23 hK24 => ?_
    refine G.region ?_
    refine G.p rfl (V.bin (u := .int .i64 (i16 : Int)) (v := .int .i64 (b0.fUses.length : Int)) (r := .bool (decide ((i16 : Int) < (b0.fUses.length : Int)))) rfl rfl b_lss) ?_
    refine G.nil ?_
    refine G.norm (L' := [(1, .val (.pointer (some ⟨g3, 0, none⟩))), (3, .val g15), (4, .val v7), (5, .val v8), (18, eL e_T_Use 3 b0.fUses), (19, .val (.int .i64 (b0.fUses.length : Int))), (20, .val (.int .i64 (i16 : Int))), (21, .val (.bool (decide ((i16 : Int) < (b0.fUses.length : Int)))))]) (is := [1, 3, 4, 5, 18, 19, 20, 21]) (R' := [.cells g3 29 (lf_T_Program b0), .row g15 9 1 (x14.map eS), .row v7 9 1 (([] : List Str).map eS), .row v8 9 1 (([] : List Str).map eS)]) (js := [0, 0, 0, 0]) rfl rfl ?_
    refine G.next_ hK24 ?_
    refine G.seq fun K25 hK26 => ?_
    refine G.no rfl (rng_end hd19) ?_
    refine G.exit ?_
    refine G.thn_exit ?_
    refine G.thn_exit ?_
    refine G.inB_eq ?_
    refine G.norm (L' := [(1, .val (.pointer (some ⟨g3, 0, none⟩))), (3, .val g15), (4, .val v7), (5, .val v8)]) (is := [1, 3, 4, 5]) (R' := [.cells g3 29 (lf_T_Program b0), .row g15 9 1 (x14.map eS), .row v7 9 1 (([] : List Str).map eS), .row v8 9 1 (([] : List Str).map eS)]) (js := [0, 0, 0, 0]) rfl rfl ?_
    exact G.finE fun hb a w hA => by subst hb; exact ⟨_, hA⟩
   ·rw [scope_doubled.l1_cons] at hl22
    refine G.use hl22 hA ?_
    refine G.seq fun K27 hK28 => ?_
    refine G.region ?_
    refine G.p rfl (V.bin (u := .int .i64 (i16 : Int)) (v := .int .i64 (b0.fUses.length : Int)) (r := .bool (decide ((i16 : Int) < (b0.fUses.length : Int)))) rfl rfl b_lss) ?_
    refine G.nil ?_
    refine G.norm (L' := [(1, .val (.pointer (some ⟨g3, 0, none⟩))), (3, .val g15), (4, .val v7), (5, .val v8), (18, eL e_T_Use 3 b0.fUses), (19, .val (.int .i64 (b0.fUses.length : Int))), (20, .val (.int .i64 (i16 : Int))), (21, .val (.bool (decide ((i16 : Int) < (b0.fUses.length : Int)))))]) (is := [1, 3, 4, 5, 18, 19, 20, 21]) (R' := [.cells g3 29 (lf_T_Program b0), .row g15 9 1 (x14.map eS), .row v7 9 1 (([] : List Str).map eS), .row v8 9 1 (([] : List Str).map eS)]) (js := [0, 0, 0, 0]) rfl rfl ?_
    refine G.next_ hK28 ?_
    refine G.seq fun K29 hK30 => ?_
    refine G.yes rfl (rng_more hd19) ?_
    refine G.skip ?_
    refine G.next_ hK30 ?_
    refine G.seq fun K31 hK32 => ?_
    refine G.block ?_
    refine G.seq fun K33 hK34 => ?_
    refine G.region ?_
    refine G.p rfl (V.at_sl (k := i16) rfl rfl Try.runUnderlying22 Try.sizeOf70 (map_at (rng_at hd19))) ?_
    refine G.q rfl (V.load_ptrN (ds := (lf_T_Use y17)) rfl (e_T_Use_eq y17) Try.isAgg70 Try.sizeOf70 rfl) ?_
    refine G.op rfl (O.alloc (ds := [.val (bs ([] : Str)), .val (.int .i64 0), .val (.int .i64 0)]) Try.zeroValue70 rfl) fun g35 => ?_
    refine G.opn (O.store (i := 0) (o := 0) (ds := [.val (bs ([] : Str)), .val (.int .i64 0), .val (.int .i64 0)]) rfl (.of rfl) rfl (OneC.agg (List.forall_mem_cons.2 ⟨(.val rfl), (List.forall_mem_cons.2 ⟨(.val rfl), (List.forall_mem_cons.2 ⟨(.val rfl), (List.forall_mem_nil _)⟩)⟩)⟩)) Try.sizeOf70 rfl rfl) fun _ => ?_
    refine G.nil ?_
    refine G.norm (L' := [(1, .val (.pointer (some ⟨g3, 0, none⟩))), (3, .val g15), (4, .val v7), (5, .val v8), (7, .val (.pointer (some ⟨g35, 0, none⟩))), (18, eL e_T_Use 3 b0.fUses), (19, .val (.int .i64 (b0.fUses.length : Int))), (20, .val (.int .i64 (i16 : Int)))]) (is := [1, 3, 4, 5, 7, 18, 19, 20]) (R' := [.cells g35 70 (lf_T_Use y17), .cells g3 29 (lf_T_Program b0), .row g15 9 1 (x14.map eS), .row v7 9 1 (([] : List Str).map eS), .row v8 9 1 (([] : List Str).map eS)]) (js := [0, 0, 0, 0, 0]) rfl rfl ?_
    refine G.next_ hK34 ?_
    refine G.region ?_
    refine G.p rfl (V.move rfl) ?_
    refine G.p rfl (V.fieldAddr (o' := 0) rfl Try.runUnderlying70 rfl Try.sizeOf9 rfl) ?_
    refine G.q rfl (V.load_cell (i := 0) (ds := (lf_T_Use y17)) (d := .val (bs y17.fName)) rfl rfl Try.isAgg9 rfl rfl) ?_
    refine G.op rfl (O.buildSlice (xs := [.tmp 26]) (ds := ([y17.fName] : List Str).map eS) elt30 rfl (.cons (.of rfl) .nil) rfl (by decide) (List.forall_mem_cons.2 ⟨(fun c hc => ((fun _ => one_S) _ c hc).mono), (List.forall_mem_nil _)⟩) (List.forall_mem_cons.2 ⟨rfl, (List.forall_mem_nil _)⟩)) fun v36 => ?_
    refine G.bind fun l37 hl38 => ?_
    refine G.op rfl (O.append_row (i := 3) (j := 0) (enc := eS) (xs := x14) (ys := ([y17.fName] : List Str)) (lim := 8796093022208) elt30 rfl rfl rfl rfl (by decide) (by decide) (fun _ => one_S) hl38) fun v39 => ?_
    refine G.p rfl (V.assign rfl) ?_
    refine G.nil ?_
    refine G.norm (L' := [(1, .val (.pointer (some ⟨g3, 0, none⟩))), (3, .val v39), (4, .val v7), (5, .val v8), (18, eL e_T_Use 3 b0.fUses), (19, .val (.int .i64 (b0.fUses.length : Int))), (20, .val (.int .i64 (i16 : Int)))]) (is := [1, 3, 4, 5, 18, 19, 20]) (R' := [.cells g3 29 (lf_T_Program b0), .row v39 9 1 (l37.map eS), .row v7 9 1 (([] : List Str).map eS), .row v8 9 1 (([] : List Str).map eS)]) (js := [2, 2, 2, 2]) rfl rfl ?_
    refine G.inB ?_
    refine G.next_ hK32 ?_
    refine G.region ?_
    refine G.p rfl (V.incr (i := i16) (N := b0.fUses.length) rfl rfl (rng_lt hd19) (hN13)) ?_
    refine G.p rfl (V.move rfl) ?_
    refine G.nil ?_
    refine G.norm (L' := [(1, .val (.pointer (some ⟨g3, 0, none⟩))), (3, .val v39), (4, .val v7), (5, .val v8), (18, eL e_T_Use 3 b0.fUses), (19, .val (.int .i64 (b0.fUses.length : Int))), (20, .val (.int .i64 ((i16 + 1 : Nat) : Int)))]) (is := [1, 3, 4, 5, 18, 19, 20]) (R' := [.cells g3 29 (lf_T_Program b0), .row v39 9 1 (l37.map eS), .row v7 9 1 (([] : List Str).map eS), .row v8 9 1 (([] : List Str).map eS)]) (js := [0, 0, 0, 0]) rfl rfl ?_
    refine G.again ?_
    intro hl40 a w hA
    exact ⟨_, Nat.lt_succ_self _, rest18, i16 + 1, l37, rfl, hl40, rng_next hd19, ⟨_, hA⟩⟩
 ·rintro b42 hb a w ⟨g43, hA⟩ hF44
  refine G.use hF44 hA ?_
  refine G.next_ hK10 ?_
  refine G.seq fun K45 hK46 => ?_
  refine G.seq fun K47 hK48 => ?_
  refine G.region ?_
  refine G.p rfl (V.fieldAddr (o' := 3) rfl Try.runUnderlying29 rfl Try.sizeOf23 rfl) ?_
  refine G.q rfl (V.load_cell (i := 0) (ds := (lf_T_Program b0)) (d := eL e_T_Data 3 b0.fDatas) rfl rfl Try.isAgg23 rfl rfl) ?_
  refine G.lenb (enc := e_T_Data) (xs := b0.fDatas) (sz := 3) (x := .tmp 31) (.of rfl) fun hN49 => ?_
  refine G.p rfl (V.len_sl (enc := e_T_Data) (xs := b0.fDatas) (sz := 3) (.of rfl) Try.runUnderlying23) ?_
  refine G.p rfl (V.move rfl) ?_
  refine G.nil ?_
  refine G.norm (L' := [(1, .val (.pointer (some ⟨g3, 0, none⟩))), (3, .val g43), (4, .val v7), (5, .val v8), (31, eL e_T_Data 3 b0.fDatas), (32, .val (.int .i64 (b0.fDatas.length : Int))), (33, .val (.int .i64 0))]) (is := [1, 3, 4, 5, 31, 32, 33]) (R' := [.cells g3 29 (lf_T_Program b0), .row g43 9 1 (b42.map eS), .row v7 9 1 (([] : List Str).map eS), .row v8 9 1 (([] : List Str).map eS)]) (js := [0, 0, 0, 0]) rfl rfl ?_
  refine G.next_ hK48 ?_
  refine G.join (E := fun o a w => ∃ b, o = .inr b ∧ ∃ (g_0 : Value), Ass Gl B 84 [(1, .val (.pointer (some ⟨g3, 0, none⟩))), (3, .val g43), (4, .val g_0), (5, .val v8)] [.cells g3 29 (lf_T_Program b0), .row g43 9 1 (b42.map eS), .row g_0 9 1 (b.map eS), .row v8 9 1 (([] : List Str).map eS)] a w) ?_ ?_
  ·intro b hF57
   refine G.block ?_
   refine G.norm (L' := [(1, .val (.pointer (some ⟨g3, 0, none⟩))), (3, .val g43), (4, .val v7), (5, .val v8), (31, eL e_T_Data 3 b0.fDatas), (32, .val (.int .i64 (b0.fDatas.length : Int))), (33, .val (.int .i64 ((0 : Nat) : Int)))]) (is := [1, 3, 4, 5, 31, 32, 33]) (R' := [.cells g3 29 (lf_T_Program b0), .row g43 9 1 (b42.map eS), .row v7 9 1 (([] : List Str).map eS), .row v8 9 1 (([] : List Str).map eS)]) (js := [0, 0, 0, 0]) rfl rfl ?_
   refine G.loop (fun kq a w => ∃ (rest54 : List (T_Data)) (i52 : Nat) (x50 : List Str), kq = rest54.length ∧ scope_doubled.l2 rest54 x50 = some b ∧ b0.fDatas.drop i52 = rest54 ∧ ∃ (g_0 : Value), Ass Gl B 84 [(1, .val (.pointer (some ⟨g3, 0, none⟩))), (3, .val g43), (4, .val g_0), (5, .val v8), (31, eL e_T_Data 3 b0.fDatas), (32, .val (.int .i64 (b0.fDatas.length : Int))), (33, .val (.int .i64 (i52 : Int)))] [.cells g3 29 (lf_T_Program b0), .row g43 9 1 (b42.map eS), .row g_0 9 1 (x50.map eS), .row v8 9 1 (([] : List Str).map eS)] a w) (b0.fDatas.length) ?_ ?_
   ·intro hl90 a w hA
    exact ⟨b0.fDatas, 0, ([] : List Str), rfl, hl90, rfl, ⟨_, hA⟩⟩
   ·rintro _ a w ⟨rest54, i52, x50, rfl, hl58, hd55, ⟨g51, hA⟩⟩
    rcases rest54 with _ | ⟨y53, rest54⟩
    ·rw [scope_doubled.l2_nil] at hl58
     refine G.use hl58 hA ?_
     refine G.seq fun K59 hK60 => ?_
     refine G.region ?_
     refine G.p rfl (V.bin (u := .int .i64 (i52 : Int)) (v := .int .i64 (b0.fDatas.length : Int)) (r := .bool (decide ((i52 : Int) < (b0.fDatas.length : Int)))) rfl rfl b_lss) ?_
     refine G.nil ?_
     refine G.norm (L' := [(1, .val (.pointer (some ⟨g3, 0, none⟩))), (3, .val g43), (4, .val g51), (5, .val v8), (31, eL e_T_Data 3 b0.fDatas), (32, .val (.int .i64 (b0.fDatas.length : Int))), (33, .val (.int .i64 (i52 : Int))), (34, .val (.bool (decide ((i52 : Int) < (b0.fDatas.length : Int)))))]) (is := [1, 3, 4, 5, 31, 32, 33, 34]) (R' := [.cells g3 29 (lf_T_Program b0), .row g43 9 1 (b42.map eS), .row g51 9 1 (x50.map eS), .row v8 9 1 (([] : List Str).map eS)]) (js := [0, 0, 0, 0]) rfl rfl ?_
     refine G.next_ hK60 ?_
     refine G.seq fun K61 hK62 => ?_
     refine G.no rfl (rng_end hd55) ?_
     refine G.exit ?_
     refine G.thn_exit ?_
     refine G.thn_exit ?_
     refine G.inB_eq ?_
     refine G.norm (L' := [(1, .val (.pointer (some ⟨g3, 0, none⟩))), (3, .val g43), (4, .val g51), (5, .val v8)]) (is := [1, 3, 4, 5]) (R' := [.cells g3 29 (lf_T_Program b0), .row g43 9 1 (b42.map eS), .row g51 9 1 (x50.map eS), .row v8 9 1 (([] : List Str).map eS)]) (js := [0, 0, 0, 0]) rfl rfl ?_
     exact G.finE fun hb a w hA => by subst hb; exact ⟨_, rfl, ⟨_, hA⟩⟩
    ·rw [scope_doubled.l2_cons] at hl58
     refine G.use hl58 hA ?_
     refine G.seq fun K63 hK64 => ?_
     refine G.region ?_
     refine G.p rfl (V.bin (u := .int .i64 (i52 : Int)) (v := .int .i64 (b0.fDatas.length : Int)) (r := .bool (decide ((i52 : Int) < (b0.fDatas.length : Int)))) rfl rfl b_lss) ?_
     refine G.nil ?_
     refine G.norm (L' := [(1, .val (.pointer (some ⟨g3, 0, none⟩))), (3, .val g43), (4, .val g51), (5, .val v8), (31, eL e_T_Data 3 b0.fDatas), (32, .val (.int .i64 (b0.fDatas.length : Int))), (33, .val (.int .i64 (i52 : Int))), (34, .val (.bool (decide ((i52 : Int) < (b0.fDatas.length : Int)))))]) (is := [1, 3, 4, 5, 31, 32, 33, 34]) (R' := [.cells g3 29 (lf_T_Program b0), .row g43 9 1 (b42.map eS), .row g51 9 1 (x50.map eS), .row v8 9 1 (([] : List Str).map eS)]) (js := [0, 0, 0, 0]) rfl rfl ?_
     refine G.next_ hK64 ?_
     refine G.seq fun K65 hK66 => ?_
     refine G.yes rfl (rng_more hd55) ?_
     refine G.skip ?_
     refine G.next_ hK66 ?_
     refine G.seq fun K67 hK68 => ?_
     refine G.block ?_
     refine G.seq fun K69 hK70 => ?_
     refine G.region ?_
     refine G.p rfl (V.at_sl (k := i52) rfl rfl Try.runUnderlying23 Try.sizeOf73 (map_at (rng_at hd55))) ?_
     refine G.q rfl (V.load_ptrN (ds := (lf_T_Data y53)) rfl (e_T_Data_eq y53) Try.isAgg73 Try.sizeOf73 rfl) ?_
     refine G.op rfl (O.alloc (ds := [.val (bs ([] : Str)), .val (.slice none 0 0), .val (.slice none 0 0)]) Try.zeroValue73 rfl) fun g71 => ?_
     refine G.opn (O.store (i := 0) (o := 0) (ds := [.val (bs ([] : Str)), .val (.slice none 0 0), .val (.slice none 0 0)]) rfl (.of rfl) rfl (OneC.agg (List.forall_mem_cons.2 ⟨(.val rfl), (List.forall_mem_cons.2 ⟨.sl, (List.forall_mem_cons.2 ⟨.sl, (List.forall_mem_nil _)⟩)⟩)⟩)) Try.sizeOf73 rfl rfl) fun _ => ?_
     refine G.nil ?_
     refine G.norm (L' := [(1, .val (.pointer (some ⟨g3, 0, none⟩))), (3, .val g43), (4, .val g51), (5, .val v8), (9, .val (.pointer (some ⟨g71, 0, none⟩))), (31, eL e_T_Data 3 b0.fDatas), (32, .val (.int .i64 (b0.fDatas.length : Int))), (33, .val (.int .i64 (i52 : Int)))]) (is := [1, 3, 4, 5, 9, 31, 32, 33]) (R' := [.cells g71 73 (lf_T_Data y53), .cells g3 29 (lf_T_Program b0), .row g43 9 1 (b42.map eS), .row g51 9 1 (x50.map eS), .row v8 9 1 (([] : List Str).map eS)]) (js := [0, 0, 0, 0, 0]) rfl rfl ?_
     refine G.next_ hK70 ?_
     refine G.seq fun K72 hK73 => ?_
     refine G.region ?_
     refine G.p rfl (V.move rfl) ?_
     refine G.p rfl (V.fieldAddr (o' := 0) rfl Try.runUnderlying73 rfl Try.sizeOf9 rfl) ?_
     refine G.q rfl (V.load_cell (i := 0) (ds := (lf_T_Data y53)) (d := .val (bs y53.fName)) rfl rfl Try.isAgg9 rfl rfl) ?_
     refine G.op rfl (O.buildSlice (xs := [.tmp 39]) (ds := ([y53.fName] : List Str).map eS) elt30 rfl (.cons (.of rfl) .nil) rfl (by decide) (List.forall_mem_cons.2 ⟨(fun c hc => ((fun _ => one_S) _ c hc).mono), (List.forall_mem_nil _)⟩) (List.forall_mem_cons.2 ⟨rfl, (List.forall_mem_nil _)⟩)) fun v74 => ?_
     refine G.bind fun l75 hl76 => ?_
     refine G.op rfl (O.append_row (i := 4) (j := 0) (enc := eS) (xs := x50) (ys := ([y53.fName] : List Str)) (lim := 8796093022208) elt30 rfl rfl rfl rfl (by decide) (by decide) (fun _ => one_S) hl76) fun v77 => ?_
     refine G.p rfl (V.assign rfl) ?_
     refine G.nil ?_
     refine G.norm (L' := [(1, .val (.pointer (some ⟨g3, 0, none⟩))), (3, .val g43), (4, .val v77), (5, .val v8), (9, .val (.pointer (some ⟨g71, 0, none⟩))), (31, eL e_T_Data 3 b0.fDatas), (32, .val (.int .i64 (b0.fDatas.length : Int))), (33, .val (.int .i64 (i52 : Int)))]) (is := [1, 3, 4, 5, 9, 31, 32, 33]) (R' := [.cells g71 73 (lf_T_Data y53), .cells g3 29 (lf_T_Program b0), .row g43 9 1 (b42.map eS), .row v77 9 1 (l75.map eS), .row v8 9 1 (([] : List Str).map eS)]) (js := [1, 1, 1, 1, 1]) rfl rfl ?_
     refine G.next_ hK73 ?_
     refine G.seq fun K78 hK79 => ?_
     refine G.region ?_
     refine G.p rfl (V.fieldAddr (o' := 1) rfl Try.runUnderlying73 rfl Try.sizeOf30 rfl) ?_
     refine G.q rfl (V.load_cell (i := 0) (ds := (lf_T_Data y53)) (d := eL eS 1 y53.fParams) rfl rfl Try.isAgg30 rfl rfl) ?_
     refine G.bind fun r80 hr81 => ?_
     refine G.op rfl (O.call (xs := [.tmp 43]) (is := []) (Rp := []) (Rr := [.cells g71 73 (lf_T_Data y53), .cells g3 29 (lf_T_Program b0), .row g43 9 1 (b42.map eS), .row v77 9 1 (l75.map eS), .row v8 9 1 (([] : List Str).map eS)]) (scope_Twice_ok hr81) (.cons (.of rfl) .nil) Try.call16 rfl) fun x82 => ?_
     refine G.nil ?_
     refine G.norm (L' := [(1, .val (.pointer (some ⟨g3, 0, none⟩))), (3, .val g43), (4, .val v77), (5, .val v8), (31, eL e_T_Data 3 b0.fDatas), (32, .val (.int .i64 (b0.fDatas.length : Int))), (33, .val (.int .i64 (i52 : Int))), (44, .val (.bool r80))]) (is := [1, 3, 4, 5, 31, 32, 33, 44]) (R' := [.cells g3 29 (lf_T_Program b0), .row g43 9 1 (b42.map eS), .row v77 9 1 (l75.map eS), .row v8 9 1 (([] : List Str).map eS)]) (js := [1, 1, 1, 1]) rfl rfl ?_
     refine G.next_ hK79 ?_
     refine G.cond (b := r80) rfl (fun hc83 => ?_) (fun hc83 => ?_)
     ·refine G.norm (L' := []) (is := []) (R' := []) (js := []) rfl rfl ?_
      refine G.seq fun K84 hK85 => ?_
      refine G.region ?_
      refine G.p rfl (V.assign rfl) ?_
      refine G.nil ?_
      refine G.norm (L' := [(2, .val (.bool true))]) (is := [2]) (R' := []) (js := []) rfl rfl ?_
      refine G.next_ hK85 ?_
      refine G.ret ?_
      refine G.inB_ret ?_
      refine G.thn_ret ?_
      refine G.thn_ret ?_
      refine G.inB_ret ?_
      refine G.thn_ret ?_
      refine G.thn_ret ?_
      refine G.fin_ fun hF86 => ?_
      have hb87 := Option.some.inj hF86
      subst hb87
      have hF88 : (some true : Option (Bool)) = some _ := hF57
      obtain rfl := Option.some.inj hF88
      exact G.ret1 Try.results18 () (is := []) (.of rfl) rfl
     ·refine G.norm (L' := [(1, .val (.pointer (some ⟨g3, 0, none⟩))), (3, .val g43), (4, .val v77), (5, .val v8), (31, eL e_T_Data 3 b0.fDatas), (32, .val (.int .i64 (b0.fDatas.length : Int))), (33, .val (.int .i64 (i52 : Int)))]) (is := [1, 3, 4, 5, 31, 32, 33]) (R' := [.cells g3 29 (lf_T_Program b0), .row g43 9 1 (b42.map eS), .row v77 9 1 (l75.map eS), .row v8 9 1 (([] : List Str).map eS)]) (js := [0, 0, 0, 0]) rfl rfl ?_
      refine G.skip ?_
      refine G.inB ?_
      refine G.next_ hK68 ?_
      refine G.region ?_
      refine G.p rfl (V.incr (i := i52) (N := b0.fDatas.length) rfl rfl (rng_lt hd55) (hN49)) ?_
      refine G.p rfl (V.move rfl) ?_
      refine G.nil ?_
      refine G.norm (L' := [(1, .val (.pointer (some ⟨g3, 0, none⟩))), (3, .val g43), (4, .val v77), (5, .val v8), (31, eL e_T_Data 3 b0.fDatas), (32, .val (.int .i64 (b0.fDatas.length : Int))), (33, .val (.int .i64 ((i52 + 1 : Nat) : Int)))]) (is := [1, 3, 4, 5, 31, 32, 33]) (R' := [.cells g3 29 (lf_T_Program b0), .row g43 9 1 (b42.map eS), .row v77 9 1 (l75.map eS), .row v8 9 1 (([] : List Str).map eS)]) (js := [0, 0, 0, 0]) rfl rfl ?_
      refine G.again ?_
      intro hl89 a w hA
      exact ⟨_, Nat.lt_succ_self _, rest54, i52 + 1, l75, rfl, hl89, rng_next hd55, ⟨_, hA⟩⟩
  ·rintro _ hb a w ⟨b91, rfl, ⟨g92, hA⟩⟩ hF93
   refine G.use hF93 hA ?_
   refine G.inr ?_
   refine G.next_ hK46 ?_
   refine G.seq fun K94 hK95 => ?_
   refine G.seq fun K96 hK97 => ?_
   refine G.region ?_
   refine G.p rfl (V.fieldAddr (o' := 4) rfl Try.runUnderlying29 rfl Try.sizeOf24 rfl) ?_
   refine G.q rfl (V.load_cell (i := 0) (ds := (lf_T_Program b0)) (d := eL e_T_Trait 2 b0.fTraits) rfl rfl Try.isAgg24 rfl rfl) ?_
   refine G.lenb (enc := e_T_Trait) (xs := b0.fTraits) (sz := 2) (x := .tmp 47) (.of rfl) fun hN98 => ?_
   refine G.p rfl (V.len_sl (enc := e_T_Trait) (xs := b0.fTraits) (sz := 2) (.of rfl) Try.runUnderlying24) ?_
   refine G.p rfl (V.move rfl) ?_
   refine G.nil ?_
   refine G.norm (L' := [(1, .val (.pointer (some ⟨g3, 0, none⟩))), (3, .val g43), (4, .val g92), (5, .val v8), (47, eL e_T_Trait 2 b0.fTraits), (48, .val (.int .i64 (b0.fTraits.length : Int))), (49, .val (.int .i64 0))]) (is := [1, 3, 4, 5, 47, 48, 49]) (R' := [.cells g3 29 (lf_T_Program b0), .row g43 9 1 (b42.map eS), .row g92 9 1 (b91.map eS), .row v8 9 1 (([] : List Str).map eS)]) (js := [0, 0, 0, 0]) rfl rfl ?_
   refine G.next_ hK97 ?_
   refine G.join (E := fun b a w => ∃ (g_0 : Value), Ass Gl B 84 [(1, .val (.pointer (some ⟨g3, 0, none⟩))), (3, .val g43), (4, .val g92), (5, .val g_0)] [.cells g3 29 (lf_T_Program b0), .row g43 9 1 (b42.map eS), .row g92 9 1 (b91.map eS), .row g_0 9 1 (b.map eS)] a w) ?_ ?_
   ·intro b hF106
    refine G.block ?_
    refine G.norm (L' := [(1, .val (.pointer (some ⟨g3, 0, none⟩))), (3, .val g43), (4, .val g92), (5, .val v8), (47, eL e_T_Trait 2 b0.fTraits), (48, .val (.int .i64 (b0.fTraits.length : Int))), (49, .val (.int .i64 ((0 : Nat) : Int)))]) (is := [1, 3, 4, 5, 47, 48, 49]) (R' := [.cells g3 29 (lf_T_Program b0), .row g43 9 1 (b42.map eS), .row g92 9 1 (b91.map eS), .row v8 9 1 (([] : List Str).map eS)]) (js := [0, 0, 0, 0]) rfl rfl ?_
    refine G.loop (fun kq a w => ∃ (rest103 : List (T_Trait)) (i101 : Nat) (x99 : List Str), kq = rest103.length ∧ scope_doubled.l3 rest103 x99 = some b ∧ b0.fTraits.drop i101 = rest103 ∧ ∃ (g_0 : Value), Ass Gl B 84 [(1, .val (.pointer (some ⟨g3, 0, none⟩))), (3, .val g43), (4, .val g92), (5, .val g_0), (47, eL e_T_Trait 2 b0.fTraits), (48, .val (.int .i64 (b0.fTraits.length : Int))), (49, .val (.int .i64 (i101 : Int)))] [.cells g3 29 (lf_T_Program b0), .row g43 9 1 (b42.map eS), .row g92 9 1 (b91.map eS), .row g_0 9 1 (x99.map eS)] a w) (b0.fTraits.length) ?_ ?_
    ·intro hl126 a w hA
     exact ⟨b0.fTraits, 0, ([] : List Str), rfl, hl126, rfl, ⟨_, hA⟩⟩
    ·rintro _ a w ⟨rest103, i101, x99, rfl, hl107, hd104, ⟨g100, hA⟩⟩
     rcases rest103 with _ | ⟨y102, rest103⟩
     ·rw [scope_doubled.l3_nil] at hl107
      refine G.use hl107 hA ?_
      refine G.seq fun K108 hK109 => ?_
      refine G.region ?_
      refine G.p rfl (V.bin (u := .int .i64 (i101 : Int)) (v := .int .i64 (b0.fTraits.length : Int)) (r := .bool (decide ((i101 : Int) < (b0.fTraits.length : Int)))) rfl rfl b_lss) ?_
      refine G.nil ?_
      refine G.norm (L' := [(1, .val (.pointer (some ⟨g3, 0, none⟩))), (3, .val g43), (4, .val g92), (5, .val g100), (47, eL e_T_Trait 2 b0.fTraits), (48, .val (.int .i64 (b0.fTraits.length : Int))), (49, .val (.int .i64 (i101 : Int))), (50, .val (.bool (decide ((i101 : Int) < (b0.fTraits.length : Int)))))]) (is := [1, 3, 4, 5, 47, 48, 49, 50]) (R' := [.cells g3 29 (lf_T_Program b0), .row g43 9 1 (b42.map eS), .row g92 9 1 (b91.map eS), .row g100 9 1 (x99.map eS)]) (js := [0, 0, 0, 0]) rfl rfl ?_
      refine G.next_ hK109 ?_
      refine G.seq fun K110 hK111 => ?_
      refine G.no rfl (rng_end hd104) ?_
      refine G.exit ?_
      refine G.thn_exit ?_
      refine G.thn_exit ?_
      refine G.inB_eq ?_
      refine G.norm (L' := [(1, .val (.pointer (some ⟨g3, 0, none⟩))), (3, .val g43), (4, .val g92), (5, .val g100)]) (is := [1, 3, 4, 5]) (R' := [.cells g3 29 (lf_T_Program b0), .row g43 9 1 (b42.map eS), .row g92 9 1 (b91.map eS), .row g100 9 1 (x99.map eS)]) (js := [0, 0, 0, 0]) rfl rfl ?_
      exact G.finE fun hb a w hA => by subst hb; exact ⟨_, hA⟩
     ·rw [scope_doubled.l3_cons] at hl107
      refine G.use hl107 hA ?_
      refine G.seq fun K112 hK113 => ?_
      refine G.region ?_
      refine G.p rfl (V.bin (u := .int .i64 (i101 : Int)) (v := .int .i64 (b0.fTraits.length : Int)) (r := .bool (decide ((i101 : Int) < (b0.fTraits.length : Int)))) rfl rfl b_lss) ?_
      refine G.nil ?_
      refine G.norm (L' := [(1, .val (.pointer (some ⟨g3, 0, none⟩))), (3, .val g43), (4, .val g92), (5, .val g100), (47, eL e_T_Trait 2 b0.fTraits), (48, .val (.int .i64 (b0.fTraits.length : Int))), (49, .val (.int .i64 (i101 : Int))), (50, .val (.bool (decide ((i101 : Int) < (b0.fTraits.length : Int)))))]) (is := [1, 3, 4, 5, 47, 48, 49, 50]) (R' := [.cells g3 29 (lf_T_Program b0), .row g43 9 1 (b42.map eS), .row g92 9 1 (b91.map eS), .row g100 9 1 (x99.map eS)]) (js := [0, 0, 0, 0]) rfl rfl ?_
      refine G.next_ hK113 ?_
      refine G.seq fun K114 hK115 => ?_
      refine G.yes rfl (rng_more hd104) ?_
      refine G.skip ?_
      refine G.next_ hK115 ?_
      refine G.seq fun K116 hK117 => ?_
      refine G.block ?_
      refine G.seq fun K118 hK119 => ?_
      refine G.region ?_
      refine G.p rfl (V.at_sl (k := i101) rfl rfl Try.runUnderlying24 Try.sizeOf55 (map_at (rng_at hd104))) ?_
      refine G.q rfl (V.load_ptrN (ds := [.val (bs y102.fName), eL e_T_Func 15 y102.fFuncs]) rfl (e_T_Trait_eq y102) Try.isAgg55 Try.sizeOf55 rfl) ?_
      refine G.op rfl (O.alloc (ds := [.val (bs ([] : Str)), .val (.slice none 0 0)]) Try.zeroValue55 rfl) fun g120 => ?_
      refine G.opn (O.store (i := 0) (o := 0) (ds := [.val (bs ([] : Str)), .val (.slice none 0 0)]) rfl (.of rfl) rfl (OneC.agg (List.forall_mem_cons.2 ⟨(.val rfl), (List.forall_mem_cons.2 ⟨.sl, (List.forall_mem_nil _)⟩)⟩)) Try.sizeOf55 rfl rfl) fun _ => ?_
      refine G.nil ?_
      refine G.norm (L' := [(1, .val (.pointer (some ⟨g3, 0, none⟩))), (3, .val g43), (4, .val g92), (5, .val g100), (11, .val (.pointer (some ⟨g120, 0, none⟩))), (47, eL e_T_Trait 2 b0.fTraits), (48, .val (.int .i64 (b0.fTraits.length : Int))), (49, .val (.int .i64 (i101 : Int)))]) (is := [1, 3, 4, 5, 11, 47, 48, 49]) (R' := [.cells g120 55 [.val (bs y102.fName), eL e_T_Func 15 y102.fFuncs], .cells g3 29 (lf_T_Program b0), .row g43 9 1 (b42.map eS), .row g92 9 1 (b91.map eS), .row g100 9 1 (x99.map eS)]) (js := [0, 0, 0, 0, 0]) rfl rfl ?_
      refine G.next_ hK119 ?_
      refine G.region ?_
      refine G.p rfl (V.move rfl) ?_
      refine G.p rfl (V.fieldAddr (o' := 0) rfl Try.runUnderlying55 rfl Try.sizeOf9 rfl) ?_
      refine G.q rfl (V.load_cell (i := 0) (ds := [.val (bs y102.fName), eL e_T_Func 15 y102.fFuncs]) (d := .val (bs y102.fName)) rfl rfl Try.isAgg9 rfl rfl) ?_
      refine G.op rfl (O.buildSlice (xs := [.tmp 55]) (ds := ([y102.fName] : List Str).map eS) elt30 rfl (.cons (.of rfl) .nil) rfl (by decide) (List.forall_mem_cons.2 ⟨(fun c hc => ((fun _ => one_S) _ c hc).mono), (List.forall_mem_nil _)⟩) (List.forall_mem_cons.2 ⟨rfl, (List.forall_mem_nil _)⟩)) fun v121 => ?_
      refine G.bind fun l122 hl123 => ?_
      refine G.op rfl (O.append_row (i := 5) (j := 0) (enc := eS) (xs := x99) (ys := ([y102.fName] : List Str)) (lim := 8796093022208) elt30 rfl rfl rfl rfl (by decide) (by decide) (fun _ => one_S) hl123) fun v124 => ?_
      refine G.p rfl (V.assign rfl) ?_
      refine G.nil ?_
      refine G.norm (L' := [(1, .val (.pointer (some ⟨g3, 0, none⟩))), (3, .val g43), (4, .val g92), (5, .val v124), (47, eL e_T_Trait 2 b0.fTraits), (48, .val (.int .i64 (b0.fTraits.length : Int))), (49, .val (.int .i64 (i101 : Int)))]) (is := [1, 3, 4, 5, 47, 48, 49]) (R' := [.cells g3 29 (lf_T_Program b0), .row g43 9 1 (b42.map eS), .row g92 9 1 (b91.map eS), .row v124 9 1 (l122.map eS)]) (js := [2, 2, 2, 2]) rfl rfl ?_
      refine G.inB ?_
      refine G.next_ hK117 ?_
      refine G.region ?_
      refine G.p rfl (V.incr (i := i101) (N := b0.fTraits.length) rfl rfl (rng_lt hd104) (hN98)) ?_
      refine G.p rfl (V.move rfl) ?_
      refine G.nil ?_
      refine G.norm (L' := [(1, .val (.pointer (some ⟨g3, 0, none⟩))), (3, .val g43), (4, .val g92), (5, .val v124), (47, eL e_T_Trait 2 b0.fTraits), (48, .val (.int .i64 (b0.fTraits.length : Int))), (49, .val (.int .i64 ((i101 + 1 : Nat) : Int)))]) (is := [1, 3, 4, 5, 47, 48, 49]) (R' := [.cells g3 29 (lf_T_Program b0), .row g43 9 1 (b42.map eS), .row g92 9 1 (b91.map eS), .row v124 9 1 (l122.map eS)]) (js := [0, 0, 0, 0]) rfl rfl ?_
      refine G.again ?_
      intro hl125 a w hA
      exact ⟨_, Nat.lt_succ_self _, rest103, i101 + 1, l122, rfl, hl125, rng_next hd104, ⟨_, hA⟩⟩
   ·rintro b127 hb a w ⟨g128, hA⟩ hF129
    refine G.use hF129 hA ?_
    refine G.next_ hK95 ?_
    refine G.seq fun K130 hK131 => ?_
    refine G.region ?_
    refine G.p rfl (V.move rfl) ?_
    refine G.norm (L' := [(1, .val (.pointer (some ⟨g3, 0, none⟩))), (3, .val g43), (4, .val g92), (5, .val g128), (59, .val g43)]) (is := [1, 3, 4, 5, 59]) (R' := [.cells g3 29 (lf_T_Program b0), .row g43 9 1 (b42.map eS), .row g92 9 1 (b91.map eS), .row g128 9 1 (b127.map eS)]) (js := [0, 0, 0, 0]) rfl rfl ?_
    refine G.freeze 1 (L' := [(1, .val (.pointer (some ⟨g3, 0, none⟩))), (3, eL eS 1 b42), (4, .val g92), (5, .val g128), (59, eL eS 1 b42)]) (R' := [.cells g3 29 (lf_T_Program b0), .row g92 9 1 (b91.map eS), .row g128 9 1 (b127.map eS)]) rfl (fun S w h => .cons .refl (.cons (.fz h) (.cons .refl (.cons .refl (.cons (.fz h) .nil))))) (fun S w h => .same (.same (.same .nil))) ?_
    refine G.bind fun r132 hr133 => ?_
    refine G.op rfl (O.call (xs := [.tmp 59]) (is := []) (Rp := []) (Rr := [.cells g3 29 (lf_T_Program b0), .row g92 9 1 (b91.map eS), .row g128 9 1 (b127.map eS)]) (scope_Twice_ok hr133) (.cons (.of rfl) .nil) Try.call16 rfl) fun x134 => ?_
    refine G.p rfl (V.move rfl) ?_
    refine G.norm (L' := [(1, .val (.pointer (some ⟨g3, 0, none⟩))), (3, eL eS 1 b42), (4, .val g92), (5, .val g128), (59, eL eS 1 b42), (60, .val (.bool r132)), (61, .val (.bool r132))]) (is := [1, 3, 4, 5, 59, 60, 61]) (R' := [.cells g3 29 (lf_T_Program b0), .row g92 9 1 (b91.map eS), .row g128 9 1 (b127.map eS)]) (js := [0, 0, 0]) rfl rfl ?_
    refine G.freeze 1 (L' := [(1, .val (.pointer (some ⟨g3, 0, none⟩))), (3, eL eS 1 b42), (4, eL eS 1 b91), (5, .val g128), (59, eL eS 1 b42), (60, .val (.bool r132)), (61, .val (.bool r132))]) (R' := [.cells g3 29 (lf_T_Program b0), .row g128 9 1 (b127.map eS)]) rfl (fun S w h => .cons .refl (.cons .refl (.cons (.fz h) (.cons .refl (.cons .refl (.cons .refl (.cons .refl .nil))))))) (fun S w h => .same (.same .nil)) ?_
    refine G.part 3 (fun b a w => Ass Gl B 84 [(1, .val (.pointer (some ⟨g3, 0, none⟩))), (3, eL eS 1 b42), (4, eL eS 1 b91), (5, .val g128), (59, eL eS 1 b42), (60, .val (.bool r132)), (61, .val (.bool r132)), (64, .val (.bool b))] [.cells g3 29 (lf_T_Program b0), .row g128 9 1 (b127.map eS)] a w) ?_ ?_
    ·intro b
     refine G.ifb (fun hc135 => ?_) (fun hc135 => ?_)
     ·refine G.skip_s rfl rfl hc135 rfl ?_
      refine G.skip_s rfl rfl hc135 rfl ?_
      refine G.p rfl (V.pick_yes (dv := .val (.bool true)) rfl hc135 rfl) ?_
      refine G.nil ?_
      refine G.norm (L' := [(1, .val (.pointer (some ⟨g3, 0, none⟩))), (3, eL eS 1 b42), (4, eL eS 1 b91), (5, .val g128), (59, eL eS 1 b42), (60, .val (.bool r132)), (61, .val (.bool r132)), (64, .val (.bool true))]) (is := [1, 3, 4, 5, 59, 60, 61, 64]) (R' := [.cells g3 29 (lf_T_Program b0), .row g128 9 1 (b127.map eS)]) (js := [0, 0]) rfl rfl ?_
      exact G.finE fun hb a w hA => by subst hb; exact hA
     ·refine G.guard_yes rfl rfl hc135 ?_
      refine G.p rfl (V.move rfl) ?_
      refine G.guard_yes rfl rfl hc135 ?_
      refine G.bind fun r138 hr139 => ?_
      refine G.op rfl (O.call (xs := [.tmp 62]) (is := []) (Rp := []) (Rr := [.cells g3 29 (lf_T_Program b0), .row g128 9 1 (b127.map eS)]) (scope_Twice_ok hr139) (.cons (.of rfl) .nil) Try.call16 rfl) fun x140 => ?_
      refine G.p rfl (V.pick_no (dv := .val (.bool r138)) rfl hc135 rfl) ?_
      refine G.nil ?_
      refine G.norm (L' := [(1, .val (.pointer (some ⟨g3, 0, none⟩))), (3, eL eS 1 b42), (4, eL eS 1 b91), (5, .val g128), (59, eL eS 1 b42), (60, .val (.bool r132)), (61, .val (.bool r132)), (64, .val (.bool r138))]) (is := [1, 3, 4, 5, 59, 60, 61, 64]) (R' := [.cells g3 29 (lf_T_Program b0), .row g128 9 1 (b127.map eS)]) (js := [0, 0]) rfl rfl ?_
      exact G.finE fun hb a w hA => by subst hb; exact hA
    ·rintro t136 hb a w hA hF
     refine G.use hF hA ?_
     refine G.p rfl (V.move rfl) ?_
     refine G.norm (L' := [(1, .val (.pointer (some ⟨g3, 0, none⟩))), (3, eL eS 1 b42), (4, eL eS 1 b91), (5, .val g128), (59, eL eS 1 b42), (60, .val (.bool r132)), (61, .val (.bool r132)), (64, .val (.bool t136)), (65, .val (.bool t136))]) (is := [1, 3, 4, 5, 59, 60, 61, 64, 65]) (R' := [.cells g3 29 (lf_T_Program b0), .row g128 9 1 (b127.map eS)]) (js := [0, 0]) rfl rfl ?_
     refine G.freeze 1 (L' := [(1, .val (.pointer (some ⟨g3, 0, none⟩))), (3, eL eS 1 b42), (4, eL eS 1 b91), (5, eL eS 1 b127), (59, eL eS 1 b42), (60, .val (.bool r132)), (61, .val (.bool r132)), (64, .val (.bool t136)), (65, .val (.bool t136))]) (R' := [.cells g3 29 (lf_T_Program b0)]) rfl (fun S w h => .cons .refl (.cons .refl (.cons .refl (.cons (.fz h) (.cons .refl (.cons .refl (.cons .refl (.cons .refl (.cons .refl .nil))))))))) (fun S w h => .same .nil) ?_
     refine G.part 3 (fun b a w => Ass Gl B 84 [(1, .val (.pointer (some ⟨g3, 0, none⟩))), (3, eL eS 1 b42), (4, eL eS 1 b91), (5, eL eS 1 b127), (59, eL eS 1 b42), (60, .val (.bool r132)), (61, .val (.bool r132)), (64, .val (.bool t136)), (65, .val (.bool t136)), (68, .val (.bool b))] [.cells g3 29 (lf_T_Program b0)] a w) ?_ ?_
     ·intro b
      refine G.ifb (fun hc141 => ?_) (fun hc141 => ?_)
      ·refine G.skip_s rfl rfl hc141 rfl ?_
       refine G.skip_s rfl rfl hc141 rfl ?_
       refine G.p rfl (V.pick_yes (dv := .val (.bool true)) rfl hc141 rfl) ?_
       refine G.nil ?_
       refine G.norm (L' := [(1, .val (.pointer (some ⟨g3, 0, none⟩))), (3, eL eS 1 b42), (4, eL eS 1 b91), (5, eL eS 1 b127), (59, eL eS 1 b42), (60, .val (.bool r132)), (61, .val (.bool r132)), (64, .val (.bool t136)), (65, .val (.bool t136)), (68, .val (.bool true))]) (is := [1, 3, 4, 5, 59, 60, 61, 64, 65, 68]) (R' := [.cells g3 29 (lf_T_Program b0)]) (js := [0]) rfl rfl ?_
       exact G.finE fun hb a w hA => by subst hb; exact hA
      ·refine G.guard_yes rfl rfl hc141 ?_
       refine G.p rfl (V.move rfl) ?_
       refine G.guard_yes rfl rfl hc141 ?_
       refine G.bind fun r144 hr145 => ?_
       refine G.op rfl (O.call (xs := [.tmp 66]) (is := []) (Rp := []) (Rr := [.cells g3 29 (lf_T_Program b0)]) (scope_Twice_ok hr145) (.cons (.of rfl) .nil) Try.call16 rfl) fun x146 => ?_
       refine G.p rfl (V.pick_no (dv := .val (.bool r144)) rfl hc141 rfl) ?_
       refine G.nil ?_
       refine G.norm (L' := [(1, .val (.pointer (some ⟨g3, 0, none⟩))), (3, eL eS 1 b42), (4, eL eS 1 b91), (5, eL eS 1 b127), (59, eL eS 1 b42), (60, .val (.bool r132)), (61, .val (.bool r132)), (64, .val (.bool t136)), (65, .val (.bool t136)), (68, .val (.bool r144))]) (is := [1, 3, 4, 5, 59, 60, 61, 64, 65, 68]) (R' := [.cells g3 29 (lf_T_Program b0)]) (js := [0]) rfl rfl ?_
       exact G.finE fun hb a w hA => by subst hb; exact hA
     ·rintro t142 hb a w hA hF
      refine G.use hF hA ?_
      refine G.p rfl (V.move rfl) ?_
      refine G.part 4 (fun b a w => Ass Gl B 84 [(1, .val (.pointer (some ⟨g3, 0, none⟩))), (3, eL eS 1 b42), (4, eL eS 1 b91), (5, eL eS 1 b127), (59, eL eS 1 b42), (60, .val (.bool r132)), (61, .val (.bool r132)), (64, .val (.bool t136)), (65, .val (.bool t136)), (68, .val (.bool t142)), (69, .val (.bool t142)), (73, .val (.bool b))] [.cells g3 29 (lf_T_Program b0)] a w) ?_ ?_
      ·intro b
       refine G.ifb (fun hc147 => ?_) (fun hc147 => ?_)
       ·refine G.skip_s rfl rfl hc147 rfl ?_
        refine G.skip_s rfl rfl hc147 rfl ?_
        refine G.skip_s rfl rfl hc147 rfl ?_
        refine G.p rfl (V.pick_yes (dv := .val (.bool true)) rfl hc147 rfl) ?_
        refine G.nil ?_
        refine G.norm (L' := [(1, .val (.pointer (some ⟨g3, 0, none⟩))), (3, eL eS 1 b42), (4, eL eS 1 b91), (5, eL eS 1 b127), (59, eL eS 1 b42), (60, .val (.bool r132)), (61, .val (.bool r132)), (64, .val (.bool t136)), (65, .val (.bool t136)), (68, .val (.bool t142)), (69, .val (.bool t142)), (73, .val (.bool true))]) (is := [1, 3, 4, 5, 59, 60, 61, 64, 65, 68, 69, 73]) (R' := [.cells g3 29 (lf_T_Program b0)]) (js := [0]) rfl rfl ?_
        exact G.finE fun hb a w hA => by subst hb; exact hA
       ·refine G.guard_yes rfl rfl hc147 ?_
        refine G.q rfl (V.load_cellN (i := 0) (ds := (lf_T_Program b0)) (c1 := (lf_T_Program b0)) rfl rfl Try.isAgg29 Try.sizeOf29 rfl rfl rfl) ?_
        refine G.guard_yes rfl rfl hc147 ?_
        refine G.bind fun r150 hr151 => ?_
        refine G.op rfl (O.call (xs := [.tmp 70]) (is := []) (Rp := []) (Rr := [.cells g3 29 (lf_T_Program b0)]) (scope_Makers_ok hr151) (.cons (.of rfl) .nil) Try.call9 rfl) fun x152 => ?_
        refine G.guard_yes rfl rfl hc147 ?_
        refine G.norm (L' := [(1, .val (.pointer (some ⟨g3, 0, none⟩))), (3, eL eS 1 b42), (4, eL eS 1 b91), (5, eL eS 1 b127), (59, eL eS 1 b42), (60, .val (.bool r132)), (61, .val (.bool r132)), (64, .val (.bool t136)), (65, .val (.bool t136)), (68, .val (.bool t142)), (69, .val (.bool t142)), (70, .agg (lf_T_Program b0)), (71, .val x152)]) (is := [1, 3, 4, 5, 59, 60, 61, 64, 65, 68, 69, 70, 71]) (R' := [.row x152 9 1 (r150.map eS), .cells g3 29 (lf_T_Program b0)]) (js := [0, 0]) rfl rfl ?_
        refine G.freeze 0 (L' := [(1, .val (.pointer (some ⟨g3, 0, none⟩))), (3, eL eS 1 b42), (4, eL eS 1 b91), (5, eL eS 1 b127), (59, eL eS 1 b42), (60, .val (.bool r132)), (61, .val (.bool r132)), (64, .val (.bool t136)), (65, .val (.bool t136)), (68, .val (.bool t142)), (69, .val (.bool t142)), (70, .agg (lf_T_Program b0)), (71, eL eS 1 r150)]) (R' := [.cells g3 29 (lf_T_Program b0)]) rfl (fun S w h => .cons .refl (.cons .refl (.cons .refl (.cons .refl (.cons .refl (.cons .refl (.cons .refl (.cons .refl (.cons .refl (.cons .refl (.cons .refl (.cons .refl (.cons (.fz h) .nil))))))))))))) (fun S w h => .same .nil) ?_
        refine G.bind fun r153 hr154 => ?_
        refine G.op rfl (O.call (xs := [.tmp 71]) (is := []) (Rp := []) (Rr := [.cells g3 29 (lf_T_Program b0)]) (scope_Twice_ok hr154) (.cons (.of rfl) .nil) Try.call16 rfl) fun x155 => ?_
        refine G.p rfl (V.pick_no (dv := .val (.bool r153)) rfl hc147 rfl) ?_
        refine G.nil ?_
        refine G.norm (L' := [(1, .val (.pointer (some ⟨g3, 0, none⟩))), (3, eL eS 1 b42), (4, eL eS 1 b91), (5, eL eS 1 b127), (59, eL eS 1 b42), (60, .val (.bool r132)), (61, .val (.bool r132)), (64, .val (.bool t136)), (65, .val (.bool t136)), (68, .val (.bool t142)), (69, .val (.bool t142)), (73, .val (.bool r153))]) (is := [1, 3, 4, 5, 59, 60, 61, 64, 65, 68, 69, 73]) (R' := [.cells g3 29 (lf_T_Program b0)]) (js := [0]) rfl rfl ?_
        exact G.finE fun hb a w hA => by subst hb; exact hA
      ·rintro t148 hb a w hA hF
       refine G.use hF hA ?_
       refine G.p rfl (V.move rfl) ?_
       refine G.part 4 (fun b a w => Ass Gl B 84 [(1, .val (.pointer (some ⟨g3, 0, none⟩))), (3, eL eS 1 b42), (4, eL eS 1 b91), (5, eL eS 1 b127), (59, eL eS 1 b42), (60, .val (.bool r132)), (61, .val (.bool r132)), (64, .val (.bool t136)), (65, .val (.bool t136)), (68, .val (.bool t142)), (69, .val (.bool t142)), (73, .val (.bool t148)), (74, .val (.bool t148)), (78, .val (.bool b))] [.cells g3 29 (lf_T_Program b0)] a w) ?_ ?_
       ·intro b
        refine G.ifb (fun hc156 => ?_) (fun hc156 => ?_)
        ·refine G.skip_s rfl rfl hc156 rfl ?_
         refine G.skip_s rfl rfl hc156 rfl ?_
         refine G.skip_s rfl rfl hc156 rfl ?_
         refine G.p rfl (V.pick_yes (dv := .val (.bool true)) rfl hc156 rfl) ?_
         refine G.nil ?_
         refine G.norm (L' := [(1, .val (.pointer (some ⟨g3, 0, none⟩))), (3, eL eS 1 b42), (4, eL eS 1 b91), (5, eL eS 1 b127), (59, eL eS 1 b42), (60, .val (.bool r132)), (61, .val (.bool r132)), (64, .val (.bool t136)), (65, .val (.bool t136)), (68, .val (.bool t142)), (69, .val (.bool t142)), (73, .val (.bool t148)), (74, .val (.bool t148)), (78, .val (.bool true))]) (is := [1, 3, 4, 5, 59, 60, 61, 64, 65, 68, 69, 73, 74, 78]) (R' := [.cells g3 29 (lf_T_Program b0)]) (js := [0]) rfl rfl ?_
         exact G.finE fun hb a w hA => by subst hb; exact hA
        ·refine G.guard_yes rfl rfl hc156 ?_
         refine G.q rfl (V.load_cellN (i := 0) (ds := (lf_T_Program b0)) (c1 := (lf_T_Program b0)) rfl rfl Try.isAgg29 Try.sizeOf29 rfl rfl rfl) ?_
         refine G.guard_yes rfl rfl hc156 ?_
         refine G.bind fun r159 hr160 => ?_
         refine G.op rfl (O.call (xs := [.tmp 75]) (is := []) (Rp := []) (Rr := [.cells g3 29 (lf_T_Program b0)]) (scope_Callable_ok hr160) (.cons (.of rfl) .nil) Try.call10 rfl) fun x161 => ?_
         refine G.guard_yes rfl rfl hc156 ?_
         refine G.norm (L' := [(1, .val (.pointer (some ⟨g3, 0, none⟩))), (3, eL eS 1 b42), (4, eL eS 1 b91), (5, eL eS 1 b127), (59, eL eS 1 b42), (60, .val (.bool r132)), (61, .val (.bool r132)), (64, .val (.bool t136)), (65, .val (.bool t136)), (68, .val (.bool t142)), (69, .val (.bool t142)), (73, .val (.bool t148)), (74, .val (.bool t148)), (75, .agg (lf_T_Program b0)), (76, .val x161)]) (is := [1, 3, 4, 5, 59, 60, 61, 64, 65, 68, 69, 73, 74, 75, 76]) (R' := [.row x161 9 1 (r159.map eS), .cells g3 29 (lf_T_Program b0)]) (js := [0, 0]) rfl rfl ?_
         refine G.freeze 0 (L' := [(1, .val (.pointer (some ⟨g3, 0, none⟩))), (3, eL eS 1 b42), (4, eL eS 1 b91), (5, eL eS 1 b127), (59, eL eS 1 b42), (60, .val (.bool r132)), (61, .val (.bool r132)), (64, .val (.bool t136)), (65, .val (.bool t136)), (68, .val (.bool t142)), (69, .val (.bool t142)), (73, .val (.bool t148)), (74, .val (.bool t148)), (75, .agg (lf_T_Program b0)), (76, eL eS 1 r159)]) (R' := [.cells g3 29 (lf_T_Program b0)]) rfl (fun S w h => .cons .refl (.cons .refl (.cons .refl (.cons .refl (.cons .refl (.cons .refl (.cons .refl (.cons .refl (.cons .refl (.cons .refl (.cons .refl (.cons .refl (.cons .refl (.cons .refl (.cons (.fz h) .nil))))))))))))))) (fun S w h => .same .nil) ?_
         refine G.bind fun r162 hr163 => ?_
         refine G.op rfl (O.call (xs := [.tmp 76]) (is := []) (Rp := []) (Rr := [.cells g3 29 (lf_T_Program b0)]) (scope_Twice_ok hr163) (.cons (.of rfl) .nil) Try.call16 rfl) fun x164 => ?_
         refine G.p rfl (V.pick_no (dv := .val (.bool r162)) rfl hc156 rfl) ?_
         refine G.nil ?_
         refine G.norm (L' := [(1, .val (.pointer (some ⟨g3, 0, none⟩))), (3, eL eS 1 b42), (4, eL eS 1 b91), (5, eL eS 1 b127), (59, eL eS 1 b42), (60, .val (.bool r132)), (61, .val (.bool r132)), (64, .val (.bool t136)), (65, .val (.bool t136)), (68, .val (.bool t142)), (69, .val (.bool t142)), (73, .val (.bool t148)), (74, .val (.bool t148)), (78, .val (.bool r162))]) (is := [1, 3, 4, 5, 59, 60, 61, 64, 65, 68, 69, 73, 74, 78]) (R' := [.cells g3 29 (lf_T_Program b0)]) (js := [0]) rfl rfl ?_
         exact G.finE fun hb a w hA => by subst hb; exact hA
       ·rintro t157 hb a w hA hF
        refine G.use hF hA ?_
        refine G.p rfl (V.move rfl) ?_
        refine G.part 4 (fun b a w => Ass Gl B 84 [(1, .val (.pointer (some ⟨g3, 0, none⟩))), (3, eL eS 1 b42), (4, eL eS 1 b91), (5, eL eS 1 b127), (59, eL eS 1 b42), (60, .val (.bool r132)), (61, .val (.bool r132)), (64, .val (.bool t136)), (65, .val (.bool t136)), (68, .val (.bool t142)), (69, .val (.bool t142)), (73, .val (.bool t148)), (74, .val (.bool t148)), (78, .val (.bool t157)), (79, .val (.bool t157)), (83, .val (.bool b))] [.cells g3 29 (lf_T_Program b0)] a w) ?_ ?_
        ·intro b
         refine G.ifb (fun hc165 => ?_) (fun hc165 => ?_)
         ·refine G.skip_s rfl rfl hc165 rfl ?_
          refine G.skip_s rfl rfl hc165 rfl ?_
          refine G.skip_s rfl rfl hc165 rfl ?_
          refine G.p rfl (V.pick_yes (dv := .val (.bool true)) rfl hc165 rfl) ?_
          refine G.nil ?_
          refine G.norm (L' := [(1, .val (.pointer (some ⟨g3, 0, none⟩))), (3, eL eS 1 b42), (4, eL eS 1 b91), (5, eL eS 1 b127), (59, eL eS 1 b42), (60, .val (.bool r132)), (61, .val (.bool r132)), (64, .val (.bool t136)), (65, .val (.bool t136)), (68, .val (.bool t142)), (69, .val (.bool t142)), (73, .val (.bool t148)), (74, .val (.bool t148)), (78, .val (.bool t157)), (79, .val (.bool t157)), (83, .val (.bool true))]) (is := [1, 3, 4, 5, 59, 60, 61, 64, 65, 68, 69, 73, 74, 78, 79, 83]) (R' := [.cells g3 29 (lf_T_Program b0)]) (js := [0]) rfl rfl ?_
          exact G.finE fun hb a w hA => by subst hb; exact hA
         ·refine G.guard_yes rfl rfl hc165 ?_
          refine G.q rfl (V.load_cellN (i := 0) (ds := (lf_T_Program b0)) (c1 := (lf_T_Program b0)) rfl rfl Try.isAgg29 Try.sizeOf29 rfl rfl rfl) ?_
          refine G.guard_yes rfl rfl hc165 ?_
          refine G.bind fun r168 hr169 => ?_
          refine G.op rfl (O.call (xs := [.tmp 80]) (is := []) (Rp := []) (Rr := [.cells g3 29 (lf_T_Program b0)]) (scope_Actors_ok hr169) (.cons (.of rfl) .nil) Try.call11 rfl) fun x170 => ?_
          refine G.guard_yes rfl rfl hc165 ?_
          refine G.norm (L' := [(1, .val (.pointer (some ⟨g3, 0, none⟩))), (3, eL eS 1 b42), (4, eL eS 1 b91), (5, eL eS 1 b127), (59, eL eS 1 b42), (60, .val (.bool r132)), (61, .val (.bool r132)), (64, .val (.bool t136)), (65, .val (.bool t136)), (68, .val (.bool t142)), (69, .val (.bool t142)), (73, .val (.bool t148)), (74, .val (.bool t148)), (78, .val (.bool t157)), (79, .val (.bool t157)), (80, .agg (lf_T_Program b0)), (81, .val x170)]) (is := [1, 3, 4, 5, 59, 60, 61, 64, 65, 68, 69, 73, 74, 78, 79, 80, 81]) (R' := [.row x170 9 1 (r168.map eS), .cells g3 29 (lf_T_Program b0)]) (js := [0, 0]) rfl rfl ?_
          refine G.freeze 0 (L' := [(1, .val (.pointer (some ⟨g3, 0, none⟩))), (3, eL eS 1 b42), (4, eL eS 1 b91), (5, eL eS 1 b127), (59, eL eS 1 b42), (60, .val (.bool r132)), (61, .val (.bool r132)), (64, .val (.bool t136)), (65, .val (.bool t136)), (68, .val (.bool t142)), (69, .val (.bool t142)), (73, .val (.bool t148)), (74, .val (.bool t148)), (78, .val (.bool t157)), (79, .val (.bool t157)), (80, .agg (lf_T_Program b0)), (81, eL eS 1 r168)]) (R' := [.cells g3 29 (lf_T_Program b0)]) rfl (fun S w h => .cons .refl (.cons .refl (.cons .refl (.cons .refl (.cons .refl (.cons .refl (.cons .refl (.cons .refl (.cons .refl (.cons .refl (.cons .refl (.cons .refl (.cons .refl (.cons .refl (.cons .refl (.cons .refl (.cons (.fz h) .nil))))))))))))))))) (fun S w h => .same .nil) ?_
          refine G.bind fun r171 hr172 => ?_
          refine G.op rfl (O.call (xs := [.tmp 81]) (is := []) (Rp := []) (Rr := [.cells g3 29 (lf_T_Program b0)]) (scope_Twice_ok hr172) (.cons (.of rfl) .nil) Try.call16 rfl) fun x173 => ?_
          refine G.p rfl (V.pick_no (dv := .val (.bool r171)) rfl hc165 rfl) ?_
          refine G.nil ?_
          refine G.norm (L' := [(1, .val (.pointer (some ⟨g3, 0, none⟩))), (3, eL eS 1 b42), (4, eL eS 1 b91), (5, eL eS 1 b127), (59, eL eS 1 b42), (60, .val (.bool r132)), (61, .val (.bool r132)), (64, .val (.bool t136)), (65, .val (.bool t136)), (68, .val (.bool t142)), (69, .val (.bool t142)), (73, .val (.bool t148)), (74, .val (.bool t148)), (78, .val (.bool t157)), (79, .val (.bool t157)), (83, .val (.bool r171))]) (is := [1, 3, 4, 5, 59, 60, 61, 64, 65, 68, 69, 73, 74, 78, 79, 83]) (R' := [.cells g3 29 (lf_T_Program b0)]) (js := [0]) rfl rfl ?_
          exact G.finE fun hb a w hA => by subst hb; exact hA
        ·rintro t166 hb a w hA hF
         refine G.use hF hA ?_
         refine G.p rfl (V.assign rfl) ?_
         refine G.nil ?_
         refine G.norm (L' := [(2, .val (.bool t166))]) (is := [2]) (R' := []) (js := []) rfl rfl ?_
         refine G.next_ hK131 ?_
         refine G.ret ?_
         refine G.fin_ fun hF174 => ?_
         obtain rfl := Option.some.inj hF174
         exact G.ret1 Try.results18 () (is := []) (.of rfl) rfl
/-! roadstead/scope.set -/
def scope_set.l1  : List (Str) → (List (Str × Bool)) → Option (List (Str × Bool))
  | [], x11 => some x11
  | y13 :: rest14, x11 => scope_set.l1 rest14 (mput x11 y13 true)

theorem scope_set.l1_nil  {x11 : List (Str × Bool)} : scope_set.l1  [] x11 = some x11 := rfl
theorem scope_set.l1_cons  {y13 : Str} {rest14 : List (Str)} {x11 : List (Str × Bool)} : scope_set.l1  (y13 :: rest14) x11 = scope_set.l1 rest14 (mput x11 y13 true) := rfl
def scope_set.Spec (F : (List Str) → Option (List (Str × Bool))) : Prop := ∀ {b0 : List Str} {out : List (Str × Bool)}, F b0 = some out → Ct Gl Try.prog 31 [eL eS 1 b0] [] (fun x : Nat => .val (.map (some x))) (fun x : Nat => [.map x (encM bs eB out)])
def scope_set (b0 : List Str) : Option (List (Str × Bool)) := (scope_set.l1 b0 ([] : List (Str × Bool))).bind fun b33 => some b33
set_option maxRecDepth 100000 in
theorem scope_set_ok : scope_set.Spec (scope_set) := by
 intro b0 out hp
 refine ct_of_G (nt := 17) Try.func31 rfl Try.ntmps31 rfl (fun B => ?_) hp
 unfold scope_set
 refine G.seq fun K1 hK2 => ?_
 refine G.region ?_
 refine G.p rfl (V.assign rfl) ?_
 refine G.nil ?_
 refine G.norm (L' := [(0, eL eS 1 b0)]) (is := [0]) (R' := []) (js := []) rfl rfl ?_
 refine G.next_ hK2 ?_
 refine G.seq fun K3 hK4 => ?_
 refine G.region ?_
 refine G.op rfl (O.makeMap (κ := Str) (ν := Bool) (kv := bs) (enc := eB)) fun g5 => ?_
 refine G.p rfl (V.assign rfl) ?_
 refine G.nil ?_
 refine G.norm (L' := [(0, eL eS 1 b0), (3, .val (.map (some g5)))]) (is := [0, 3]) (R' := [.map g5 (encM bs eB ([] : List (Str × Bool)))]) (js := [0]) rfl rfl ?_
 refine G.next_ hK4 ?_
 refine G.seq fun K6 hK7 => ?_
 refine G.seq fun K8 hK9 => ?_
 refine G.region ?_
 refine G.p rfl (V.move rfl) ?_
 refine G.lenb (enc := eS) (xs := b0) (sz := 1) (x := .tmp 7) (.of rfl) fun hN10 => ?_
 refine G.p rfl (V.len_sl (enc := eS) (xs := b0) (sz := 1) (.of rfl) Try.runUnderlying30) ?_
 refine G.p rfl (V.move rfl) ?_
 refine G.nil ?_
 refine G.norm (L' := [(3, .val (.map (some g5))), (7, eL eS 1 b0), (8, .val (.int .i64 (b0.length : Int))), (9, .val (.int .i64 0))]) (is := [3, 7, 8, 9]) (R' := [.map g5 (encM bs eB ([] : List (Str × Bool)))]) (js := [0]) rfl rfl ?_
 refine G.next_ hK9 ?_
 refine G.join (E := fun b a w => Ass Gl B 17 [(3, .val (.map (some g5)))] [.map g5 (encM bs eB b)] a w) ?_ ?_
 ·intro b hF17
  refine G.block ?_
  refine G.norm (L' := [(3, .val (.map (some g5))), (7, eL eS 1 b0), (8, .val (.int .i64 (b0.length : Int))), (9, .val (.int .i64 ((0 : Nat) : Int)))]) (is := [3, 7, 8, 9]) (R' := [.map g5 (encM bs eB ([] : List (Str × Bool)))]) (js := [0]) rfl rfl ?_
  refine G.loop (fun kq a w => ∃ (rest14 : List (Str)) (i12 : Nat) (x11 : List (Str × Bool)), kq = rest14.length ∧ scope_set.l1 rest14 x11 = some b ∧ b0.drop i12 = rest14 ∧ Ass Gl B 17 [(3, .val (.map (some g5))), (7, eL eS 1 b0), (8, .val (.int .i64 (b0.length : Int))), (9, .val (.int .i64 (i12 : Int)))] [.map g5 (encM bs eB x11)] a w) (b0.length) ?_ ?_
  ·intro hl32 a w hA
   exact ⟨b0, 0, ([] : List (Str × Bool)), rfl, hl32, rfl, hA⟩
  ·rintro _ a w ⟨rest14, i12, x11, rfl, hl18, hd15, hA⟩
   rcases rest14 with _ | ⟨y13, rest14⟩
   ·rw [scope_set.l1_nil] at hl18
    refine G.use hl18 hA ?_
    refine G.seq fun K19 hK20 => ?_
    refine G.region ?_
    refine G.p rfl (V.bin (u := .int .i64 (i12 : Int)) (v := .int .i64 (b0.length : Int)) (r := .bool (decide ((i12 : Int) < (b0.length : Int)))) rfl rfl b_lss) ?_
    refine G.nil ?_
    refine G.norm (L' := [(3, .val (.map (some g5))), (7, eL eS 1 b0), (8, .val (.int .i64 (b0.length : Int))), (9, .val (.int .i64 (i12 : Int))), (10, .val (.bool (decide ((i12 : Int) < (b0.length : Int)))))]) (is := [3, 7, 8, 9, 10]) (R' := [.map g5 (encM bs eB x11)]) (js := [0]) rfl rfl ?_
    refine G.next_ hK20 ?_
    refine G.seq fun K21 hK22 => ?_
    refine G.no rfl (rng_end hd15) ?_
    refine G.exit ?_
    refine G.thn_exit ?_
    refine G.thn_exit ?_
    refine G.inB_eq ?_
    refine G.norm (L' := [(3, .val (.map (some g5)))]) (is := [3]) (R' := [.map g5 (encM bs eB x11)]) (js := [0]) rfl rfl ?_
    exact G.finE fun hb a w hA => by subst hb; exact hA
   ·rw [scope_set.l1_cons] at hl18
    refine G.use hl18 hA ?_
    refine G.seq fun K23 hK24 => ?_
    refine G.region ?_
    refine G.p rfl (V.bin (u := .int .i64 (i12 : Int)) (v := .int .i64 (b0.length : Int)) (r := .bool (decide ((i12 : Int) < (b0.length : Int)))) rfl rfl b_lss) ?_
    refine G.nil ?_
    refine G.norm (L' := [(3, .val (.map (some g5))), (7, eL eS 1 b0), (8, .val (.int .i64 (b0.length : Int))), (9, .val (.int .i64 (i12 : Int))), (10, .val (.bool (decide ((i12 : Int) < (b0.length : Int)))))]) (is := [3, 7, 8, 9, 10]) (R' := [.map g5 (encM bs eB x11)]) (js := [0]) rfl rfl ?_
    refine G.next_ hK24 ?_
    refine G.seq fun K25 hK26 => ?_
    refine G.yes rfl (rng_more hd15) ?_
    refine G.skip ?_
    refine G.next_ hK26 ?_
    refine G.seq fun K27 hK28 => ?_
    refine G.block ?_
    refine G.seq fun K29 hK30 => ?_
    refine G.region ?_
    refine G.p rfl (V.at_sl (k := i12) rfl rfl Try.runUnderlying30 Try.sizeOf9 (map_at (rng_at hd15))) ?_
    refine G.q rfl (V.load_ptr (d := .val (bs y13)) rfl Try.isAgg9 rfl) ?_
    refine G.p rfl (V.assign rfl) ?_
    refine G.nil ?_
    refine G.norm (L' := [(3, .val (.map (some g5))), (5, .val (bs y13)), (7, eL eS 1 b0), (8, .val (.int .i64 (b0.length : Int))), (9, .val (.int .i64 (i12 : Int)))]) (is := [3, 5, 7, 8, 9]) (R' := [.map g5 (encM bs eB x11)]) (js := [0]) rfl rfl ?_
    refine G.next_ hK30 ?_
    refine G.region ?_
    refine G.p rfl (V.move rfl) ?_
    refine G.p rfl (V.move rfl) ?_
    refine G.opn (O.mapUpdate (k := y13) (u := true) (Keys.str Try.underlying9) Try.runUnderlying79 rfl rfl (.of rfl) (i := 0) rfl) fun _ => ?_
    refine G.nil ?_
    refine G.norm (L' := [(3, .val (.map (some g5))), (7, eL eS 1 b0), (8, .val (.int .i64 (b0.length : Int))), (9, .val (.int .i64 (i12 : Int)))]) (is := [3, 7, 8, 9]) (R' := [.map g5 (encM bs eB (mput x11 y13 true))]) (js := [0]) rfl rfl ?_
    refine G.inB ?_
    refine G.next_ hK28 ?_
    refine G.region ?_
    refine G.p rfl (V.incr (i := i12) (N := b0.length) rfl rfl (rng_lt hd15) (hN10)) ?_
    refine G.p rfl (V.move rfl) ?_
    refine G.nil ?_
    refine G.norm (L' := [(3, .val (.map (some g5))), (7, eL eS 1 b0), (8, .val (.int .i64 (b0.length : Int))), (9, .val (.int .i64 ((i12 + 1 : Nat) : Int)))]) (is := [3, 7, 8, 9]) (R' := [.map g5 (encM bs eB (mput x11 y13 true))]) (js := [0]) rfl rfl ?_
    refine G.again ?_
    intro hl31 a w hA
    exact ⟨_, Nat.lt_succ_self _, rest14, i12 + 1, (mput x11 y13 true), rfl, hl31, rng_next hd15, hA⟩
 ·rintro b33 hb a w hA hF34
  refine G.use hF34 hA ?_
  refine G.next_ hK7 ?_
  refine G.seq fun K35 hK36 => ?_
  refine G.region ?_
  refine G.p rfl (V.move rfl) ?_
  refine G.p rfl (V.assign rfl) ?_
  refine G.nil ?_
  refine G.norm (L' := [(2, .val (.map (some g5)))]) (is := [2]) (R' := [.map g5 (encM bs eB b33)]) (js := [0]) rfl rfl ?_
  refine G.next_ hK36 ?_
  refine G.ret ?_
  refine G.fin_ fun hF37 => ?_
  obtain rfl := Option.some.inj hF37
  exact G.ret1 Try.results31 g5 (is := [0]) (.of rfl) rfl
end Go.Proofs.Ythbgngdoihkodac.Hx
