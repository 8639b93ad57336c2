/- roadstead: ScopeSays. This text: ScO. Conditions: none beyond those that the statement itself names. -/
import Derived.Test.YthbgngdoihkodacHxP
import Derived.Test.YthbgngdoihkodacSc4
namespace Go.Proofs.Ythbgngdoihkodac.Hx
open Go Go.Proofs.Ythbgngdoihkodac.Hx Go.RowKit Go.Proofs
def T_Use.bk (x : T_Use) : Nat := (x.fName.length + 1) + (1) + (1) + 1
def T_Use.ok (x : T_Use) : Prop := (True) ∧ ((Lit.int .i64 x.fLow).wf = true) ∧ ((Lit.int .i64 x.fHigh).wf = true) ∧ True
theorem op_T_Use {B : (H : Type) → DataW H → Nat} (hB : Bulk B) (N : Nat) : OpensN Try.prog B N 70 3 e_T_Use T_Use.ok T_Use.bk :=
    OpensN.struct (T0 := Str × Int × Int × Unit) hB (fun y => T_Use.mk y.1 y.2.1 y.2.2.1) Try.underlying70 (by kernel_rfl) (fun n hn =>
      OpensF.cons (s := 1) (sz := 2) rfl (by kernel_rfl) (OpensN.str hB Try.underlying9) <|
      OpensF.cons (s := 1) (sz := 1) rfl (by kernel_rfl) (OpensN.int hB Try.underlying3) <|
      OpensF.cons (s := 1) (sz := 0) rfl (by kernel_rfl) (OpensN.int hB Try.underlying3) <| OpensF.nil) (fun y => by rw [c_T_Use]; rfl) (fun y h => ⟨h.1, h.2.1, h.2.2.1, trivial⟩) (fun y => by simp only [T_Use.bk]; omega)
mutual
def T_Type.bk : T_Type → Nat
  | .mk fKind fName fArgs => (1) + (fName.length + 1) + (bks_T_Type fArgs + 1) + 1
def bks_T_Type : List T_Type → Nat
  | [] => 0
  | x :: xs => x.bk + bks_T_Type xs
end
mutual
def T_Type.ok : T_Type → Prop
  | .mk fKind fName fArgs => ((Lit.int .i64 fKind).wf = true) ∧ (True) ∧ (oks_T_Type fArgs) ∧ True
def oks_T_Type : List T_Type → Prop
  | [] => True
  | x :: xs => x.ok ∧ oks_T_Type xs
end
theorem bks_T_Type_eq : ∀ xs : List T_Type, bks_T_Type xs = (xs.map T_Type.bk).sum
  | [] => rfl
  | x :: xs => by simp [bks_T_Type, bks_T_Type_eq xs]
theorem oks_T_Type_of : ∀ {xs : List T_Type}, (∀ x ∈ xs, x.ok) → oks_T_Type xs
  | [], _ => trivial
  | x :: xs, h => ⟨h x (by simp), oks_T_Type_of fun y hy => h y (by simp [hy])⟩
theorem op_T_Type {B : (H : Type) → DataW H → Nat} (hB : Bulk B) (N : Nat) : OpensN Try.prog B N 57 3 e_T_Type T_Type.ok T_Type.bk := by
  induction N using Nat.strongRecOn with
  | _ N ih =>
  exact OpensN.struct (T0 := Int × Str × (List T_Type) × Unit) hB (fun y => T_Type.mk y.1 y.2.1 y.2.2.1) Try.underlying57 (by kernel_rfl) (fun n hn =>
      OpensF.cons (s := 1) (sz := 2) rfl (by kernel_rfl) (OpensN.int hB Try.underlying3) <|
      OpensF.cons (s := 1) (sz := 1) rfl (by kernel_rfl) (OpensN.str hB Try.underlying9) <|
      OpensF.cons (s := 1) (sz := 0) rfl (by kernel_rfl) (OpensN.list hB Try.underlying44 (by kernel_rfl) (by decide) (fun n' hn' => (ih n' (by omega)))) <| OpensF.nil) (fun y => by rw [c_T_Type]; rfl) (fun y h => ⟨h.1, h.2.1, oks_T_Type_of h.2.2.1, trivial⟩) (fun y => by simp only [T_Type.bk, bks_T_Type_eq]; omega)
def T_Make.bk (x : T_Make) : Nat := (x.fName.length + 1) + ((x.fArgs.map T_Type.bk).sum + 1) + 1
def T_Make.ok (x : T_Make) : Prop := (True) ∧ (∀ z ∈ x.fArgs, z.ok) ∧ True
theorem op_T_Make {B : (H : Type) → DataW H → Nat} (hB : Bulk B) (N : Nat) : OpensN Try.prog B N 77 2 e_T_Make T_Make.ok T_Make.bk :=
    OpensN.struct (T0 := Str × (List T_Type) × Unit) hB (fun y => T_Make.mk y.1 y.2.1) Try.underlying77 (by kernel_rfl) (fun n hn =>
      OpensF.cons (s := 1) (sz := 1) rfl (by kernel_rfl) (OpensN.str hB Try.underlying9) <|
      OpensF.cons (s := 1) (sz := 0) rfl (by kernel_rfl) (OpensN.list hB Try.underlying44 (by kernel_rfl) (by decide) (fun n' hn' => (op_T_Type hB n'))) <| OpensF.nil) (fun y => by rw [c_T_Make]; rfl) (fun y h => ⟨h.1, h.2.1, trivial⟩) (fun y => by simp only [T_Make.bk]; omega)
def T_Data.bk (x : T_Data) : Nat := (x.fName.length + 1) + ((x.fParams.map fun z => z.length + 1).sum + 1) + ((x.fMakes.map T_Make.bk).sum + 1) + 1
def T_Data.ok (x : T_Data) : Prop := (True) ∧ (∀ z ∈ x.fParams, True) ∧ (∀ z ∈ x.fMakes, z.ok) ∧ True
theorem op_T_Data {B : (H : Type) → DataW H → Nat} (hB : Bulk B) (N : Nat) : OpensN Try.prog B N 73 3 e_T_Data T_Data.ok T_Data.bk :=
    OpensN.struct (T0 := Str × (List Str) × (List T_Make) × Unit) hB (fun y => T_Data.mk y.1 y.2.1 y.2.2.1) Try.underlying73 (by kernel_rfl) (fun n hn =>
      OpensF.cons (s := 1) (sz := 2) rfl (by kernel_rfl) (OpensN.str hB Try.underlying9) <|
      OpensF.cons (s := 1) (sz := 1) rfl (by kernel_rfl) (OpensN.list hB Try.underlying30 (by kernel_rfl) (by decide) (fun n' hn' => (OpensN.str hB Try.underlying9))) <|
      OpensF.cons (s := 1) (sz := 0) rfl (by kernel_rfl) (OpensN.list hB Try.underlying71 (by kernel_rfl) (by decide) (fun n' hn' => (op_T_Make hB n'))) <| OpensF.nil) (fun y => by rw [c_T_Data]; rfl) (fun y h => ⟨h.1, h.2.1, h.2.2.1, trivial⟩) (fun y => by simp only [T_Data.bk]; omega)
mutual
def T_Pat.bk : T_Pat → Nat
  | .mk fKind fNum fText fArgs => (1) + (1) + (fText.length + 1) + (bks_T_Pat fArgs + 1) + 1
def bks_T_Pat : List T_Pat → Nat
  | [] => 0
  | x :: xs => x.bk + bks_T_Pat xs
end
mutual
def T_Pat.ok : T_Pat → Prop
  | .mk fKind fNum fText fArgs => ((Lit.int .i64 fKind).wf = true) ∧ ((Lit.int .i64 fNum).wf = true) ∧ (True) ∧ (oks_T_Pat fArgs) ∧ True
def oks_T_Pat : List T_Pat → Prop
  | [] => True
  | x :: xs => x.ok ∧ oks_T_Pat xs
end
theorem bks_T_Pat_eq : ∀ xs : List T_Pat, bks_T_Pat xs = (xs.map T_Pat.bk).sum
  | [] => rfl
  | x :: xs => by simp [bks_T_Pat, bks_T_Pat_eq xs]
theorem oks_T_Pat_of : ∀ {xs : List T_Pat}, (∀ x ∈ xs, x.ok) → oks_T_Pat xs
  | [], _ => trivial
  | x :: xs, h => ⟨h x (by simp), oks_T_Pat_of fun y hy => h y (by simp [hy])⟩
theorem op_T_Pat {B : (H : Type) → DataW H → Nat} (hB : Bulk B) (N : Nat) : OpensN Try.prog B N 83 4 e_T_Pat T_Pat.ok T_Pat.bk := by
  induction N using Nat.strongRecOn with
  | _ N ih =>
  exact OpensN.struct (T0 := Int × Int × Str × (List T_Pat) × Unit) hB (fun y => T_Pat.mk y.1 y.2.1 y.2.2.1 y.2.2.2.1) Try.underlying83 (by kernel_rfl) (fun n hn =>
      OpensF.cons (s := 1) (sz := 3) rfl (by kernel_rfl) (OpensN.int hB Try.underlying3) <|
      OpensF.cons (s := 1) (sz := 2) rfl (by kernel_rfl) (OpensN.int hB Try.underlying3) <|
      OpensF.cons (s := 1) (sz := 1) rfl (by kernel_rfl) (OpensN.str hB Try.underlying9) <|
      OpensF.cons (s := 1) (sz := 0) rfl (by kernel_rfl) (OpensN.list hB Try.underlying81 (by kernel_rfl) (by decide) (fun n' hn' => (ih n' (by omega)))) <| OpensF.nil) (fun y => by rw [c_T_Pat]; rfl) (fun y h => ⟨h.1, h.2.1, h.2.2.1, oks_T_Pat_of h.2.2.2.1, trivial⟩) (fun y => by simp only [T_Pat.bk, bks_T_Pat_eq]; omega)
mutual
def T_Expr.bk : T_Expr → Nat
  | .mk fKind fNum fText fNames fTypes fArgs fArms fAt => (1) + (1) + (fText.length + 1) + ((fNames.map fun z => z.length + 1).sum + 1) + ((fTypes.map T_Type.bk).sum + 1) + (bks_T_Expr fArgs + 1) + (bks_T_Arm fArms + 1) + (1) + 1
def T_Arm.bk : T_Arm → Nat
  | .mk fPat fBody => (fPat.bk) + (fBody.bk) + 1
def bks_T_Expr : List T_Expr → Nat
  | [] => 0
  | x :: xs => x.bk + bks_T_Expr xs
def bks_T_Arm : List T_Arm → Nat
  | [] => 0
  | x :: xs => x.bk + bks_T_Arm xs
end
mutual
def T_Expr.ok : T_Expr → Prop
  | .mk fKind fNum fText fNames fTypes fArgs fArms fAt => ((Lit.int .i64 fKind).wf = true) ∧ ((Lit.int .i64 fNum).wf = true) ∧ (True) ∧ (∀ z ∈ fNames, True) ∧ (∀ z ∈ fTypes, z.ok) ∧ (oks_T_Expr fArgs) ∧ (oks_T_Arm fArms) ∧ ((Lit.int .i64 fAt).wf = true) ∧ True
def T_Arm.ok : T_Arm → Prop
  | .mk fPat fBody => (fPat.ok) ∧ (fBody.ok) ∧ True
def oks_T_Expr : List T_Expr → Prop
  | [] => True
  | x :: xs => x.ok ∧ oks_T_Expr xs
def oks_T_Arm : List T_Arm → Prop
  | [] => True
  | x :: xs => x.ok ∧ oks_T_Arm xs
end
theorem bks_T_Expr_eq : ∀ xs : List T_Expr, bks_T_Expr xs = (xs.map T_Expr.bk).sum
  | [] => rfl
  | x :: xs => by simp [bks_T_Expr, bks_T_Expr_eq xs]
theorem oks_T_Expr_of : ∀ {xs : List T_Expr}, (∀ x ∈ xs, x.ok) → oks_T_Expr xs
  | [], _ => trivial
  | x :: xs, h => ⟨h x (by simp), oks_T_Expr_of fun y hy => h y (by simp [hy])⟩
theorem bks_T_Arm_eq : ∀ xs : List T_Arm, bks_T_Arm xs = (xs.map T_Arm.bk).sum
  | [] => rfl
  | x :: xs => by simp [bks_T_Arm, bks_T_Arm_eq xs]
theorem oks_T_Arm_of : ∀ {xs : List T_Arm}, (∀ x ∈ xs, x.ok) → oks_T_Arm xs
  | [], _ => trivial
  | x :: xs, h => ⟨h x (by simp), oks_T_Arm_of fun y hy => h y (by simp [hy])⟩
theorem op_T_Expr_T_Arm {B : (H : Type) → DataW H → Nat} (hB : Bulk B) (N : Nat) : OpensN Try.prog B N 47 8 e_T_Expr T_Expr.ok T_Expr.bk ∧ OpensN Try.prog B N 85 12 e_T_Arm T_Arm.ok T_Arm.bk := by
  induction N using Nat.strongRecOn with
  | _ N ih =>
  exact ⟨OpensN.struct (T0 := Int × Int × Str × (List Str) × (List T_Type) × (List T_Expr) × (List T_Arm) × Int × Unit) hB (fun y => T_Expr.mk y.1 y.2.1 y.2.2.1 y.2.2.2.1 y.2.2.2.2.1 y.2.2.2.2.2.1 y.2.2.2.2.2.2.1 y.2.2.2.2.2.2.2.1) Try.underlying47 (by kernel_rfl) (fun n hn =>
      OpensF.cons (s := 1) (sz := 7) rfl (by kernel_rfl) (OpensN.int hB Try.underlying3) <|
      OpensF.cons (s := 1) (sz := 6) rfl (by kernel_rfl) (OpensN.int hB Try.underlying3) <|
      OpensF.cons (s := 1) (sz := 5) rfl (by kernel_rfl) (OpensN.str hB Try.underlying9) <|
      OpensF.cons (s := 1) (sz := 4) rfl (by kernel_rfl) (OpensN.list hB Try.underlying30 (by kernel_rfl) (by decide) (fun n' hn' => (OpensN.str hB Try.underlying9))) <|
      OpensF.cons (s := 1) (sz := 3) rfl (by kernel_rfl) (OpensN.list hB Try.underlying44 (by kernel_rfl) (by decide) (fun n' hn' => (op_T_Type hB n'))) <|
      OpensF.cons (s := 1) (sz := 2) rfl (by kernel_rfl) (OpensN.list hB Try.underlying42 (by kernel_rfl) (by decide) (fun n' hn' => (ih n' (by omega)).1)) <|
      OpensF.cons (s := 1) (sz := 1) rfl (by kernel_rfl) (OpensN.list hB Try.underlying45 (by kernel_rfl) (by decide) (fun n' hn' => (ih n' (by omega)).2)) <|
      OpensF.cons (s := 1) (sz := 0) rfl (by kernel_rfl) (OpensN.int hB Try.underlying3) <| OpensF.nil) (fun y => by rw [c_T_Expr]; rfl) (fun y h => ⟨h.1, h.2.1, h.2.2.1, h.2.2.2.1, h.2.2.2.2.1, oks_T_Expr_of h.2.2.2.2.2.1, oks_T_Arm_of h.2.2.2.2.2.2.1, h.2.2.2.2.2.2.2.1, trivial⟩) (fun y => by simp only [T_Expr.bk, bks_T_Arm_eq, bks_T_Expr_eq]; omega),
    OpensN.struct (T0 := T_Pat × T_Expr × Unit) hB (fun y => T_Arm.mk y.1 y.2.1) Try.underlying85 (by kernel_rfl) (fun n hn =>
      OpensF.cons (s := 4) (sz := 8) rfl (by kernel_rfl) (op_T_Pat hB n) <|
      OpensF.cons (s := 8) (sz := 0) rfl (by kernel_rfl) (ih n (by omega)).1 <| OpensF.nil) (fun y => by rw [c_T_Arm]; simp only [c_T_Expr, c_T_Pat]; rfl) (fun y h => ⟨h.1, h.2.1, trivial⟩) (fun y => by simp only [T_Arm.bk]; omega)⟩
theorem op_T_Expr {B : (H : Type) → DataW H → Nat} (hB : Bulk B) (N : Nat) : OpensN Try.prog B N 47 8 e_T_Expr T_Expr.ok T_Expr.bk := (op_T_Expr_T_Arm hB N).1
theorem op_T_Arm {B : (H : Type) → DataW H → Nat} (hB : Bulk B) (N : Nat) : OpensN Try.prog B N 85 12 e_T_Arm T_Arm.ok T_Arm.bk := (op_T_Expr_T_Arm hB N).2
def T_Func.bk (x : T_Func) : Nat := (x.fName.length + 1) + ((x.fParams.map fun z => z.length + 1).sum + 1) + ((x.fNames.map fun z => z.length + 1).sum + 1) + ((x.fTypes.map T_Type.bk).sum + 1) + (x.fOut.bk) + (x.fBody.bk) + 1
def T_Func.ok (x : T_Func) : Prop := (True) ∧ (∀ z ∈ x.fParams, True) ∧ (∀ z ∈ x.fNames, True) ∧ (∀ z ∈ x.fTypes, z.ok) ∧ (x.fOut.ok) ∧ (x.fBody.ok) ∧ True
theorem op_T_Func {B : (H : Type) → DataW H → Nat} (hB : Bulk B) (N : Nat) : OpensN Try.prog B N 59 15 e_T_Func T_Func.ok T_Func.bk :=
    OpensN.struct (T0 := Str × (List Str) × (List Str) × (List T_Type) × T_Type × T_Expr × Unit) hB (fun y => T_Func.mk y.1 y.2.1 y.2.2.1 y.2.2.2.1 y.2.2.2.2.1 y.2.2.2.2.2.1) Try.underlying59 (by kernel_rfl) (fun n hn =>
      OpensF.cons (s := 1) (sz := 14) rfl (by kernel_rfl) (OpensN.str hB Try.underlying9) <|
      OpensF.cons (s := 1) (sz := 13) rfl (by kernel_rfl) (OpensN.list hB Try.underlying30 (by kernel_rfl) (by decide) (fun n' hn' => (OpensN.str hB Try.underlying9))) <|
      OpensF.cons (s := 1) (sz := 12) rfl (by kernel_rfl) (OpensN.list hB Try.underlying30 (by kernel_rfl) (by decide) (fun n' hn' => (OpensN.str hB Try.underlying9))) <|
      OpensF.cons (s := 1) (sz := 11) rfl (by kernel_rfl) (OpensN.list hB Try.underlying44 (by kernel_rfl) (by decide) (fun n' hn' => (op_T_Type hB n'))) <|
      OpensF.cons (s := 3) (sz := 8) rfl (by kernel_rfl) (op_T_Type hB n) <|
      OpensF.cons (s := 8) (sz := 0) rfl (by kernel_rfl) (op_T_Expr hB n) <| OpensF.nil) (fun y => by rw [c_T_Func]; simp only [c_T_Expr, c_T_Type]; rfl) (fun y h => ⟨h.1, h.2.1, h.2.2.1, h.2.2.2.1, h.2.2.2.2.1, h.2.2.2.2.2.1, trivial⟩) (fun y => by simp only [T_Func.bk]; omega)
def T_Trait.bk (x : T_Trait) : Nat := (x.fName.length + 1) + ((x.fFuncs.map T_Func.bk).sum + 1) + 1
def T_Trait.ok (x : T_Trait) : Prop := (True) ∧ (∀ z ∈ x.fFuncs, z.ok) ∧ True
theorem op_T_Trait {B : (H : Type) → DataW H → Nat} (hB : Bulk B) (N : Nat) : OpensN Try.prog B N 55 2 e_T_Trait T_Trait.ok T_Trait.bk :=
    OpensN.struct (T0 := Str × (List T_Func) × Unit) hB (fun y => T_Trait.mk y.1 y.2.1) Try.underlying55 (by kernel_rfl) (fun n hn =>
      OpensF.cons (s := 1) (sz := 1) rfl (by kernel_rfl) (OpensN.str hB Try.underlying9) <|
      OpensF.cons (s := 1) (sz := 0) rfl (by kernel_rfl) (OpensN.list hB Try.underlying26 (by kernel_rfl) (by decide) (fun n' hn' => (op_T_Func hB n'))) <| OpensF.nil) (fun y => by rw [c_T_Trait]; rfl) (fun y h => ⟨h.1, h.2.1, trivial⟩) (fun y => by simp only [T_Trait.bk]; omega)
def T_Impl.bk (x : T_Impl) : Nat := (x.fTrait.length + 1) + (x.fFor.length + 1) + ((x.fFuncs.map T_Func.bk).sum + 1) + 1
def T_Impl.ok (x : T_Impl) : Prop := (True) ∧ (True) ∧ (∀ z ∈ x.fFuncs, z.ok) ∧ True
theorem op_T_Impl {B : (H : Type) → DataW H → Nat} (hB : Bulk B) (N : Nat) : OpensN Try.prog B N 63 3 e_T_Impl T_Impl.ok T_Impl.bk :=
    OpensN.struct (T0 := Str × Str × (List T_Func) × Unit) hB (fun y => T_Impl.mk y.1 y.2.1 y.2.2.1) Try.underlying63 (by kernel_rfl) (fun n hn =>
      OpensF.cons (s := 1) (sz := 2) rfl (by kernel_rfl) (OpensN.str hB Try.underlying9) <|
      OpensF.cons (s := 1) (sz := 1) rfl (by kernel_rfl) (OpensN.str hB Try.underlying9) <|
      OpensF.cons (s := 1) (sz := 0) rfl (by kernel_rfl) (OpensN.list hB Try.underlying26 (by kernel_rfl) (by decide) (fun n' hn' => (op_T_Func hB n'))) <| OpensF.nil) (fun y => by rw [c_T_Impl]; rfl) (fun y h => ⟨h.1, h.2.1, h.2.2.1, trivial⟩) (fun y => by simp only [T_Impl.bk]; omega)
def T_Actor.bk (x : T_Actor) : Nat := (x.fName.length + 1) + ((x.fNames.map fun z => z.length + 1).sum + 1) + ((x.fTypes.map T_Type.bk).sum + 1) + (x.fMsg.bk) + (x.fBody.bk) + 1
def T_Actor.ok (x : T_Actor) : Prop := (True) ∧ (∀ z ∈ x.fNames, True) ∧ (∀ z ∈ x.fTypes, z.ok) ∧ (x.fMsg.ok) ∧ (x.fBody.ok) ∧ True
theorem op_T_Actor {B : (H : Type) → DataW H → Nat} (hB : Bulk B) (N : Nat) : OpensN Try.prog B N 68 14 e_T_Actor T_Actor.ok T_Actor.bk :=
    OpensN.struct (T0 := Str × (List Str) × (List T_Type) × T_Type × T_Expr × Unit) hB (fun y => T_Actor.mk y.1 y.2.1 y.2.2.1 y.2.2.2.1 y.2.2.2.2.1) Try.underlying68 (by kernel_rfl) (fun n hn =>
      OpensF.cons (s := 1) (sz := 13) rfl (by kernel_rfl) (OpensN.str hB Try.underlying9) <|
      OpensF.cons (s := 1) (sz := 12) rfl (by kernel_rfl) (OpensN.list hB Try.underlying30 (by kernel_rfl) (by decide) (fun n' hn' => (OpensN.str hB Try.underlying9))) <|
      OpensF.cons (s := 1) (sz := 11) rfl (by kernel_rfl) (OpensN.list hB Try.underlying44 (by kernel_rfl) (by decide) (fun n' hn' => (op_T_Type hB n'))) <|
      OpensF.cons (s := 3) (sz := 8) rfl (by kernel_rfl) (op_T_Type hB n) <|
      OpensF.cons (s := 8) (sz := 0) rfl (by kernel_rfl) (op_T_Expr hB n) <| OpensF.nil) (fun y => by rw [c_T_Actor]; simp only [c_T_Expr, c_T_Type]; rfl) (fun y h => ⟨h.1, h.2.1, h.2.2.1, h.2.2.2.1, h.2.2.2.2.1, trivial⟩) (fun y => by simp only [T_Actor.bk]; omega)
def T_Program.bk (x : T_Program) : Nat := (x.fName.length + 1) + (1) + ((x.fUses.map T_Use.bk).sum + 1) + ((x.fDatas.map T_Data.bk).sum + 1) + ((x.fTraits.map T_Trait.bk).sum + 1) + ((x.fImpls.map T_Impl.bk).sum + 1) + ((x.fFuncs.map T_Func.bk).sum + 1) + ((x.fActors.map T_Actor.bk).sum + 1) + 1
def T_Program.ok (x : T_Program) : Prop := (True) ∧ ((Lit.int .i64 x.fVersion).wf = true) ∧ (∀ z ∈ x.fUses, z.ok) ∧ (∀ z ∈ x.fDatas, z.ok) ∧ (∀ z ∈ x.fTraits, z.ok) ∧ (∀ z ∈ x.fImpls, z.ok) ∧ (∀ z ∈ x.fFuncs, z.ok) ∧ (∀ z ∈ x.fActors, z.ok) ∧ True
theorem op_T_Program {B : (H : Type) → DataW H → Nat} (hB : Bulk B) (N : Nat) : OpensN Try.prog B N 29 8 e_T_Program T_Program.ok T_Program.bk :=
    OpensN.struct (T0 := Str × Int × (List T_Use) × (List T_Data) × (List T_Trait) × (List T_Impl) × (List T_Func) × (List T_Actor) × Unit) hB (fun y => T_Program.mk y.1 y.2.1 y.2.2.1 y.2.2.2.1 y.2.2.2.2.1 y.2.2.2.2.2.1 y.2.2.2.2.2.2.1 y.2.2.2.2.2.2.2.1) Try.underlying29 (by kernel_rfl) (fun n hn =>
      OpensF.cons (s := 1) (sz := 7) rfl (by kernel_rfl) (OpensN.str hB Try.underlying9) <|
      OpensF.cons (s := 1) (sz := 6) rfl (by kernel_rfl) (OpensN.int hB Try.underlying3) <|
      OpensF.cons (s := 1) (sz := 5) rfl (by kernel_rfl) (OpensN.list hB Try.underlying22 (by kernel_rfl) (by decide) (fun n' hn' => (op_T_Use hB n'))) <|
      OpensF.cons (s := 1) (sz := 4) rfl (by kernel_rfl) (OpensN.list hB Try.underlying23 (by kernel_rfl) (by decide) (fun n' hn' => (op_T_Data hB n'))) <|
      OpensF.cons (s := 1) (sz := 3) rfl (by kernel_rfl) (OpensN.list hB Try.underlying24 (by kernel_rfl) (by decide) (fun n' hn' => (op_T_Trait hB n'))) <|
      OpensF.cons (s := 1) (sz := 2) rfl (by kernel_rfl) (OpensN.list hB Try.underlying25 (by kernel_rfl) (by decide) (fun n' hn' => (op_T_Impl hB n'))) <|
      OpensF.cons (s := 1) (sz := 1) rfl (by kernel_rfl) (OpensN.list hB Try.underlying26 (by kernel_rfl) (by decide) (fun n' hn' => (op_T_Func hB n'))) <|
      OpensF.cons (s := 1) (sz := 0) rfl (by kernel_rfl) (OpensN.list hB Try.underlying27 (by kernel_rfl) (by decide) (fun n' hn' => (op_T_Actor hB n'))) <| OpensF.nil) (fun y => by rw [c_T_Program]; rfl) (fun y h => ⟨h.1, h.2.1, h.2.2.1, h.2.2.2.1, h.2.2.2.2.1, h.2.2.2.2.2.1, h.2.2.2.2.2.2.1, h.2.2.2.2.2.2.2.1, trivial⟩) (fun y => by simp only [T_Program.bk]; omega)
end Go.Proofs.Ythbgngdoihkodac.Hx
