/- roadstead: ScopeSays. This text: ScRow. Conditions: none beyond those that the statement itself names. -/
import Derived.Test.YthbgngdoihkodacRows
import Derived.WalkKit
import Derived.ProofKit
import Derived.OpenShut
import Derived.Deep.DeepHandedRow
import Derived.Lib.LaidTab
import Derived.Lay
import Derived.MakeChecks
import Derived.Carry
import Derived.ChangeMaps5
import Derived.Test.YthbgngdoihkodacScO
import Derived.Test.YthbgngdoihkodacScP6
namespace Go.Proofs.Ythbgngdoihkodac
open Go.ChangeShapes Go.WideShapes Go.ChangeAt Go.RowKit
open Go.ChangeMaps (open_string shut_string)

theorem own : ownKnob Try.prog.godebug = none := by kernel_rfl
theorem laidOut : laidOutB Try.prog = true := by kernel_rfl

theorem bulk_one {H : Type} (d : DataW H) : 1 ≤ Rows.uptoBulk d := by
  cases d with
  | lit l => cases l <;> simp [Rows.uptoBulk]
  | nil => simp [Rows.uptoBulk]
  | ptr d => simp [Rows.uptoBulk]
  | slice elems spare => simp [Rows.uptoBulk]
  | agg parts => simp [Rows.uptoBulk]
  | iface t d => simp [Rows.uptoBulk]
  | map entries => simp [Rows.uptoBulk]
  | held h => simp [Rows.uptoBulk]
theorem bulk_all {H : Type} : ∀ l : List (DataW H), Rows.uptoBulkAll l = (l.map Rows.uptoBulk).sum
  | [] => rfl
  | d :: l => by simp [Rows.uptoBulkAll, bulk_all l]
theorem bulk : Hx.Bulk (fun H => Rows.uptoBulk (H := H)) where
  one := fun H d => bulk_one d
  str := fun H l => by simp [Rows.uptoBulk]
  slice := fun H l r => by rw [← bulk_all, Rows.uptoBulk]; omega
  agg := fun H l => by rw [← bulk_all, Rows.uptoBulk]; exact Nat.le_refl _

/-! ### the sizes that the law speaks of are at most the bulk -/
mutual
theorem pat_le : ∀ p : Hx.T_Pat, p.sz ≤ p.bk
  | .mk _ _ _ args => by have := pats_le args; simp only [Hx.T_Pat.sz, Hx.T_Pat.bk]; omega
theorem pats_le : ∀ ps : List Hx.T_Pat, Hx.szPs ps ≤ Hx.bks_T_Pat ps
  | [] => Nat.le_refl _
  | p :: ps => by have := pat_le p; have := pats_le ps; simp only [Hx.szPs, Hx.bks_T_Pat]; omega
end
theorem strs_le : ∀ l : List Hx.Str, l.length ≤ (l.map fun z => z.length + 1).sum
  | [] => Nat.le_refl _
  | p :: ps => by have := strs_le ps; simp only [List.length_cons, List.map_cons, List.sum_cons]; omega
mutual
theorem expr_le : ∀ p : Hx.T_Expr, p.sz ≤ p.bk
  | .mk _ _ _ nms _ args arms _ => by have := exprs_le args; have := arms_le arms; have := strs_le nms; simp only [Hx.T_Expr.sz, Hx.T_Expr.bk]; omega
theorem arm_le : ∀ p : Hx.T_Arm, p.sz ≤ p.bk
  | .mk p b => by have := pat_le p; have := expr_le b; simp only [Hx.T_Arm.sz, Hx.T_Arm.bk]; omega
theorem exprs_le : ∀ ps : List Hx.T_Expr, Hx.szEs ps ≤ Hx.bks_T_Expr ps
  | [] => Nat.le_refl _
  | p :: ps => by have := expr_le p; have := exprs_le ps; simp only [Hx.szEs, Hx.bks_T_Expr]; omega
theorem arms_le : ∀ ps : List Hx.T_Arm, Hx.szAs ps ≤ Hx.bks_T_Arm ps
  | [] => Nat.le_refl _
  | p :: ps => by have := arm_le p; have := arms_le ps; simp only [Hx.szAs, Hx.bks_T_Arm]; omega
end
theorem sums_le {α : Type} {f g : α → Nat} (h : ∀ y, f y ≤ g y) (l : List α) : (l.map f).sum ≤ (l.map g).sum := Hx.sum_le_sum h l
theorem lens_le {α : Type} {g : α → Nat} (h : ∀ y, 1 ≤ g y) (l : List α) : l.length ≤ (l.map g).sum := Hx.len_sum h l
theorem func_le (f : Hx.T_Func) : f.sz ≤ f.bk := by
  have := strs_le f.fParams; have := strs_le f.fNames; have := expr_le f.fBody
  simp only [Hx.T_Func.sz, Hx.T_Func.bk]; omega
theorem data_le (f : Hx.T_Data) : f.sz ≤ f.bk := by
  have := strs_le f.fParams; have := lens_le (g := Hx.T_Make.bk) (fun y => by simp [Hx.T_Make.bk]) f.fMakes
  simp only [Hx.T_Data.sz, Hx.T_Data.bk]; omega
theorem trait_le (f : Hx.T_Trait) : f.sz ≤ f.bk := by
  have := sums_le func_le f.fFuncs
  simp only [Hx.T_Trait.sz, Hx.T_Trait.bk]; omega
theorem impl_le (f : Hx.T_Impl) : f.sz ≤ f.bk := by
  have := sums_le func_le f.fFuncs
  simp only [Hx.T_Impl.sz, Hx.T_Impl.bk]; omega
theorem actor_le (f : Hx.T_Actor) : f.sz ≤ f.bk := by
  have := strs_le f.fNames; have := expr_le f.fBody
  simp only [Hx.T_Actor.sz, Hx.T_Actor.bk]; omega
theorem program_le (p : Hx.T_Program) : p.sz ≤ p.bk := by
  have := lens_le (g := Hx.T_Use.bk) (fun y => by simp [Hx.T_Use.bk]) p.fUses
  have := sums_le data_le p.fDatas; have := sums_le trait_le p.fTraits; have := sums_le impl_le p.fImpls; have := sums_le func_le p.fFuncs; have := sums_le actor_le p.fActors
  simp only [Hx.T_Program.sz, Hx.T_Program.bk]; omega

theorem agg_rd {S : Nat → Prop} {w : World} {d : Hx.D} {ds : List Hx.D} {cs : Array Value} (he : d.cells = ds) (h : Hx.Rd S w d cs.toList) : Hx.RdV S w (.agg ds) (.agg cs) := by
  subst he
  simp only [Hx.RdV]
  exact ⟨cs.toList, rfl, h.cs⟩

set_option maxRecDepth 100000 in
theorem contract (H : Type) (enc : TypeId × Value → H) (W : World) (base : Nat) (args : Array Value) (ds gs : List (DataW H)) (before : List MemPlace)
    (hval : ∀ (j : Nat) t v, Try.f3.params[j]? = some t → args[j]? = some v → Value.okWide Try.prog W .any base t v)
    (hW : DataW.Whole enc Try.prog Try.f3.params.toList Rows.scopeSaysSpec.vars false W args.toList ds gs before) (hk : Rows.uptoSmall H (ds ++ gs) = true) :
    Calls Try.prog 3 args W fun e W' => ∃ v, e = .returned v ∧ Rows.scopeSaysSpec.post enc Try.prog Try.f3 false true false false W args v W' := by
  have hW' := hW
  obtain ⟨p, q, hA0, hV, rfl, hfz, hnd⟩ := hW
  have hA : DataW.TrodAll enc Try.prog W 0 (fun _ => true) true Try.f3.params.toList args.toList ds p := hA0
  rw [Try.params3] at hA hval
  obtain ⟨v0, v1, d0, d1, p0, p1, rfl, rfl, rfl, h0, h1⟩ := trodAll_two hA
  obtain ⟨rfl, rfl⟩ := trodVars_none hV
  obtain ⟨c0, rfl, hc0⟩ := okWide_struct Try.underlying29 (hval 0 29 v0 rfl rfl)
  obtain ⟨a1, len, cap, rfl⟩ := okWide_slice Try.underlying30 (hval 1 30 v1 rfl rfl)
  clear hA0
  simp only [List.append_nil] at hW'
  have hlt : ∀ x ∈ p0 ++ p1, x.block < W.heap.size := fun x hx => by simpa using hW'.lt x hx
  have h0k := h0
  have h1k := h1
  obtain ⟨fuel0, hf0⟩ := h0
  obtain ⟨fuel1, hf1⟩ := h1
  obtain ⟨xp, hR0, _, hm0, _⟩ := Hx.op_T_Program bulk _ (Nat.le_refl _) hf0
  obtain ⟨xl, hR1, _, hm1, _⟩ := Hx.OpensN.list bulk Try.underlying30 (by kernel_rfl) (by decide) (fun n _ => Hx.OpensN.str bulk Try.underlying9) (Nat.le_refl _) hf1
  have hb : Rows.uptoBulkAll [d0, d1] ≤ 1048576 := by simpa [Rows.uptoSmall] using hk
  simp only [Rows.uptoBulkAll] at hb
  have hm0 : xp.bk ≤ Rows.uptoBulk d0 := hm0
  have hm1 : (xl.map fun z => z.length + 1).sum + 1 ≤ Rows.uptoBulk d1 := hm1
  have hp := program_le xp
  have hl := strs_le xl
  obtain ⟨k, hlaw⟩ := Hx.law xp xl (by omega)
  have hsep : Hx.Sep Hx.Gl ⟨Hx.fps [], fun b => b < W.heap.size, W⟩ (fun b => b < W.heap.size) W [] :=
    ⟨Hx.Up.refl (fun b h => h) (by simp [Hx.fps]), fun g d hg => by simp [Hx.Gl, Hx.look] at hg, by simp, by simp [Hx.fps], by simp [Hx.fps]⟩
  have hcall := Hx.roadlaw2_ScopeSays_ok k hlaw (fun b => b < W.heap.size) W [.agg c0, .slice a1 len cap] (by
    simp only [Hx.RdVs]
    exact ⟨_, _, rfl, agg_rd (Hx.c_T_Program xp) hR0, _, _, rfl, by simp only [Hx.eL, Hx.RdV]; exact hR1, rfl⟩) hsep
  refine Calls.mono (show Calls Try.prog 3 #[.agg c0, .slice a1 len cap] W _ from hcall) fun e W' he => ?_
  obtain ⟨v, rfl, x, S', hv, hs⟩ := he
  rw [Hx.RdV.val] at hv
  subst hv
  have hbel : Below W.heap.size W W' := Hx.Le.below (by simpa [Hx.fps] using hs.up.le)
  exact ⟨_, rfl, [d0, d1], [], p0 ++ p1, [], p0 ++ p1, [], hW', trodAll_mk1 (shut_bool Try.underlying4 _),
    trodAll_mk2 (Below.trod laidOut (by kernel_rfl) (of_decide_eq_true (by kernel_rfl)) h0k hbel (fun x hx => hlt x (by simp [hx]))) (Below.trod laidOut (by kernel_rfl) (of_decide_eq_true (by kernel_rfl)) h1k hbel (fun x hx => hlt x (by simp [hx]))), rfl, hbel.frame _, fun h => by cases h⟩

/-! ### the witness: the program without parts, no names -/
noncomputable def w0 (os : Os) : World := World.laidAll Try.prog os Rows.scopeSaysUptoRow.laid
noncomputable def in0 : Input := ⟨#[], #[.agg #[.string ⟨#[]⟩, .int .i64 0, .slice none 0 0, .slice none 0 0, .slice none 0 0, .slice none 0 0, .slice none 0 0, .slice none 0 0], .slice none 0 0], []⟩
theorem laid_met (os : Os) : laidMetH Try.prog Rows.scopeSaysUptoRow.laid (((w0 os).forCall (fun _ _ => 0) in0).memory) := by
  rw [MakeChecks.laidMetH_plain _ _ _ (by kernel_rfl)]; exact laidMet_laidAll _ (by kernel_rfl) (by kernel_rfl)
theorem shaped (os : Os) : ((w0 os).forCall (fun _ _ => 0) in0).Shaped Try.prog := World.shaped_of_ZipB (by kernel_rfl) (by kernel_rfl)
theorem reads (os : Os) {H : Type} (enc : TypeId × Value → H) : ∃ places, DataW.whole enc Try.prog ((w0 os).forCall (fun _ _ => 0) in0).memory Try.f3.params.toList Rows.scopeSaysSpec.vars false in0.args.toList 8 = some ([.agg [.lit (.string []), .lit (.int .i64 0), .nil, .nil, .nil, .nil, .nil, .nil], .nil], [], places) :=
  ⟨[], by kernel_rfl⟩
theorem okArgs (os : Os) : Input.okWideB Try.prog ((w0 os).forCall (fun _ _ => 0) in0) 3 in0 = true := by kernel_rfl

set_option maxRecDepth 100000 in
theorem lifted (os : Os) (started : os.Started) (H : Type) (enc : TypeId × Value → H) (F : Stop.Interp) :
    ReturnsInHanded {} Try.checked os 3 .any ((Rows.OpenSpec.upto Rows.scopeSaysSpec).preRow enc Try.prog Try.f3 Rows.scopeSaysUptoRow.domain false Rows.scopeSaysUptoRow.laid) (((Rows.OpenSpec.upto Rows.scopeSaysSpec).at F).post enc Try.prog Try.f3 false true false false) := by
  obtain ⟨places, hx⟩ := reads os enc
  refine returnsInHanded_of_row (C := Try.checked) (s := Rows.OpenSpec.upto Rows.scopeSaysSpec) own started (by kernel_rfl) Try.func3
    ⟨w0 os, fun _ _ => 0, in0, World.laidAll_os _ _ _, shaped os, (Input.okWide_of_okWideB (base := 0) (okArgs os)).1, (Input.okWide_of_okWideB (okArgs os)).2,
      OpenSpec.preRow_of_cond 8 hx (by kernel_rfl) (fun k hk => by cases hk; kernel_rfl) (by kernel_rfl) (laid_met os), by
        simp only [Assume.holds]
        exact ⟨by simp, by simp, by simp, by simp, by simp⟩⟩ ?_
  intro W base args ds gs before hval hW _ hk _ hL _ _
  exact contract H enc W base args ds gs before hval hW (hk _ rfl)

theorem scopeSays_holds : Rows.ScopeSaysUptoSaid :=
  OpenClaim.holds_of_cond 3 Try.f3 rfl rfl rfl rfl rfl rfl rfl ⟨rfl, rfl, rfl, rfl, rfl⟩ rfl rfl rfl rfl rfl (by kernel_rfl) Try.func3 (by kernel_rfl)
    (of_decide_eq_true (by kernel_rfl)) (by unfold Func.isWrapper; first | (rw [if_pos (by decide +kernel)]; kernel_rfl) | (rw [if_neg (by decide +kernel)]; exact ⟨rfl, rfl⟩))
    (fun os started H enc _ F => by rw [OpenClaim.pre_eq_preRow]; exact lifted os started H enc F)
#print axioms scopeSays_holds
end Go.Proofs.Ythbgngdoihkodac
