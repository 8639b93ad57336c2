/- ReplayTexts: Text and Read of package replay give what the reference gives, for every list of choices and text of bulk at most 1048576. This text: the statement. Conditions: none beyond those that the statement itself names. -/
import Derived.Test.YtbaaojaoadjnmaeDoorCards
import Derived.Test.YtbaaojaoadjnmaeDoorTie
import Derived.WalkKit
import Derived.ProofKit
import Derived.OpenShut
import Derived.Deep.DeepHandedRow
import Derived.Lib.LaidTab
import Derived.Stop.LaidErr
import Derived.Lay
import Derived.MakeChecks
import Derived.Carry
import Derived.ChangeMaps5
import Derived.Test.YtbaaojaoadjnmaeDoorGxP
import Derived.Test.YtbaaojaoadjnmaeDoorEPure2
namespace Go.Proofs.YtbaaojaoadjnmaeDoor
open Go.ChangeShapes Go.WideShapes Go.ChangeAt Go.RowKit
open Go.ChangeMaps (open_string shut_string)

theorem own : ownKnob Tryd.prog.godebug = none := by kernel_rfl
theorem laidOut : laidOutB Tryd.prog = true := by kernel_rfl

theorem bulk_one {H : Type} (d : DataW H) : 1 ≤ Rows.uptoBulk d := by
  cases d with
  | lit l => cases l <;> simp [Rows.uptoBulk]
  | nil => simp [Rows.uptoBulk]
  | ptr d => simp [Rows.uptoBulk]
  | slice elems spare => simp [Rows.uptoBulk]
  | agg parts => simp [Rows.uptoBulk]
  | iface t d => simp [Rows.uptoBulk]
  | map entries => simp [Rows.uptoBulk]
  | held h => simp [Rows.uptoBulk]
theorem bulk_all {H : Type} : ∀ l : List (DataW H), Rows.uptoBulkAll l = (l.map Rows.uptoBulk).sum
  | [] => rfl
  | d :: l => by simp [Rows.uptoBulkAll, bulk_all l]
theorem bulk : Gx.Bulk (fun H => Rows.uptoBulk (H := H)) where
  one := fun H d => bulk_one d
  str := fun H l => by simp [Rows.uptoBulk]
  slice := fun H l r => by rw [← bulk_all, Rows.uptoBulk]; omega
  agg := fun H l => by rw [← bulk_all, Rows.uptoBulk]; exact Nat.le_refl _

/-- the argument l -/
theorem opens : Gx.Opens Tryd.prog (fun H => Rows.uptoBulk (H := H)) 22 1 (Gx.eL Gx.e_T_Choice 3) (fun xs => ∀ x ∈ xs, Gx.Wf x) (fun xs => xs.length + 1) := by
  have hw : ∀ n : Int, (Lit.int .i64 n).wf = true → Gx.In64 n := fun n h => by
    have h : -9223372036854775808 ≤ n ∧ n ≤ 9223372036854775807 := by simpa [Lit.wf, IntKind.min, IntKind.max, IntKind.signed, IntKind.bits] using h
    exact h
  have h1 : Gx.Opens Tryd.prog (fun H => Rows.uptoBulk (H := H)) 27 3 Gx.e_T_Choice Gx.Wf (fun _ => 1) :=
    Gx.Opens.struct3 bulk (fun a b c => Gx.T_Choice.mk a b c) Tryd.underlying27 (by kernel_rfl) rfl rfl rfl (by kernel_rfl) (by kernel_rfl) (by kernel_rfl) (Gx.Opens.int bulk Tryd.underlying3) (Gx.Opens.int bulk Tryd.underlying3) (Gx.Opens.int bulk Tryd.underlying3) (fun _ _ _ => rfl) (fun _ _ _ _ h2 h3 => ⟨hw _ h2, hw _ h3⟩) (fun _ _ _ => by omega)
  have h2 : Gx.Opens Tryd.prog (fun H => Rows.uptoBulk (H := H)) 22 1 (Gx.eL Gx.e_T_Choice 3) (fun xs => ∀ x ∈ xs, Gx.Wf x) (fun xs => (xs.map fun _ => 1).sum + 1) := Gx.Opens.list bulk Tryd.underlying22 (by kernel_rfl) (by decide) h1
  intro H e w fuel cs x h
  obtain ⟨y, r1, r2, r3, r4⟩ := h2 h
  have e : ∀ l : List Gx.T_Choice, (l.map fun _ => 1).sum = l.length := fun l => by induction l with | nil => rfl | cons a l ih => simp only [List.map_cons, List.sum_cons, List.length_cons, ih]; omega
  have r3' : (y.map fun _ => 1).sum + 1 ≤ Rows.uptoBulk x.1 := r3
  rw [e] at r3'
  exact ⟨y, r1, r2, r3', r4⟩

theorem star : "*" ++ "errors.errorString" = "*errors.errorString" := by decide
theorem errorRow (u : TypeId) (h : Tryd.prog.typeName? 3 u = some "*errors.errorString") : u = 91 :=
  typeName_ptr_named (nm := "errors.errorString") (by rw [star]; kernel_rfl) (by kernel_rfl) (by decide) u (by rw [star]; exact h)
/-- what the row's list gives -/
theorem vars {W : World} (hL : laidMetH Tryd.prog Rows.replayTextsUptoRow.laid W) : Go.Proofs.YtbaaojaoadjnmaeDoor.Gx.Vars Tryd.prog (fun b => b < W.heap.size) W := by
  rw [MakeChecks.laidMetH_plain _ _ _ (by kernel_rfl)] at hL
  have h2 := hL.tail.tail
  have h4 := h2.tail.tail
  have hrow : ∀ u, Tryd.prog.typeName? 3 u = some "*errors.errorString" → u = 91 := errorRow
  have ht : Lib.TabIs Tryd.prog W "internal/strconv.uint64pow10" .u64 Lib.pow10Tab :=
    Lib.tabIs_of_head (g := 3) (t := 85) (e := 64) (n := 20) (by kernel_rfl) (by kernel_rfl) Tryd.underlying85 (by kernel_rfl) (by kernel_rfl) (by kernel_rfl) h2
  obtain ⟨a1, s1, v1, _⟩ := laid_sentinel (tp := 91) (te := 93) (ts := 9) h4 (show Tryd.prog.globalNamed "strconv.ErrRange" = some 2 by kernel_rfl) (show (Tryd.prog.globals[2]?).map (·.type) = some 40 by kernel_rfl) Tryd.underlying40 hrow Tryd.underlying91 Tryd.underlying93 rfl rfl Tryd.underlying9 (by kernel_rfl) (by kernel_rfl)
  obtain ⟨a2, s2, v2, _⟩ := laid_sentinel (tp := 91) (te := 93) (ts := 9) h4.tail (show Tryd.prog.globalNamed "strconv.ErrSyntax" = some 1 by kernel_rfl) (show (Tryd.prog.globals[1]?).map (·.type) = some 40 by kernel_rfl) Tryd.underlying40 hrow Tryd.underlying91 Tryd.underlying93 rfl rfl Tryd.underlying9 (by kernel_rfl) (by kernel_rfl)
  exact ⟨Go.Proofs.YtbaaojaoadjnmaeDoor.Gx.VarIs.of ht, ⟨_, _, Go.Proofs.YtbaaojaoadjnmaeDoor.Gx.VarIs.of v2⟩, ⟨_, _, Go.Proofs.YtbaaojaoadjnmaeDoor.Gx.VarIs.of v1⟩⟩

set_option maxRecDepth 100000 in
theorem contract (H : Type) (enc : TypeId × Value → H) (W : World) (base : Nat) (args : Array Value) (ds gs : List (DataW H)) (before : List MemPlace)
    (hval : ∀ (j : Nat) t v, Tryd.f3.params[j]? = some t → args[j]? = some v → Value.okWide Tryd.prog W .any base t v)
    (hW : DataW.Whole enc Tryd.prog Tryd.f3.params.toList Rows.replayTextsSpec.vars false W args.toList ds gs before) (hk : Rows.uptoSmall H (ds ++ gs) = true) (hL : laidMetH Tryd.prog Rows.replayTextsUptoRow.laid W) :
    Calls Tryd.prog 3 args W fun e W' => ∃ v, e = .returned v ∧ Rows.replayTextsSpec.post enc Tryd.prog Tryd.f3 false true false false W args v W' := by
  have hW' := hW
  obtain ⟨p, q, hA0, hV, rfl, hfz, hnd⟩ := hW
  have hA : DataW.TrodAll enc Tryd.prog W 0 (fun _ => true) true Tryd.f3.params.toList args.toList ds p := hA0
  rw [Tryd.params3] at hA hval
  obtain ⟨v0, v1, d0, d1, p0, p1, rfl, rfl, rfl, h0, h1⟩ := trodAll_two hA
  obtain ⟨rfl, rfl⟩ := trodVars_none hV
  obtain ⟨a0, len, cap, rfl⟩ := okWide_slice Tryd.underlying22 (hval 0 22 v0 rfl rfl)
  have h1k := h1
  obtain ⟨s, rfl, rfl, rfl, hs⟩ := open_string Tryd.underlying9 (hval 1 9 v1 rfl rfl) h1
  clear hA0
  simp only [List.append_nil] at hW'
  have hlt : ∀ x ∈ p0, x.block < W.heap.size := fun x hx => by simpa using hW'.lt x (by simpa using hx)
  have h0k := h0
  obtain ⟨fuel, hf⟩ := h0
  obtain ⟨xs, hR, hwf, hm, _⟩ := opens hf
  have hb : Rows.uptoBulkAll [d0, (.lit (.string s.data.toList) : DataW H)] ≤ 1048576 := by simpa [Rows.uptoSmall] using hk
  simp only [Rows.uptoBulkAll, Rows.uptoBulk] at hb
  have hlaw := Gx.law xs s.data.toList hwf (by have : xs.length + 1 ≤ Rows.uptoBulk d0 := hm; omega) (by omega)
  have hcall := Gx.roadlaw5_ReplayTexts_ok (S := fun b => b < W.heap.size) (w := W) (fun b h => h) (vars hL) xs s.data.toList (.slice a0 len cap) hR hlaw
  refine Calls.mono (show Calls Tryd.prog 3 #[.slice a0 len cap, .string s] W _ from hcall) fun e W' he => ?_
  obtain ⟨v, rfl, S', u, rfl⟩ := he
  have hbel : Below W.heap.size W W' := u.le.below
  exact ⟨_, rfl, [d0, .lit (.string s.data.toList)], [], p0, [], p0 ++ [], [], hW', trodAll_mk1 (shut_bool Tryd.underlying4 _),
    trodAll_mk2 (Below.trod laidOut (by kernel_rfl) (of_decide_eq_true (by kernel_rfl)) h0k hbel hlt) (shut_string Tryd.underlying9 hs), rfl, hbel.frame _, fun h => by cases h⟩

/-! ### the witness: nil, the empty text; the listed variables as they are laid -/
noncomputable def w0 (os : Os) : World := World.laidAll Tryd.prog os Rows.replayTextsUptoRow.laid
theorem laid_met (os : Os) : laidMetH Tryd.prog Rows.replayTextsUptoRow.laid (((w0 os).forCall (fun _ _ => 0) ⟨#[], #[.slice none 0 0, .string ⟨#[]⟩], []⟩).memory) := by
  rw [MakeChecks.laidMetH_plain _ _ _ (by kernel_rfl)]; exact laidMet_laidAll _ (by kernel_rfl) (by kernel_rfl)
theorem shaped (os : Os) : ((w0 os).forCall (fun _ _ => 0) ⟨#[], #[.slice none 0 0, .string ⟨#[]⟩], []⟩).Shaped Tryd.prog := World.shaped_of_ZipB (by kernel_rfl) (by kernel_rfl)
theorem reads (os : Os) {H : Type} (enc : TypeId × Value → H) : ∃ places, DataW.whole enc Tryd.prog ((w0 os).forCall (fun _ _ => 0) ⟨#[], #[.slice none 0 0, .string ⟨#[]⟩], []⟩).memory Tryd.f3.params.toList Rows.replayTextsSpec.vars false #[Value.slice none 0 0, .string ⟨#[]⟩].toList 8 = some ([.nil, .lit (.string [])], [], places) :=
  ⟨[], by kernel_rfl⟩
theorem okArgs (os : Os) : Input.okWideB Tryd.prog ((w0 os).forCall (fun _ _ => 0) ⟨#[], #[.slice none 0 0, .string ⟨#[]⟩], []⟩) 3 ⟨#[], #[.slice none 0 0, .string ⟨#[]⟩], []⟩ = true := by kernel_rfl

set_option maxRecDepth 100000 in
theorem lifted (os : Os) (started : os.Started) (H : Type) (enc : TypeId × Value → H) (F : Stop.Interp) :
    ReturnsInHanded {} Tryd.checked os 3 .any ((Rows.OpenSpec.upto Rows.replayTextsSpec).preRow enc Tryd.prog Tryd.f3 Rows.replayTextsUptoRow.domain false Rows.replayTextsUptoRow.laid) (((Rows.OpenSpec.upto Rows.replayTextsSpec).at F).post enc Tryd.prog Tryd.f3 false true false false) := by
  obtain ⟨places, hx⟩ := reads os enc
  refine returnsInHanded_of_row (C := Tryd.checked) (s := Rows.OpenSpec.upto Rows.replayTextsSpec) own started (by kernel_rfl) Tryd.func3
    ⟨w0 os, fun _ _ => 0, ⟨#[], #[.slice none 0 0, .string ⟨#[]⟩], []⟩, World.laidAll_os _ _ _, shaped os, (Input.okWide_of_okWideB (base := 0) (okArgs os)).1, (Input.okWide_of_okWideB (okArgs os)).2,
      OpenSpec.preRow_of_cond 8 hx (by kernel_rfl) (fun k hk => by cases hk; kernel_rfl) (by kernel_rfl) (laid_met os), by
        simp only [Assume.holds]
        exact ⟨by simp, by simp, by simp, by simp, by simp⟩⟩ ?_
  intro W base args ds gs before hval hW _ hk _ hL _ _
  exact contract H enc W base args ds gs before hval hW (hk _ rfl) hL

theorem said : Rows.ReplayTextsUptoSaid :=
  OpenClaim.holds_of_cond 3 Tryd.f3 rfl rfl rfl rfl rfl rfl rfl ⟨rfl, rfl, rfl, rfl, rfl⟩ rfl rfl rfl rfl rfl (by kernel_rfl) Tryd.func3 (by kernel_rfl)
    (of_decide_eq_true (by kernel_rfl)) (by unfold Func.isWrapper; first | (rw [if_pos (by decide +kernel)]; kernel_rfl) | (rw [if_neg (by decide +kernel)]; exact ⟨rfl, rfl⟩))
    (fun os started H enc _ F => by rw [OpenClaim.pre_eq_preRow]; exact lifted os started H enc F)

theorem plain (f : FuncId) (fn : Func) (hf : Tryd.pinned.checked.prog.funcNamed "roadstead/roadlaw5.ReplayTexts" = some f) (hfn : Tryd.pinned.checked.prog.funcs[f]? = some fn) :
    true = Tryd.pinned.checked.prog.looks [] ∧ ∀ (j : Nat) t, fn.params[j]? = some t → Tryd.pinned.checked.prog.wantsStandIn t = false := by
  obtain rfl : f = 3 := Option.some.inj ((show Tryd.prog.funcNamed "roadstead/roadlaw5.ReplayTexts" = some 3 by kernel_rfl).symm.trans hf) |>.symm
  obtain rfl : fn = Tryd.f3 := (Option.some.inj (Tryd.func3.symm.trans hfn)).symm
  refine ⟨by kernel_rfl, fun j t ht => ?_⟩
  rw [Tryd.params3] at ht
  have hm : t ∈ [22, 9] := by simpa using Array.mem_of_getElem? ht
  have hall : ([22, 9].all fun u => !Tryd.prog.wantsStandIn u) = true := by kernel_rfl
  exact (show Tryd.prog.wantsStandIn t = false by simpa using List.all_eq_true.1 hall t hm)

theorem replayTexts_holds : Rows.ReplayTextsUptoCardSaid :=
  Claim7.holds_tied_plain_at .later [] _ _ _ _ said (fun _ h => by cases h) (by kernel_rfl) (fun _ h => by cases h) replayTextsUpto_row_tie rfl ⟨rfl, rfl⟩ (by kernel_rfl) rfl plain (by kernel_rfl)
#print axioms replayTexts_holds
end Go.Proofs.YtbaaojaoadjnmaeDoor
