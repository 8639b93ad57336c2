/- VersionTexts: Text and Read of package version give what the reference gives, for every list and text of bulk at most 1048576. This text: each function that the law reaches does what its plain Lean function says. Conditions: none beyond those that the statement itself names. -/
import Derived.Test.YtbaaojaoadjnmafDoorFLib
import Derived.Test.YtbaaojaoadjnmafDoorProg
namespace Go.Proofs.YtbaaojaoadjnmafDoor.Gx
open Go Go.Proofs.YtbaaojaoadjnmafDoor.Gx Go.RowKit Go.Proofs
structure T_Range where
  fLow : Int
  fHigh : Int
  deriving DecidableEq
def e_T_Range (x : T_Range) : D := .agg [(eI .i64) x.fLow, (eI .i64) x.fHigh]
theorem e_T_Range_eq (x : T_Range) : e_T_Range x = .agg [(eI .i64) x.fLow, (eI .i64) x.fHigh] := rfl
theorem o_T_Range {S : Nat → Prop} {w : World} {x : T_Range} {cs : List Value} (h : Rd S w (e_T_Range x) cs) : cs = [.int .i64 x.fLow, .int .i64 x.fHigh] := by
  simp only [e_T_Range_eq, eI, eB, eS, eL, Rd.agg_iff, RdAll.agg, List.cons_append, List.nil_append, RdAll.val, RdAll.slice, RdAll.nil] at h
  obtain ⟨_, rfl, _, rfl, rfl⟩ := h
  exact rfl
theorem m_T_Range {S : Nat → Prop} {w : World} (x : T_Range) : Rd S w (e_T_Range x) [.int .i64 x.fLow, .int .i64 x.fHigh] := by
  simp only [e_T_Range_eq, eI, eB, eS, eL, Rd.agg_iff, RdAll.agg, List.cons_append, List.nil_append, RdAll.val, RdAll.slice, RdAll.nil]
  exact ⟨_, rfl, _, rfl, rfl⟩
theorem one_T_Range (x : T_Range) : Gx.One (e_T_Range x) := by
  simp [e_T_Range_eq, Gx.One, eI, eB, eS, eL, bs, Value.oneCell']
structure A2_Int where
  e0 : Int
  e1 : Int
  deriving DecidableEq
def e_A2_Int (x : A2_Int) : D := .agg [(eI .i64) x.e0, (eI .i64) x.e1]
theorem e_A2_Int_eq (x : A2_Int) : e_A2_Int x = .agg [(eI .i64) x.e0, (eI .i64) x.e1] := rfl
theorem o_A2_Int {S : Nat → Prop} {w : World} {x : A2_Int} {cs : List Value} (h : Rd S w (e_A2_Int x) cs) : cs = [.int .i64 x.e0, .int .i64 x.e1] := by
  simp only [e_A2_Int_eq, eI, eB, eS, eL, Rd.agg_iff, RdAll.agg, List.cons_append, List.nil_append, RdAll.val, RdAll.slice, RdAll.nil] at h
  obtain ⟨_, rfl, _, rfl, rfl⟩ := h
  exact rfl
theorem m_A2_Int {S : Nat → Prop} {w : World} (x : A2_Int) : Rd S w (e_A2_Int x) [.int .i64 x.e0, .int .i64 x.e1] := by
  simp only [e_A2_Int_eq, eI, eB, eS, eL, Rd.agg_iff, RdAll.agg, List.cons_append, List.nil_append, RdAll.val, RdAll.slice, RdAll.nil]
  exact ⟨_, rfl, _, rfl, rfl⟩
theorem one_A2_Int (x : A2_Int) : Gx.One (e_A2_Int x) := by
  simp [e_A2_Int_eq, Gx.One, eI, eB, eS, eL, bs, Value.oneCell']
theorem inf22 : (Tryd.prog.info? 27).map (fun i => (i.zero, i.size, i.bytes)) = some (some (.agg [.int .i64 0, .int .i64 0].toArray), 2, 16) := by kernel_rfl
theorem elt22 : Elt Tryd.prog 22 27 2 16 [.int .i64 0, .int .i64 0] := Elt.of Tryd.underlying22 inf22 rfl (by decide) rfl
theorem inf29 : (Tryd.prog.info? 42).map (fun i => (i.zero, i.size, i.bytes)) = some (some (.agg [.int .i64 0, .int .i64 0].toArray), 2, 16) := by kernel_rfl
theorem elt29 : Elt Tryd.prog 29 42 2 16 [.int .i64 0, .int .i64 0] := Elt.of Tryd.underlying29 inf29 rfl (by decide) rfl
theorem inf38 : (Tryd.prog.info? 9).map (fun i => (i.zero, i.size, i.bytes)) = some (some (bs []), 1, 16) := by kernel_rfl
theorem elt38 : Elt Tryd.prog 38 9 1 16 [bs []] := Elt.of Tryd.underlying38 inf38 rfl (by decide) rfl
theorem egt42 : Tryd.prog.eqGuardType Tryd.prog.depth 42 = false := by kernel_rfl
theorem neqa42 {x y : Operand} {a b c d : Int} : ∀ w, (do eqGuard .neq 42 x y (.agg [.int .i64 a, .int .i64 b].toArray) (.agg [.int .i64 c, .int .i64 d].toArray); binOp .neq 42 (.agg [.int .i64 a, .int .i64 b].toArray) (.agg [.int .i64 c, .int .i64 d].toArray) : Sem Value).run Tryd.prog w = .ok (.bool (!(a == c && b == d))) w := b_aneq2 Tryd.underlying42 Tryd.underlying3 Tryd.isAgg3 Tryd.sizeOf3 egt42
theorem mixed : Tryd.prog.follows .mixedOrders = true := by kernel_rfl
/-! roadstead/version.right -/
def version_right.Post (S : Nat → Prop) (w : World) (out : Bool) (v : Value) (w' : World) : Prop := ∃ S', Up [] S w S' w' ∧ v = .bool out
def version_right.Spec (F : T_Range → Option (Bool)) : Prop := ∀ {S : Nat → Prop} {w : World} (_ : ∀ b, S b → b < w.heap.size) (a0 : T_Range) {out : Bool}, F a0 = some out → Calls Tryd.prog 18 [.agg [.int .i64 a0.fLow, .int .i64 a0.fHigh].toArray].toArray w (Rets (version_right.Post S w out))
def version_right (a0 : T_Range) : Option (Bool) := some (((decide (a0.fLow ≥ 1)) && (decide (a0.fHigh ≤ 9999))) && (decide (a0.fLow ≤ a0.fHigh)))
set_option maxRecDepth 100000 in
theorem version_right_ok : version_right.Spec (version_right ) := by
  intro S0 w0 hS0 a0 out hp
  have hU0 := Up.refl hS0
  refine calls_of_G (nt := 18) Tryd.func18 rfl Tryd.ntmps18 rfl ?_ hp
  unfold version_right
  refine G.seq fun K1 hK2 => ?_
  refine G.region ?_
  refine G.box (v := .agg [.int .i64 a0.fLow, .int .i64 a0.fHigh].toArray) (cs := [.int .i64 a0.fLow, .int .i64 a0.fHigh]) rfl rfl rfl ?_
  intro g3 w4 hg6 le7 hB8
  have u5 := Up.of_le hU0.live le7
  have hU9 := hU0.trans0 u5
  have lt10 := lt_of_block hB8
  have hn12 : ¬ S0 g3 := fun hs => by have := hU0.live _ hs; omega
  refine G.assign (v := .bool false) rfl rfl ?_
  refine G.nil ?_
  refine G.keep_ (L' := [(1, .pointer (some ⟨g3, 0, none⟩))]) (is := [1]) rfl ?_
  refine G.next_ hK2 ?_
  refine G.seq fun K13 hK14 => ?_
  refine G.region ?_
  refine G.fieldAddr (o' := 0) rfl rfl Tryd.runUnderlying27 rfl Tryd.sizeOf3 rfl ?_
  refine G.load1 (o := 0) (j := 0) (cs := [.int .i64 a0.fLow, .int .i64 a0.fHigh]) (v := .int .i64 a0.fLow) rfl rfl Tryd.isAgg3 (Cs.of_block hB8) rfl rfl ?_
  refine G.bin (u := .int .i64 a0.fLow) (v := .int .i64 1) (r := .bool (decide (a0.fLow ≥ 1))) rfl rfl rfl b_geq ?_
  refine G.move (v := .bool (decide (a0.fLow ≥ 1))) rfl rfl ?_
  refine G.cut 4 (fun a w' => w4 = w' ∧ Fr 18 [(1, .pointer (some ⟨g3, 0, none⟩)), (10, .bool ((decide (a0.fLow ≥ 1)) && (decide (a0.fHigh ≤ 9999))))] a) ?_ ?_
  · refine G.byb (c := (decide (a0.fLow ≥ 1))) (fun hc15 => ?_) (fun hc15 => ?_)
    · refine G.guard_yes rfl rfl hc15 ?_
      refine G.fieldAddr (o' := 1) rfl rfl Tryd.runUnderlying27 rfl Tryd.sizeOf3 rfl ?_
      refine G.guard_yes rfl rfl hc15 ?_
      refine G.load1 (o := 0) (j := 1) (cs := [.int .i64 a0.fLow, .int .i64 a0.fHigh]) (v := .int .i64 a0.fHigh) rfl rfl Tryd.isAgg3 (Cs.of_block hB8) rfl rfl ?_
      refine G.guard_yes rfl rfl hc15 ?_
      refine G.bin (u := .int .i64 a0.fHigh) (v := .int .i64 9999) (r := .bool (decide (a0.fHigh ≤ 9999))) rfl rfl rfl b_leq ?_
      refine G.pick_yes (u := .bool (decide (a0.fHigh ≤ 9999))) rfl rfl hc15 rfl ?_
      refine G.recast (and_yes (x := (decide (a0.fHigh ≤ 9999))) hc15) ?_
      refine G.nil ?_
      refine G.keep_ (L' := [(1, .pointer (some ⟨g3, 0, none⟩)), (10, .bool ((decide (a0.fLow ≥ 1)) && (decide (a0.fHigh ≤ 9999))))]) (is := [1, 10]) rfl ?_
      exact G.finE fun _ a ha => ⟨rfl, ha⟩
    · refine G.skip_s rfl rfl hc15 rfl ?_
      refine G.skip_s rfl rfl hc15 rfl ?_
      refine G.skip_s rfl rfl hc15 rfl ?_
      refine G.pick_no (u := .bool false) rfl rfl hc15 rfl ?_
      refine G.recast (and_no (x := (decide (a0.fHigh ≤ 9999))) hc15) ?_
      refine G.nil ?_
      refine G.keep_ (L' := [(1, .pointer (some ⟨g3, 0, none⟩)), (10, .bool ((decide (a0.fLow ≥ 1)) && (decide (a0.fHigh ≤ 9999))))]) (is := [1, 10]) rfl ?_
      exact G.finE fun _ a ha => ⟨rfl, ha⟩
  · rintro a _ ⟨rfl, ha⟩ hF
    refine G.use hF ha ?_
    refine G.move (v := .bool ((decide (a0.fLow ≥ 1)) && (decide (a0.fHigh ≤ 9999)))) rfl rfl ?_
    refine G.cut 6 (fun a w' => w4 = w' ∧ Fr 18 [(17, .bool (((decide (a0.fLow ≥ 1)) && (decide (a0.fHigh ≤ 9999))) && (decide (a0.fLow ≤ a0.fHigh))))] a) ?_ ?_
    · refine G.byb (c := ((decide (a0.fLow ≥ 1)) && (decide (a0.fHigh ≤ 9999)))) (fun hc16 => ?_) (fun hc16 => ?_)
      · refine G.guard_yes rfl rfl hc16 ?_
        refine G.fieldAddr (o' := 0) rfl rfl Tryd.runUnderlying27 rfl Tryd.sizeOf3 rfl ?_
        refine G.guard_yes rfl rfl hc16 ?_
        refine G.load1 (o := 0) (j := 0) (cs := [.int .i64 a0.fLow, .int .i64 a0.fHigh]) (v := .int .i64 a0.fLow) rfl rfl Tryd.isAgg3 (Cs.of_block hB8) rfl rfl ?_
        refine G.guard_yes rfl rfl hc16 ?_
        refine G.fieldAddr (o' := 1) rfl rfl Tryd.runUnderlying27 rfl Tryd.sizeOf3 rfl ?_
        refine G.guard_yes rfl rfl hc16 ?_
        refine G.load1 (o := 0) (j := 1) (cs := [.int .i64 a0.fLow, .int .i64 a0.fHigh]) (v := .int .i64 a0.fHigh) rfl rfl Tryd.isAgg3 (Cs.of_block hB8) rfl rfl ?_
        refine G.guard_yes rfl rfl hc16 ?_
        refine G.bin (u := .int .i64 a0.fLow) (v := .int .i64 a0.fHigh) (r := .bool (decide (a0.fLow ≤ a0.fHigh))) rfl rfl rfl b_leq ?_
        refine G.pick_yes (u := .bool (decide (a0.fLow ≤ a0.fHigh))) rfl rfl hc16 rfl ?_
        refine G.recast (and_yes (x := (decide (a0.fLow ≤ a0.fHigh))) hc16) ?_
        refine G.nil ?_
        refine G.keep_ (L' := [(17, .bool (((decide (a0.fLow ≥ 1)) && (decide (a0.fHigh ≤ 9999))) && (decide (a0.fLow ≤ a0.fHigh))))]) (is := [17]) rfl ?_
        exact G.finE fun _ a ha => ⟨rfl, ha⟩
      · refine G.skip_s rfl rfl hc16 rfl ?_
        refine G.skip_s rfl rfl hc16 rfl ?_
        refine G.skip_s rfl rfl hc16 rfl ?_
        refine G.skip_s rfl rfl hc16 rfl ?_
        refine G.skip_s rfl rfl hc16 rfl ?_
        refine G.pick_no (u := .bool false) rfl rfl hc16 rfl ?_
        refine G.recast (and_no (x := (decide (a0.fLow ≤ a0.fHigh))) hc16) ?_
        refine G.nil ?_
        refine G.keep_ (L' := [(17, .bool (((decide (a0.fLow ≥ 1)) && (decide (a0.fHigh ≤ 9999))) && (decide (a0.fLow ≤ a0.fHigh))))]) (is := [17]) rfl ?_
        exact G.finE fun _ a ha => ⟨rfl, ha⟩
    · rintro a _ ⟨rfl, ha⟩ hF
      refine G.use hF ha ?_
      refine G.assign (v := .bool (((decide (a0.fLow ≥ 1)) && (decide (a0.fHigh ≤ 9999))) && (decide (a0.fLow ≤ a0.fHigh)))) rfl rfl ?_
      refine G.nil ?_
      refine G.keep_ (L' := [(2, .bool (((decide (a0.fLow ≥ 1)) && (decide (a0.fHigh ≤ 9999))) && (decide (a0.fLow ≤ a0.fHigh))))]) (is := [2]) rfl ?_
      refine G.next_ hK14 ?_
      refine G.ret ?_
      refine G.ret1 (v := .bool (((decide (a0.fLow ≥ 1)) && (decide (a0.fHigh ≤ 9999))) && (decide (a0.fLow ≤ a0.fHigh)))) Tryd.results18 rfl (fun hF17 => ?_)
      obtain rfl := Option.some.inj hF17
      exact ⟨_, hU9, rfl⟩
/-! roadstead/version.Check -/
def version_Check.l1 (a0 : List T_Range) : List (T_Range) → Nat → Option (Int ⊕ (Unit))
  | [], i17 => some (.inr ())
  | y18 :: rest19, i17 => (version_right y18).bind fun r68 => (if (!r68) = true then some (.inl 1) else (if (decide ((i17 : Int) > 0)) = true then (nth a0 (subI (i17 : Int) 1)).bind fun y114 => some (decide (y18.fLow ≤ (addI y114.fHigh 1))) else some false).bind fun t116 => (if t116 = true then some (.inl 21) else version_Check.l1 a0 rest19 (i17 + 1)))

theorem version_Check.l1_nil (a0 : List T_Range) {i17 : Nat} : version_Check.l1 a0 [] i17 = some (.inr ()) := rfl
theorem version_Check.l1_cons (a0 : List T_Range) {y18 : T_Range} {rest19 : List (T_Range)} {i17 : Nat} : version_Check.l1 a0 (y18 :: rest19) i17 = (version_right y18).bind fun r68 => (if (!r68) = true then some (.inl 1) else (if (decide ((i17 : Int) > 0)) = true then (nth a0 (subI (i17 : Int) 1)).bind fun y114 => some (decide (y18.fLow ≤ (addI y114.fHigh 1))) else some false).bind fun t116 => (if t116 = true then some (.inl 21) else version_Check.l1 a0 rest19 (i17 + 1))) := rfl
def version_Check.Post (S : Nat → Prop) (w : World) (out : Int) (v : Value) (w' : World) : Prop := ∃ S', Up [] S w S' w' ∧ v = .int .i64 out
def version_Check.Spec (F : (List T_Range) → Option (Int)) : Prop := ∀ {S : Nat → Prop} {w : World} (_ : ∀ b, S b → b < w.heap.size) (a0 : List T_Range) (v0_0 : Value) (_ : RdL e_T_Range 2 S w v0_0 a0) {out : Int}, F a0 = some out → Calls Tryd.prog 10 [v0_0].toArray w (Rets (version_Check.Post S w out))
def version_Check (a0 : List T_Range) : Option (Int) := (if (decide ((a0.length : Int) > 50)) = true then some 2 else (version_Check.l1 a0 a0 0).bind (retOr fun b191 => some 0))
set_option maxRecDepth 100000 in
theorem version_Check_ok : version_Check.Spec (version_Check ) := by
  intro S0 w0 hS0 a0 v0_0 h0_0 out hp
  have hU0 := Up.refl hS0
  refine calls_of_G (nt := 35) Tryd.func10 rfl Tryd.ntmps10 rfl ?_ hp
  unfold version_Check
  refine G.seq fun K1 hK2 => ?_
  refine G.region ?_
  refine G.assign (v := .int .i64 0) rfl rfl ?_
  refine G.nil ?_
  refine G.keep_ (L' := [(0, v0_0)]) (is := [0]) rfl ?_
  refine G.next_ hK2 ?_
  refine G.seq fun K3 hK4 => ?_
  refine G.seq fun K5 hK6 => ?_
  refine G.region ?_
  refine G.move (v := v0_0) rfl rfl ?_
  refine G.len_rd rfl rfl Tryd.runUnderlying22 h0_0 ?_
  refine G.bin (u := .int .i64 (a0.length : Int)) (v := .int .i64 50) (r := .bool (decide ((a0.length : Int) > 50))) rfl rfl rfl b_gtr ?_
  refine G.nil ?_
  refine G.keep_ (L' := [(0, v0_0), (7, .bool (decide ((a0.length : Int) > 50)))]) (is := [0, 7]) rfl ?_
  refine G.next_ hK6 ?_
  refine G.cond (b := (decide ((a0.length : Int) > 50))) rfl (fun hc7 => ?_) (fun hc7 => ?_)
  · refine G.keep_ (L' := []) (is := []) rfl ?_
    refine G.seq fun K8 hK9 => ?_
    refine G.region ?_
    refine G.assign (v := .int .i64 2) rfl rfl ?_
    refine G.nil ?_
    refine G.keep_ (L' := [(2, .int .i64 2)]) (is := [2]) rfl ?_
    refine G.next_ hK9 ?_
    refine G.ret ?_
    refine G.thn_ret ?_
    refine G.ret1 (v := .int .i64 2) Tryd.results10 rfl (fun hF10 => ?_)
    obtain rfl := Option.some.inj hF10
    exact ⟨_, hU0, rfl⟩
  · refine G.keep_ (L' := [(0, v0_0)]) (is := [0]) rfl ?_
    refine G.skip ?_
    refine G.next_ hK4 ?_
    refine G.seq fun K11 hK12 => ?_
    refine G.seq fun K13 hK14 => ?_
    refine G.region ?_
    refine G.move (v := v0_0) rfl rfl ?_
    refine G.len_rd rfl rfl Tryd.runUnderlying22 h0_0 ?_
    refine G.move (v := .int .i64 0) rfl rfl ?_
    refine G.nil ?_
    refine G.keep_ (L' := [(0, v0_0), (8, v0_0), (9, .int .i64 (a0.length : Int)), (10, .int .i64 0)]) (is := [0, 8, 9, 10]) rfl ?_
    refine G.next_ hK14 ?_
    refine G.join (E := fun o a w' => ∃ b, o = .inr b ∧ ∃ (S_ : Nat → Prop), Fr 35 [] a ∧ Up [] S0 w0 S_ w') ?_ ?_
    · intro b hF15
      refine G.block ?_
      refine G.keep_ (L' := [(0, v0_0), (8, v0_0), (9, .int .i64 (a0.length : Int)), (10, .int .i64 ((0 : Nat) : Int))]) (is := [0, 8, 9, 10]) rfl ?_
      refine G.loop (fun k a w => ∃ (rest19 : List (T_Range)) (i17 : Nat), k = rest19.length ∧ version_Check.l1 a0 rest19 i17 = some b ∧ a0.drop i17 = rest19 ∧ ∃ (S_ : Nat → Prop), Fr 35 [(0, v0_0), (8, v0_0), (9, .int .i64 (a0.length : Int)), (10, .int .i64 (i17 : Int))] a ∧ Up [] S0 w0 S_ w) (a0.length) ?_ ?_
      · intro hl190 a ha
        exact ⟨a0, 0, rfl, hl190, rfl, _, ha, (Up.refl' hU0.live (in_nil))⟩
      · rintro _ a ww ⟨rest19, i17, rfl, hl16, hd20, hJ⟩
        rcases rest19 with _ | ⟨y18, rest19⟩
        · rw [version_Check.l1_nil] at hl16
          obtain ⟨w23, rfl⟩ : ∃ x : World, x = ww := ⟨ww, rfl⟩
          obtain ⟨S24, ha22, u25⟩ := hJ
          refine G.use hl16 ha22 ?_
          have hU26 := hU0.trans0 u25
          refine G.seq fun K27 hK28 => ?_
          refine G.region ?_
          refine G.bin (u := .int .i64 (i17 : Int)) (v := .int .i64 (a0.length : Int)) (r := .bool (decide ((i17 : Int) < (a0.length : Int)))) rfl rfl rfl b_lss ?_
          refine G.nil ?_
          refine G.keep_ (L' := [(0, v0_0), (8, v0_0), (9, .int .i64 (a0.length : Int)), (10, .int .i64 (i17 : Int)), (11, .bool (decide ((i17 : Int) < (a0.length : Int))))]) (is := [0, 8, 9, 10, 11]) rfl ?_
          refine G.next_ hK28 ?_
          refine G.seq fun K29 hK30 => ?_
          refine G.no rfl (rng_end hd20) ?_
          refine G.exit ?_
          refine G.thn_exit ?_
          refine G.thn_exit ?_
          refine G.inB_eq ?_
          refine G.keep_ (L' := []) (is := []) rfl ?_
          refine G.finE ?_
          rintro rfl a ha
          exact ⟨_, rfl, ⟨_, ha, ((Up.refl' hU0.live (in_nil)).trans0 u25)⟩⟩
        · rw [version_Check.l1_cons] at hl16
          obtain ⟨w32, rfl⟩ : ∃ x : World, x = ww := ⟨ww, rfl⟩
          obtain ⟨S33, ha31, u34⟩ := hJ
          refine G.use hl16 ha31 ?_
          have hU35 := hU0.trans0 u34
          refine G.seq fun K36 hK37 => ?_
          refine G.region ?_
          refine G.bin (u := .int .i64 (i17 : Int)) (v := .int .i64 (a0.length : Int)) (r := .bool (decide ((i17 : Int) < (a0.length : Int)))) rfl rfl rfl b_lss ?_
          refine G.nil ?_
          refine G.keep_ (L' := [(0, v0_0), (8, v0_0), (9, .int .i64 (a0.length : Int)), (10, .int .i64 (i17 : Int)), (11, .bool (decide ((i17 : Int) < (a0.length : Int))))]) (is := [0, 8, 9, 10, 11]) rfl ?_
          refine G.next_ hK37 ?_
          refine G.seq fun K38 hK39 => ?_
          refine G.yes rfl (rng_more hd20) ?_
          refine G.skip ?_
          refine G.next_ hK39 ?_
          refine G.seq fun K40 hK41 => ?_
          refine G.block ?_
          refine G.seq fun K42 hK43 => ?_
          refine G.region ?_
          refine G.move (v := .int .i64 (i17 : Int)) rfl rfl ?_
          have h44 := h0_0.up u34
          refine G.at_rd (i := i17) (y := y18) rfl rfl rfl Tryd.runUnderlying22 Tryd.sizeOf27 h44 (rng_at hd20) ?_
          intro b45 o46 cs47 hC48 hl49 hR50
          have hR50_ := o_T_Range hR50; subst hR50_
          refine G.loadN (o := o46) (j := 0) (cs := [.int .i64 y18.fLow, .int .i64 y18.fHigh]) (c1 := [.int .i64 y18.fLow, .int .i64 y18.fHigh]) rfl rfl Tryd.isAgg27 Tryd.sizeOf27 hC48 rfl rfl rfl (Nat.le_of_ble_eq_true rfl) ?_
          refine G.alloc (z := .agg [.int .i64 0, .int .i64 0].toArray) (cs := [.int .i64 0, .int .i64 0]) rfl Tryd.zeroValue27 rfl ?_
          intro g51 w52 hg54 le55 hB56
          have u53 := Up.of_le hU35.live le55
          have hU57 := hU35.trans0 u53
          have lt58 := lt_of_block hB56
          have hn60 : ¬ S33 g51 := fun hs => by have := hU35.live _ hs; omega
          refine G.assign (v := .int .i64 (i17 : Int)) rfl rfl ?_
          refine G.store (g := g51) (o := 0) (cs := [.int .i64 0, .int .i64 0]) (c1 := [.int .i64 y18.fLow, .int .i64 y18.fHigh]) (cs' := [.int .i64 y18.fLow, .int .i64 y18.fHigh]) (v := .agg [.int .i64 y18.fLow, .int .i64 y18.fHigh].toArray) rfl rfl rfl Tryd.sizeOf27 hB56 (List.forall_mem_cons.2 ⟨rfl, List.forall_mem_cons.2 ⟨rfl, List.forall_mem_nil _⟩⟩) (Nat.le_of_ble_eq_true rfl) rfl ?_
          intro w61 le62 hB63
          have u64 := Up.store hU57.live hn60 le62
          have hU65 := hU57.trans u64 (in_one (.inr (by have := hU35.le.size; have := hg54; omega)))
          refine G.nil ?_
          refine G.keep_ (L' := [(0, v0_0), (3, .int .i64 (i17 : Int)), (4, .pointer (some ⟨g51, 0, none⟩)), (8, v0_0), (9, .int .i64 (a0.length : Int)), (10, .int .i64 (i17 : Int))]) (is := [0, 3, 4, 8, 9, 10]) rfl ?_
          refine G.next_ hK43 ?_
          refine G.block ?_
          refine G.seq fun K66 hK67 => ?_
          refine G.region ?_
          refine G.loadN (o := 0) (j := 0) (cs := [.int .i64 y18.fLow, .int .i64 y18.fHigh]) (c1 := [.int .i64 y18.fLow, .int .i64 y18.fHigh]) rfl rfl Tryd.isAgg27 Tryd.sizeOf27 (Cs.of_block hB63) rfl rfl rfl (Nat.le_of_ble_eq_true rfl) ?_
          refine G.bind fun r68 hr69 => ?_
          have hc70 := version_right_ok hU65.live y18 hr69
          refine G.call (R := version_right.Post S33 w61 r68) (vs := [.agg [.int .i64 y18.fLow, .int .i64 y18.fHigh].toArray]) rfl rfl Tryd.call18 ?_ ?_
          · exact hc70
          rintro _ w72 ⟨S71, u73, rfl⟩
          have hU74 := hU65.trans0 u73
          refine G.not (b := r68) rfl rfl ?_
          refine G.assign (v := .bool (!r68)) rfl rfl ?_
          refine G.nil ?_
          refine G.keep_ (L' := [(0, v0_0), (3, .int .i64 (i17 : Int)), (4, .pointer (some ⟨g51, 0, none⟩)), (8, v0_0), (9, .int .i64 (a0.length : Int)), (10, .int .i64 (i17 : Int)), (15, .bool (!r68))]) (is := [0, 3, 4, 8, 9, 10, 15]) rfl ?_
          refine G.next_ hK67 ?_
          refine G.cond (b := (!r68)) rfl (fun hc75 => ?_) (fun hc75 => ?_)
          · refine G.keep_ (L' := []) (is := []) rfl ?_
            refine G.seq fun K76 hK77 => ?_
            refine G.region ?_
            refine G.assign (v := .int .i64 1) rfl rfl ?_
            refine G.nil ?_
            refine G.keep_ (L' := [(2, .int .i64 1)]) (is := [2]) rfl ?_
            refine G.next_ hK77 ?_
            refine G.ret ?_
            refine G.inB_ret ?_
            refine G.inB_ret ?_
            refine G.thn_ret ?_
            refine G.thn_ret ?_
            refine G.inB_ret ?_
            refine G.thn_ret ?_
            refine G.thn_ret ?_
            refine G.ret1 (v := .int .i64 1) Tryd.results10 rfl (fun hF78 => ?_)
            have hb79 := Option.some.inj hF78
            subst hb79
            have hF80 : (some 1 : Option (Int)) = some _ := hF15
            obtain rfl := Option.some.inj hF80
            exact ⟨_, hU74, rfl⟩
          · refine G.keep_ (L' := [(0, v0_0), (3, .int .i64 (i17 : Int)), (4, .pointer (some ⟨g51, 0, none⟩)), (8, v0_0), (9, .int .i64 (a0.length : Int)), (10, .int .i64 (i17 : Int))]) (is := [0, 3, 4, 8, 9, 10]) rfl ?_
            refine G.seq fun K81 hK82 => ?_
            refine G.bind fun t116 hq117 => ?_
            have hB118 := u73.le.kept0 hB63
            have hn119 := fun hs => hn60 (u64.old g51 (by have := lt58; omega) hs)
            have hn120 := fun hs => hn119 (u73.old g51 (by have := u64.le.size; have := lt58; omega) hs)
            refine G.cutc (fun a w' => ∃ (S_ : Nat → Prop), Fr 35 [(0, v0_0), (8, v0_0), (9, .int .i64 (a0.length : Int)), (10, .int .i64 (i17 : Int)), (19, .bool t116)] a ∧ Up [] S71 w72 S_ w') ?_ ?_
            · refine G.draw [] mixed 15 rfl ?_
              intro w149 le150
              have u151 := Up.of_le hU74.live le150
              have hU152 := hU74.trans0 u151
              have h153 := h44.up u53
              have h154 := h153.up u64
              have h155 := h154.up u73
              have h156 := h155.up u151
              have h157 := h44.up u53
              have h158 := h157.up u64
              have h159 := h158.up u73
              have h160 := h159.up u151
              have hB161 := u151.le.kept0 hB118
              refine GH.take 0 rfl rfl (by kernel_rfl) (by kernel_rfl) (by kernel_rfl) (Q.move rfl) (Le.refl [] _) (fun _ _ _ h => h) ?_
              refine GH.take 1 rfl rfl (by kernel_rfl) (by kernel_rfl) (by kernel_rfl) (Q.bin (u := .int .i64 (i17 : Int)) (v := .int .i64 0) (r := .bool (decide ((i17 : Int) > 0))) rfl rfl b_gtr) (Le.refl [] _) (fun _ _ _ h => h) ?_
              refine GH.take 2 rfl rfl (by kernel_rfl) (by kernel_rfl) (by kernel_rfl) (Q.move rfl) (Le.refl [] _) (fun _ _ _ h => h) ?_
              refine G.byb (c := (decide ((i17 : Int) > 0))) (fun hc162 => ?_) (fun hc162 => ?_)
              · have hp163 := ifp hq117 hc162
                obtain ⟨y114, hy164, hp165⟩ := bnd hp163
                have ht166 := Option.some.inj hp165
                refine GH.take_y 3 rfl rfl (by kernel_rfl) (by kernel_rfl) (by kernel_rfl) rfl rfl hc162 (Q.fieldAddr (o' := 0) rfl Tryd.runUnderlying27 rfl Tryd.sizeOf3 rfl) (Le.refl [] _) (fun _ _ _ h => h) ?_
                refine GH.take_y 4 rfl rfl (by kernel_rfl) (by kernel_rfl) (by kernel_rfl) rfl rfl hc162 (Q.load1 (o := 0) (j := 0) (cs := [.int .i64 y18.fLow, .int .i64 y18.fHigh]) (v := .int .i64 y18.fLow) rfl Tryd.isAgg3 (Cs.of_block hB161) List.not_mem_nil rfl rfl) (Le.refl [] _) (fun _ _ _ h => h) ?_
                refine GH.take_y 5 rfl rfl (by kernel_rfl) (by kernel_rfl) (by kernel_rfl) rfl rfl hc162 (Q.move rfl) (Le.refl [] _) (fun _ _ _ h => h) ?_
                refine GH.take_y 6 rfl rfl (by kernel_rfl) (by kernel_rfl) (by kernel_rfl) rfl rfl hc162 (Q.move rfl) (Le.refl [] _) (fun _ _ _ h => h) ?_
                refine GH.take_y 7 rfl rfl (by kernel_rfl) (by kernel_rfl) (by kernel_rfl) rfl rfl hc162 (Q.bin (u := .int .i64 (i17 : Int)) (v := .int .i64 1) (r := .int .i64 (subI (i17 : Int) 1)) rfl rfl b_sub) (Le.refl [] _) (fun _ _ _ h => h) ?_
                refine Q.nth_rd (P := Tryd.prog) (w := w149) (x := .tmp 25) (ix := .tmp 27) (t := 22) (W := []) (i := (subI (i17 : Int) 1)) (y := y114) rfl rfl Tryd.runUnderlying22 Tryd.sizeOf27 h156 hy164 ?_
                intro b167 o168 cs169 hs170 hC171 hl172 hR173 hq174
                have hR173_ := o_T_Range hR173; subst hR173_
                refine GH.take_y 8 rfl rfl (by kernel_rfl) (by kernel_rfl) (by kernel_rfl) rfl rfl hc162 (hq174 _ _ _ _ _) (Le.refl [] _) (fun _ _ _ h => h) ?_
                refine GH.take_y 9 rfl rfl (by kernel_rfl) (by kernel_rfl) (by kernel_rfl) rfl rfl hc162 (Q.fieldAddr (o' := o168 + 1) rfl Tryd.runUnderlying27 rfl Tryd.sizeOf3 rfl) (Le.refl [] _) (fun _ _ _ h => h) ?_
                refine GH.take_y 10 rfl rfl (by kernel_rfl) (by kernel_rfl) (by kernel_rfl) rfl rfl hc162 (Q.load1 (o := o168) (j := 1) (cs := [.int .i64 y114.fLow, .int .i64 y114.fHigh]) (v := .int .i64 y114.fHigh) rfl Tryd.isAgg3 hC171 List.not_mem_nil rfl rfl) (Le.refl [] _) (fun _ _ _ h => h) ?_
                refine GH.take_y 11 rfl rfl (by kernel_rfl) (by kernel_rfl) (by kernel_rfl) rfl rfl hc162 (Q.bin (u := .int .i64 y114.fHigh) (v := .int .i64 1) (r := .int .i64 (addI y114.fHigh 1)) rfl rfl b_add) (Le.refl [] _) (fun _ _ _ h => h) ?_
                refine GH.take_y 12 rfl rfl (by kernel_rfl) (by kernel_rfl) (by kernel_rfl) rfl rfl hc162 (Q.bin (u := .int .i64 y18.fLow) (v := .int .i64 (addI y114.fHigh 1)) (r := .bool (decide (y18.fLow ≤ (addI y114.fHigh 1)))) rfl rfl b_leq) (Le.refl [] _) (fun _ _ _ h => h) ?_
                refine GH.take 13 rfl rfl (by kernel_rfl) (by kernel_rfl) (by kernel_rfl) (Q.pick_yes (u := .bool (decide (y18.fLow ≤ (addI y114.fHigh 1)))) rfl hc162 rfl) (Le.refl [] _) (fun _ _ _ h => h) ?_
                refine G.recast (congrArg Value.bool ht166) ?_
                refine GH.take 14 rfl rfl (by kernel_rfl) (by kernel_rfl) (by kernel_rfl) (Q.assign rfl) (Le.refl [] _) (fun _ _ _ h => h) ?_
                refine GH.done (by kernel_rfl) ?_
                refine G.keep_ (L' := [(0, v0_0), (8, v0_0), (9, .int .i64 (a0.length : Int)), (10, .int .i64 (i17 : Int)), (19, .bool t116)]) (is := [0, 8, 9, 10, 19]) rfl ?_
                refine G.finE ?_
                rintro _ a ha
                exact ⟨_, ha, ((Up.refl' hU74.live (in_nil)).trans0 u151)⟩
              · have hp175 := ifn hq117 hc162
                have ht176 := Option.some.inj hp175
                refine GH.take_n 3 rfl rfl (by kernel_rfl) (by kernel_rfl) (by kernel_rfl) rfl rfl hc162 (Le.refl [] _) (fun _ _ _ h => h) ?_
                refine GH.take_n 4 rfl rfl (by kernel_rfl) (by kernel_rfl) (by kernel_rfl) rfl rfl hc162 (Le.refl [] _) (fun _ _ _ h => h) ?_
                refine GH.take_n 5 rfl rfl (by kernel_rfl) (by kernel_rfl) (by kernel_rfl) rfl rfl hc162 (Le.refl [] _) (fun _ _ _ h => h) ?_
                refine GH.take_n 6 rfl rfl (by kernel_rfl) (by kernel_rfl) (by kernel_rfl) rfl rfl hc162 (Le.refl [] _) (fun _ _ _ h => h) ?_
                refine GH.take_n 7 rfl rfl (by kernel_rfl) (by kernel_rfl) (by kernel_rfl) rfl rfl hc162 (Le.refl [] _) (fun _ _ _ h => h) ?_
                refine GH.take_n 8 rfl rfl (by kernel_rfl) (by kernel_rfl) (by kernel_rfl) rfl rfl hc162 (Le.refl [] _) (fun _ _ _ h => h) ?_
                refine GH.take_n 9 rfl rfl (by kernel_rfl) (by kernel_rfl) (by kernel_rfl) rfl rfl hc162 (Le.refl [] _) (fun _ _ _ h => h) ?_
                refine GH.take_n 10 rfl rfl (by kernel_rfl) (by kernel_rfl) (by kernel_rfl) rfl rfl hc162 (Le.refl [] _) (fun _ _ _ h => h) ?_
                refine GH.take_n 11 rfl rfl (by kernel_rfl) (by kernel_rfl) (by kernel_rfl) rfl rfl hc162 (Le.refl [] _) (fun _ _ _ h => h) ?_
                refine GH.take_n 12 rfl rfl (by kernel_rfl) (by kernel_rfl) (by kernel_rfl) rfl rfl hc162 (Le.refl [] _) (fun _ _ _ h => h) ?_
                refine GH.take 13 rfl rfl (by kernel_rfl) (by kernel_rfl) (by kernel_rfl) (Q.pick_no (u := .bool false) rfl hc162 rfl) (Le.refl [] _) (fun _ _ _ h => h) ?_
                refine G.recast (congrArg Value.bool ht176) ?_
                refine GH.take 14 rfl rfl (by kernel_rfl) (by kernel_rfl) (by kernel_rfl) (Q.assign rfl) (Le.refl [] _) (fun _ _ _ h => h) ?_
                refine GH.done (by kernel_rfl) ?_
                refine G.keep_ (L' := [(0, v0_0), (8, v0_0), (9, .int .i64 (a0.length : Int)), (10, .int .i64 (i17 : Int)), (19, .bool t116)]) (is := [0, 8, 9, 10, 19]) rfl ?_
                refine G.finE ?_
                rintro _ a ha
                exact ⟨_, ha, ((Up.refl' hU74.live (in_nil)).trans0 u151)⟩
            · rintro a w178 ⟨S179, ha177, u180⟩ hF189
              refine G.use hF189 ha177 ?_
              have hU181 := hU74.trans0 u180
              refine G.next_ hK82 ?_
              refine G.cond (b := t116) rfl (fun hc182 => ?_) (fun hc182 => ?_)
              · refine G.keep_ (L' := []) (is := []) rfl ?_
                refine G.seq fun K183 hK184 => ?_
                refine G.region ?_
                refine G.assign (v := .int .i64 21) rfl rfl ?_
                refine G.nil ?_
                refine G.keep_ (L' := [(2, .int .i64 21)]) (is := [2]) rfl ?_
                refine G.next_ hK184 ?_
                refine G.ret ?_
                refine G.inB_ret ?_
                refine G.inB_ret ?_
                refine G.thn_ret ?_
                refine G.thn_ret ?_
                refine G.inB_ret ?_
                refine G.thn_ret ?_
                refine G.thn_ret ?_
                refine G.ret1 (v := .int .i64 21) Tryd.results10 rfl (fun hF185 => ?_)
                have hb186 := Option.some.inj hF185
                subst hb186
                have hF187 : (some 21 : Option (Int)) = some _ := hF15
                obtain rfl := Option.some.inj hF187
                exact ⟨_, hU181, rfl⟩
              · refine G.keep_ (L' := [(0, v0_0), (8, v0_0), (9, .int .i64 (a0.length : Int)), (10, .int .i64 (i17 : Int))]) (is := [0, 8, 9, 10]) rfl ?_
                refine G.skip ?_
                refine G.inB ?_
                refine G.inB ?_
                refine G.next_ hK41 ?_
                refine G.region ?_
                refine G.incr (i := i17) (N := a0.length) rfl rfl rfl (rng_lt hd20) (h0_0.length_le) ?_
                refine G.move (v := .int .i64 ((i17 + 1 : Nat) : Int)) rfl rfl ?_
                refine G.nil ?_
                refine G.keep_ (L' := [(0, v0_0), (8, v0_0), (9, .int .i64 (a0.length : Int)), (10, .int .i64 ((i17 + 1 : Nat) : Int))]) (is := [0, 8, 9, 10]) rfl ?_
                refine G.keep_ (L' := [(0, v0_0), (8, v0_0), (9, .int .i64 (a0.length : Int)), (10, .int .i64 ((i17 + 1 : Nat) : Int))]) (is := [0, 8, 9, 10]) rfl ?_
                refine G.again ?_
                intro hl188 a ha
                exact ⟨_, Nat.lt_succ_self _, rest19, i17 + 1, rfl, hl188, rng_next hd20, _, ha, ((((((Up.refl' hU0.live (in_nil)).trans0 u34).trans0 u53).trans u64 (in_one (.inr (by have := u34.le.size; have := hg54; omega)))).trans0 u73).trans0 u180)⟩
    · rintro _ hb200 a w193 ⟨b191, rfl, S194, ha192, u195⟩ hF201
      refine G.use hF201 ha192 ?_
      refine G.inr ?_
      have hU196 := hU0.trans0 u195
      refine G.next_ hK12 ?_
      refine G.seq fun K197 hK198 => ?_
      refine G.region ?_
      refine G.assign (v := .int .i64 0) rfl rfl ?_
      refine G.nil ?_
      refine G.keep_ (L' := [(2, .int .i64 0)]) (is := [2]) rfl ?_
      refine G.next_ hK198 ?_
      refine G.ret ?_
      refine G.ret1 (v := .int .i64 0) Tryd.results10 rfl (fun hF199 => ?_)
      obtain rfl := Option.some.inj hF199
      exact ⟨_, hU196, rfl⟩
/-! roadstead/version.Text -/
def version_Text.l1  : List (T_Range) → (List Str) → Option (List Str)
  | [], x29 => some x29
  | y31 :: rest32, x29 => (strconv_Itoa y31.fLow).bind fun r87 => ((if (y31.fHigh != y31.fLow) = true then (strconv_Itoa y31.fHigh).bind fun r107 => (catl ([45] : Str) r107).bind fun s114 => (catl r87 s114).bind fun s116 => some s116 else some r87)).bind fun b118 => (app 8796093022208 x29 ([b118] : List Str)).bind fun l132 => version_Text.l1 rest32 l132

theorem version_Text.l1_nil  {x29 : List Str} : version_Text.l1  [] x29 = some x29 := rfl
theorem version_Text.l1_cons  {y31 : T_Range} {rest32 : List (T_Range)} {x29 : List Str} : version_Text.l1  (y31 :: rest32) x29 = (strconv_Itoa y31.fLow).bind fun r87 => ((if (y31.fHigh != y31.fLow) = true then (strconv_Itoa y31.fHigh).bind fun r107 => (catl ([45] : Str) r107).bind fun s114 => (catl r87 s114).bind fun s116 => some s116 else some r87)).bind fun b118 => (app 8796093022208 x29 ([b118] : List Str)).bind fun l132 => version_Text.l1 rest32 l132 := rfl
def version_Text.Post (S : Nat → Prop) (w : World) (out : Str × Int) (v : Value) (w' : World) : Prop := ∃ S', Up [] S w S' w' ∧ v = .tuple [bs out.1, .int .i64 out.2].toArray
def version_Text.Spec (F : (List T_Range) → Option (Str × Int)) : Prop := ∀ {S : Nat → Prop} {w : World} (_ : ∀ b, S b → b < w.heap.size) (_ : Vars Tryd.prog S w) (a0 : List T_Range) (v0_0 : Value) (_ : RdL e_T_Range 2 S w v0_0 a0) {out : Str × Int}, F a0 = some out → Calls Tryd.prog 4 [v0_0].toArray w (Rets (version_Text.Post S w out))
def version_Text (a0 : List T_Range) : Option (Str × Int) := (version_Check a0).bind fun r7 => (if (r7 != 0) = true then some ([], r7) else (version_Text.l1 a0 ([] : List Str)).bind fun b144 => (strings_Join b144 [44]).bind fun r158 => some (r158, 0))
set_option maxRecDepth 100000 in
theorem version_Text_ok : version_Text.Spec (version_Text ) := by
  intro S0 w0 hS0 hV0 a0 v0_0 h0_0 out hp
  have hU0 := Up.refl hS0
  refine calls_of_G (nt := 41) Tryd.func4 rfl Tryd.ntmps4 rfl ?_ hp
  unfold version_Text
  refine G.seq fun K1 hK2 => ?_
  refine G.region ?_
  refine G.assign (v := bs []) rfl rfl ?_
  refine G.assign (v := .int .i64 0) rfl rfl ?_
  refine G.nil ?_
  refine G.keep_ (L' := [(0, v0_0)]) (is := [0]) rfl ?_
  refine G.next_ hK2 ?_
  refine G.seq fun K3 hK4 => ?_
  refine G.seq fun K5 hK6 => ?_
  refine G.region ?_
  refine G.move (v := v0_0) rfl rfl ?_
  refine G.bind fun r7 hr8 => ?_
  have hc9 := version_Check_ok hU0.live a0 v0_0 h0_0 hr8
  refine G.call (R := version_Check.Post S0 w0 r7) (vs := [v0_0]) rfl rfl Tryd.call10 ?_ ?_
  · exact hc9
  rintro _ w11 ⟨S10, u12, rfl⟩
  have hU13 := hU0.trans0 u12
  refine G.assign (v := .int .i64 r7) rfl rfl ?_
  refine G.nil ?_
  refine G.keep_ (L' := [(0, v0_0), (4, .int .i64 r7)]) (is := [0, 4]) rfl ?_
  refine G.next_ hK6 ?_
  refine G.seq fun K14 hK15 => ?_
  refine G.region ?_
  refine G.move (v := .int .i64 r7) rfl rfl ?_
  refine G.bin (u := .int .i64 r7) (v := .int .i64 0) (r := .bool (r7 != 0)) rfl rfl rfl b_neq ?_
  refine G.nil ?_
  refine G.keep_ (L' := [(0, v0_0), (4, .int .i64 r7), (12, .bool (r7 != 0))]) (is := [0, 4, 12]) rfl ?_
  refine G.next_ hK15 ?_
  refine G.cond (b := (r7 != 0)) rfl (fun hc16 => ?_) (fun hc16 => ?_)
  · refine G.keep_ (L' := [(4, .int .i64 r7)]) (is := [4]) rfl ?_
    refine G.seq fun K17 hK18 => ?_
    refine G.region ?_
    refine G.move (v := .int .i64 r7) rfl rfl ?_
    refine G.assign (v := bs []) rfl rfl ?_
    refine G.assign (v := .int .i64 r7) rfl rfl ?_
    refine G.nil ?_
    refine G.keep_ (L' := [(2, bs []), (3, .int .i64 r7)]) (is := [2, 3]) rfl ?_
    refine G.next_ hK18 ?_
    refine G.ret ?_
    refine G.thn_ret ?_
    refine G.ret2 (v := bs []) (v' := .int .i64 r7) Tryd.results4 rfl rfl (fun hF19 => ?_)
    obtain rfl := Option.some.inj hF19
    exact ⟨_, hU13, rfl⟩
  · refine G.keep_ (L' := [(0, v0_0)]) (is := [0]) rfl ?_
    refine G.skip ?_
    refine G.next_ hK4 ?_
    refine G.seq fun K20 hK21 => ?_
    refine G.region ?_
    refine G.assign (v := .slice none 0 0) rfl rfl ?_
    refine G.nil ?_
    refine G.keep_ (L' := [(0, v0_0), (5, .slice none 0 0)]) (is := [0, 5]) rfl ?_
    refine G.next_ hK21 ?_
    refine G.seq fun K22 hK23 => ?_
    refine G.seq fun K24 hK25 => ?_
    refine G.region ?_
    refine G.move (v := v0_0) rfl rfl ?_
    have h26 := h0_0.up u12
    refine G.len_rd rfl rfl Tryd.runUnderlying22 h26 ?_
    refine G.move (v := .int .i64 0) rfl rfl ?_
    refine G.nil ?_
    refine G.keep_ (L' := [(5, .slice none 0 0), (14, v0_0), (15, .int .i64 (a0.length : Int)), (16, .int .i64 0)]) (is := [5, 14, 15, 16]) rfl ?_
    refine G.next_ hK25 ?_
    refine G.join (E := fun b a w' => ∃ (v_slot_5 : Value) (S_ : Nat → Prop), Fr 41 [(5, v_slot_5)] a ∧ Up [] S10 w11 S_ w' ∧ OwnL eS 9 1 w0.heap.size S_ w' v_slot_5 b ∧ (∀ k ∈ ob v_slot_5, k ∈ ob (.slice none 0 0) ∨ w11.heap.size ≤ k)) ?_ ?_
    · intro b hF27
      refine G.block ?_
      refine G.keep_ (L' := [(5, .slice none 0 0), (14, v0_0), (15, .int .i64 (a0.length : Int)), (16, .int .i64 ((0 : Nat) : Int))]) (is := [5, 14, 15, 16]) rfl ?_
      refine G.loop (fun k a w => ∃ (rest32 : List (T_Range)) (i30 : Nat) (x29 : List Str), k = rest32.length ∧ version_Text.l1 rest32 x29 = some b ∧ a0.drop i30 = rest32 ∧ ∃ (v_slot_5 : Value) (S_ : Nat → Prop), Fr 41 [(5, v_slot_5), (14, v0_0), (15, .int .i64 (a0.length : Int)), (16, .int .i64 (i30 : Int))] a ∧ Up [] S10 w11 S_ w ∧ OwnL eS 9 1 w0.heap.size S_ w v_slot_5 x29 ∧ (∀ k ∈ ob v_slot_5, k ∈ ob (.slice none 0 0) ∨ w11.heap.size ≤ k)) (a0.length) ?_ ?_
      · intro hl143 a ha
        exact ⟨a0, 0, ([] : List Str), rfl, hl143, rfl, .slice none 0 0, _, ha, (Up.refl' hU13.live (in_nil)), OwnL.nil, fun k hk => .inr ((fun k hk => absurd hk (by simp [ob_nil])) k hk)⟩
      · rintro _ a ww ⟨rest32, i30, x29, rfl, hl28, hd33, hJ⟩
        rcases rest32 with _ | ⟨y31, rest32⟩
        · rw [version_Text.l1_nil] at hl28
          obtain ⟨w36, rfl⟩ : ∃ x : World, x = ww := ⟨ww, rfl⟩
          obtain ⟨v39, S37, ha35, u38, h40, ho41⟩ := hJ
          refine G.use hl28 ha35 ?_
          have hU42 := hU13.trans0 u38
          refine G.seq fun K43 hK44 => ?_
          refine G.region ?_
          refine G.bin (u := .int .i64 (i30 : Int)) (v := .int .i64 (a0.length : Int)) (r := .bool (decide ((i30 : Int) < (a0.length : Int)))) rfl rfl rfl b_lss ?_
          refine G.nil ?_
          refine G.keep_ (L' := [(5, v39), (14, v0_0), (15, .int .i64 (a0.length : Int)), (16, .int .i64 (i30 : Int)), (17, .bool (decide ((i30 : Int) < (a0.length : Int))))]) (is := [5, 14, 15, 16, 17]) rfl ?_
          refine G.next_ hK44 ?_
          refine G.seq fun K45 hK46 => ?_
          refine G.no rfl (rng_end hd33) ?_
          refine G.exit ?_
          refine G.thn_exit ?_
          refine G.thn_exit ?_
          refine G.inB_eq ?_
          refine G.keep_ (L' := [(5, v39)]) (is := [5]) rfl ?_
          refine G.finE ?_
          rintro rfl a ha
          exact ⟨v39, _, ha, ((Up.refl' hU13.live (in_nil)).trans0 u38), h40, fun k hk => .inr ((org0_step ho41 (fun k hk => absurd hk (by simp [ob_nil])) (by omega)) k hk)⟩
        · rw [version_Text.l1_cons] at hl28
          obtain ⟨w48, rfl⟩ : ∃ x : World, x = ww := ⟨ww, rfl⟩
          obtain ⟨v51, S49, ha47, u50, h52, ho53⟩ := hJ
          refine G.use hl28 ha47 ?_
          have hU54 := hU13.trans0 u50
          refine G.seq fun K55 hK56 => ?_
          refine G.region ?_
          refine G.bin (u := .int .i64 (i30 : Int)) (v := .int .i64 (a0.length : Int)) (r := .bool (decide ((i30 : Int) < (a0.length : Int)))) rfl rfl rfl b_lss ?_
          refine G.nil ?_
          refine G.keep_ (L' := [(5, v51), (14, v0_0), (15, .int .i64 (a0.length : Int)), (16, .int .i64 (i30 : Int)), (17, .bool (decide ((i30 : Int) < (a0.length : Int))))]) (is := [5, 14, 15, 16, 17]) rfl ?_
          refine G.next_ hK56 ?_
          refine G.seq fun K57 hK58 => ?_
          refine G.yes rfl (rng_more hd33) ?_
          refine G.skip ?_
          refine G.next_ hK58 ?_
          refine G.seq fun K59 hK60 => ?_
          refine G.block ?_
          refine G.seq fun K61 hK62 => ?_
          refine G.region ?_
          have h63 := h26.up u50
          refine G.at_rd (i := i30) (y := y31) rfl rfl rfl Tryd.runUnderlying22 Tryd.sizeOf27 h63 (rng_at hd33) ?_
          intro b64 o65 cs66 hC67 hl68 hR69
          have hR69_ := o_T_Range hR69; subst hR69_
          refine G.loadN (o := o65) (j := 0) (cs := [.int .i64 y31.fLow, .int .i64 y31.fHigh]) (c1 := [.int .i64 y31.fLow, .int .i64 y31.fHigh]) rfl rfl Tryd.isAgg27 Tryd.sizeOf27 hC67 rfl rfl rfl (Nat.le_of_ble_eq_true rfl) ?_
          refine G.alloc (z := .agg [.int .i64 0, .int .i64 0].toArray) (cs := [.int .i64 0, .int .i64 0]) rfl Tryd.zeroValue27 rfl ?_
          intro g70 w71 hg73 le74 hB75
          have u72 := Up.of_le hU54.live le74
          have hU76 := hU54.trans0 u72
          have lt77 := lt_of_block hB75
          have hn79 : ¬ S49 g70 := fun hs => by have := hU54.live _ hs; omega
          refine G.store (g := g70) (o := 0) (cs := [.int .i64 0, .int .i64 0]) (c1 := [.int .i64 y31.fLow, .int .i64 y31.fHigh]) (cs' := [.int .i64 y31.fLow, .int .i64 y31.fHigh]) (v := .agg [.int .i64 y31.fLow, .int .i64 y31.fHigh].toArray) rfl rfl rfl Tryd.sizeOf27 hB75 (List.forall_mem_cons.2 ⟨rfl, List.forall_mem_cons.2 ⟨rfl, List.forall_mem_nil _⟩⟩) (Nat.le_of_ble_eq_true rfl) rfl ?_
          intro w80 le81 hB82
          have u83 := Up.store hU76.live hn79 le81
          have hU84 := hU76.trans u83 (in_one (.inr (by have := hU54.le.size; have := hg73; omega)))
          refine G.nil ?_
          refine G.keep_ (L' := [(5, v51), (7, .pointer (some ⟨g70, 0, none⟩)), (14, v0_0), (15, .int .i64 (a0.length : Int)), (16, .int .i64 (i30 : Int))]) (is := [5, 7, 14, 15, 16]) rfl ?_
          refine G.next_ hK62 ?_
          refine G.seq fun K85 hK86 => ?_
          refine G.region ?_
          refine G.fieldAddr (o' := 0) rfl rfl Tryd.runUnderlying27 rfl Tryd.sizeOf3 rfl ?_
          refine G.load1 (o := 0) (j := 0) (cs := [.int .i64 y31.fLow, .int .i64 y31.fHigh]) (v := .int .i64 y31.fLow) rfl rfl Tryd.isAgg3 (Cs.of_block hB82) rfl rfl ?_
          refine G.bind fun r87 hr88 => ?_
          have hc89 := strconv_Itoa_ok hU84.live (hV0.up hU84) y31.fLow hr88
          refine G.call (R := strconv_Itoa.Post S49 w80 r87) (vs := [.int .i64 y31.fLow]) rfl rfl Tryd.call11 ?_ ?_
          · exact hc89
          rintro _ w91 ⟨S90, u92, rfl⟩
          have hU93 := hU84.trans0 u92
          refine G.assign (v := bs r87) rfl rfl ?_
          refine G.nil ?_
          refine G.keep_ (L' := [(5, v51), (7, .pointer (some ⟨g70, 0, none⟩)), (8, bs r87), (14, v0_0), (15, .int .i64 (a0.length : Int)), (16, .int .i64 (i30 : Int))]) (is := [5, 7, 8, 14, 15, 16]) rfl ?_
          refine G.next_ hK86 ?_
          refine G.seq fun K94 hK95 => ?_
          refine G.seq fun K96 hK97 => ?_
          refine G.region ?_
          refine G.fieldAddr (o' := 1) rfl rfl Tryd.runUnderlying27 rfl Tryd.sizeOf3 rfl ?_
          have hB98 := u92.le.kept0 hB82
          refine G.load1 (o := 0) (j := 1) (cs := [.int .i64 y31.fLow, .int .i64 y31.fHigh]) (v := .int .i64 y31.fHigh) rfl rfl Tryd.isAgg3 (Cs.of_block hB98) rfl rfl ?_
          refine G.fieldAddr (o' := 0) rfl rfl Tryd.runUnderlying27 rfl Tryd.sizeOf3 rfl ?_
          refine G.load1 (o := 0) (j := 0) (cs := [.int .i64 y31.fLow, .int .i64 y31.fHigh]) (v := .int .i64 y31.fLow) rfl rfl Tryd.isAgg3 (Cs.of_block hB98) rfl rfl ?_
          refine G.bin (u := .int .i64 y31.fHigh) (v := .int .i64 y31.fLow) (r := .bool (y31.fHigh != y31.fLow)) rfl rfl rfl b_neq ?_
          refine G.nil ?_
          refine G.keep_ (L' := [(5, v51), (7, .pointer (some ⟨g70, 0, none⟩)), (8, bs r87), (14, v0_0), (15, .int .i64 (a0.length : Int)), (16, .int .i64 (i30 : Int)), (27, .bool (y31.fHigh != y31.fLow))]) (is := [5, 7, 8, 14, 15, 16, 27]) rfl ?_
          refine G.next_ hK97 ?_
          have h99 := h52.up0 u72
          have nb101 : g70 ∉ ob v51 := fun hm => by have := h52.lt _ hm; have := hg73; omega
          have h100 := h99.up u83 (fun k hk => nm_one (fun e => nb101 (e ▸ hk)))
          have h102 := h100.up0 u92
          have hn103 := fun hs => hn79 (u83.old g70 (by have := lt77; omega) hs)
          have hn104 := fun hs => hn103 (u92.old g70 (by have := u83.le.size; have := lt77; omega) hs)
          refine G.join (E := fun b a w' => ∃ (S_ : Nat → Prop), Fr 41 [(5, v51), (8, bs b), (14, v0_0), (15, .int .i64 (a0.length : Int)), (16, .int .i64 (i30 : Int))] a ∧ Up [] S90 w91 S_ w') ?_ ?_
          · intro b hF105
            refine G.cond (b := (y31.fHigh != y31.fLow)) rfl (fun hc106 => ?_) (fun hc106 => ?_)
            · refine G.keep_ (L' := [(5, v51), (7, .pointer (some ⟨g70, 0, none⟩)), (8, bs r87), (14, v0_0), (15, .int .i64 (a0.length : Int)), (16, .int .i64 (i30 : Int))]) (is := [5, 7, 8, 14, 15, 16]) rfl ?_
              refine G.region ?_
              refine G.move (v := bs r87) rfl rfl ?_
              refine G.fieldAddr (o' := 1) rfl rfl Tryd.runUnderlying27 rfl Tryd.sizeOf3 rfl ?_
              refine G.load1 (o := 0) (j := 1) (cs := [.int .i64 y31.fLow, .int .i64 y31.fHigh]) (v := .int .i64 y31.fHigh) rfl rfl Tryd.isAgg3 (Cs.of_block hB98) rfl rfl ?_
              refine G.bind fun r107 hr108 => ?_
              have hc109 := strconv_Itoa_ok hU93.live (hV0.up hU93) y31.fHigh hr108
              refine G.call (R := strconv_Itoa.Post S90 w91 r107) (vs := [.int .i64 y31.fHigh]) rfl rfl Tryd.call11 ?_ ?_
              · exact hc109
              rintro _ w111 ⟨S110, u112, rfl⟩
              have hU113 := hU93.trans0 u112
              refine G.cat (a := ([45] : Str)) (b := r107) rfl rfl rfl ?_
              intro s114 hs115
              refine G.cat (a := r87) (b := s114) rfl rfl rfl ?_
              intro s116 hs117
              refine G.assign (v := bs s116) rfl rfl ?_
              refine G.nil ?_
              refine G.keep_ (L' := [(5, v51), (8, bs s116), (14, v0_0), (15, .int .i64 (a0.length : Int)), (16, .int .i64 (i30 : Int))]) (is := [5, 8, 14, 15, 16]) rfl ?_
              refine G.keep_ (L' := [(5, v51), (8, bs s116), (14, v0_0), (15, .int .i64 (a0.length : Int)), (16, .int .i64 (i30 : Int))]) (is := [5, 8, 14, 15, 16]) rfl ?_
              refine G.finE ?_
              rintro rfl a ha
              exact ⟨_, ha, ((Up.refl' hU93.live (in_nil)).trans0 u112)⟩
            · refine G.keep_ (L' := [(5, v51), (8, bs r87), (14, v0_0), (15, .int .i64 (a0.length : Int)), (16, .int .i64 (i30 : Int))]) (is := [5, 8, 14, 15, 16]) rfl ?_
              refine G.skip ?_
              refine G.keep_ (L' := [(5, v51), (8, bs r87), (14, v0_0), (15, .int .i64 (a0.length : Int)), (16, .int .i64 (i30 : Int))]) (is := [5, 8, 14, 15, 16]) rfl ?_
              refine G.finE ?_
              rintro rfl a ha
              exact ⟨_, ha, (Up.refl' hU93.live (in_nil))⟩
          · rintro b118 hb141 a w120 ⟨S121, ha119, u122⟩ hF142
            refine G.use hF142 ha119 ?_
            have hU123 := hU93.trans0 u122
            refine G.next_ hK95 ?_
            refine G.region ?_
            refine G.move (v := v51) rfl rfl ?_
            refine G.move (v := bs b118) rfl rfl ?_
            refine G.buildSlice (ys := ([b118] : List Str)) (xs := [.tmp 35]) (vs := [bs b118]) (cs := [bs b118]) rfl elt38 rfl rfl rfl (by decide) rfl (List.forall_mem_cons.2 ⟨rfl, List.forall_mem_nil _⟩) (rfl) (RdX.one (enc := eS) (x := b118) (Rd.val_iff.2 rfl) rfl) hU123.le.size hU123.live ?_
            intro v124 w125 u126 h127 hw128
            have hU129 := hU123.trans0 u126
            have h130 := h102.up0 u122
            have h131 := h130.up0 u126
            refine G.append (xs := x29) (ys := ([b118] : List Str)) (lim := 8796093022208) rfl elt38 rfl rfl (by decide) (by decide) (fun _ => one_S) h131 h127.src hU129.le.size hU129.live ?_
            intro l132 v133 w134 hz135 u136 h137 ho138
            have hU139 := hU129.trans u136 (fun m hm => .inr (h131.born m hm))
            refine G.assign (v := v133) rfl rfl ?_
            refine G.nil ?_
            refine G.keep_ (L' := [(5, v133), (14, v0_0), (15, .int .i64 (a0.length : Int)), (16, .int .i64 (i30 : Int))]) (is := [5, 14, 15, 16]) rfl ?_
            refine G.inB ?_
            refine G.next_ hK60 ?_
            refine G.region ?_
            refine G.incr (i := i30) (N := a0.length) rfl rfl rfl (rng_lt hd33) (h26.length_le) ?_
            refine G.move (v := .int .i64 ((i30 + 1 : Nat) : Int)) rfl rfl ?_
            refine G.nil ?_
            refine G.keep_ (L' := [(5, v133), (14, v0_0), (15, .int .i64 (a0.length : Int)), (16, .int .i64 ((i30 + 1 : Nat) : Int))]) (is := [5, 14, 15, 16]) rfl ?_
            refine G.keep_ (L' := [(5, v133), (14, v0_0), (15, .int .i64 (a0.length : Int)), (16, .int .i64 ((i30 + 1 : Nat) : Int))]) (is := [5, 14, 15, 16]) rfl ?_
            refine G.again ?_
            intro hl140 a ha
            exact ⟨_, Nat.lt_succ_self _, rest32, i30 + 1, l132, rfl, hl140, rng_next hd33, v133, _, ha, ((((((((Up.refl' hU13.live (in_nil)).trans0 u50).trans0 u72).trans u83 (in_one (.inr (by have := u50.le.size; have := hg73; omega)))).trans0 u92).trans0 u122).trans0 u126).trans u136 (fun k hk => .inr ((org0_step ho53 (fun k hk => absurd hk (by simp [ob_nil])) (by omega)) k hk))), h137, fun k hk => .inr ((org0_step ho138 (org0_step ho53 (fun k hk => absurd hk (by simp [ob_nil])) (by omega)) (by have := u50.le.size; have := u72.le.size; have := u83.le.size; have := u92.le.size; have := u122.le.size; have := u126.le.size; omega)) k hk)⟩
    · rintro b144 hb166 a w146 ⟨v149, S147, ha145, u148, h150, ho151⟩ hF167
      refine G.use hF167 ha145 ?_
      have hU152 := hU13.trans0 u148
      refine G.next_ hK23 ?_
      refine G.seq fun K153 hK154 => ?_
      refine G.region ?_
      refine G.move (v := v149) rfl rfl ?_
      obtain ⟨S155, hS155⟩ : ∃ X : Nat → Prop, X = fun b => S147 b ∨ b ∈ ob v149 := ⟨_, rfl⟩
      have hU156 : Up [] S0 w0 S155 w146 := by rw [hS155]; exact Up.freeze hU152 h150.born h150.lt
      have h157 : RdL _ _ S155 _ _ _ := h150.read (by rw [hS155]; exact fun _ h => .inl h) (by rw [hS155]; exact fun _ h => .inr h)
      refine G.bind fun r158 hr159 => ?_
      have hc160 := strings_Join_ok hU156.live b144 [44] v149 h157 hr159
      refine G.call (R := strings_Join.Post S155 w146 r158) (vs := [v149, bs [44]]) rfl rfl Tryd.call12 ?_ ?_
      · exact hc160
      rintro _ w162 ⟨S161, u163, rfl⟩
      have hU164 := hU156.trans0 u163
      refine G.assign (v := bs r158) rfl rfl ?_
      refine G.assign (v := .int .i64 0) rfl rfl ?_
      refine G.nil ?_
      refine G.keep_ (L' := [(2, bs r158), (3, .int .i64 0)]) (is := [2, 3]) rfl ?_
      refine G.next_ hK154 ?_
      refine G.ret ?_
      refine G.ret2 (v := bs r158) (v' := .int .i64 0) Tryd.results4 rfl rfl (fun hF165 => ?_)
      obtain rfl := Option.some.inj hF165
      exact ⟨_, hU164, rfl⟩
/-! roadstead/roadlaw5.pairs -/
def roadlaw5_pairs.l1  : List (T_Range) → (List A2_Int) → Option (List A2_Int)
  | [], x11 => some x11
  | y13 :: rest14, x11 => (app 8796093022208 x11 ([(A2_Int.mk y13.fLow y13.fHigh)] : List A2_Int)).bind fun l77 => roadlaw5_pairs.l1 rest14 l77

theorem roadlaw5_pairs.l1_nil  {x11 : List A2_Int} : roadlaw5_pairs.l1  [] x11 = some x11 := rfl
theorem roadlaw5_pairs.l1_cons  {y13 : T_Range} {rest14 : List (T_Range)} {x11 : List A2_Int} : roadlaw5_pairs.l1  (y13 :: rest14) x11 = (app 8796093022208 x11 ([(A2_Int.mk y13.fLow y13.fHigh)] : List A2_Int)).bind fun l77 => roadlaw5_pairs.l1 rest14 l77 := rfl
def roadlaw5_pairs.Post (S : Nat → Prop) (w : World) (out : List A2_Int) (v : Value) (w' : World) : Prop := ∃ S', Up [] S w S' w' ∧ ∃ r0_0, v = r0_0 ∧ OwnL e_A2_Int 42 2 w.heap.size S' w' r0_0 out
def roadlaw5_pairs.Spec (F : (List T_Range) → Option (List A2_Int)) : Prop := ∀ {S : Nat → Prop} {w : World} (_ : ∀ b, S b → b < w.heap.size) (a0 : List T_Range) (v0_0 : Value) (_ : RdL e_T_Range 2 S w v0_0 a0) {out : List A2_Int}, F a0 = some out → Calls Tryd.prog 6 [v0_0].toArray w (Rets (roadlaw5_pairs.Post S w out))
def roadlaw5_pairs (a0 : List T_Range) : Option (List A2_Int) := (roadlaw5_pairs.l1 a0 ([] : List A2_Int)).bind fun b87 => some b87
set_option maxRecDepth 100000 in
theorem roadlaw5_pairs_ok : roadlaw5_pairs.Spec (roadlaw5_pairs ) := by
  intro S0 w0 hS0 a0 v0_0 h0_0 out hp
  have hU0 := Up.refl hS0
  refine calls_of_G (nt := 22) Tryd.func6 rfl Tryd.ntmps6 rfl ?_ hp
  unfold roadlaw5_pairs
  refine G.seq fun K1 hK2 => ?_
  refine G.region ?_
  refine G.assign (v := .slice none 0 0) rfl rfl ?_
  refine G.nil ?_
  refine G.keep_ (L' := [(0, v0_0)]) (is := [0]) rfl ?_
  refine G.next_ hK2 ?_
  refine G.seq fun K3 hK4 => ?_
  refine G.region ?_
  refine G.assign (v := .slice none 0 0) rfl rfl ?_
  refine G.nil ?_
  refine G.keep_ (L' := [(0, v0_0), (3, .slice none 0 0)]) (is := [0, 3]) rfl ?_
  refine G.next_ hK4 ?_
  refine G.seq fun K5 hK6 => ?_
  refine G.seq fun K7 hK8 => ?_
  refine G.region ?_
  refine G.move (v := v0_0) rfl rfl ?_
  refine G.len_rd rfl rfl Tryd.runUnderlying22 h0_0 ?_
  refine G.move (v := .int .i64 0) rfl rfl ?_
  refine G.nil ?_
  refine G.keep_ (L' := [(3, .slice none 0 0), (6, v0_0), (7, .int .i64 (a0.length : Int)), (8, .int .i64 0)]) (is := [3, 6, 7, 8]) rfl ?_
  refine G.next_ hK8 ?_
  refine G.join (E := fun b a w' => ∃ (v_slot_3 : Value) (S_ : Nat → Prop), Fr 22 [(3, v_slot_3)] a ∧ Up [] S0 w0 S_ w' ∧ OwnL e_A2_Int 42 2 w0.heap.size S_ w' v_slot_3 b ∧ (∀ k ∈ ob v_slot_3, k ∈ ob (.slice none 0 0) ∨ w0.heap.size ≤ k)) ?_ ?_
  · intro b hF9
    refine G.block ?_
    refine G.keep_ (L' := [(3, .slice none 0 0), (6, v0_0), (7, .int .i64 (a0.length : Int)), (8, .int .i64 ((0 : Nat) : Int))]) (is := [3, 6, 7, 8]) rfl ?_
    refine G.loop (fun k a w => ∃ (rest14 : List (T_Range)) (i12 : Nat) (x11 : List A2_Int), k = rest14.length ∧ roadlaw5_pairs.l1 rest14 x11 = some b ∧ a0.drop i12 = rest14 ∧ ∃ (v_slot_3 : Value) (S_ : Nat → Prop), Fr 22 [(3, v_slot_3), (6, v0_0), (7, .int .i64 (a0.length : Int)), (8, .int .i64 (i12 : Int))] a ∧ Up [] S0 w0 S_ w ∧ OwnL e_A2_Int 42 2 w0.heap.size S_ w v_slot_3 x11 ∧ (∀ k ∈ ob v_slot_3, k ∈ ob (.slice none 0 0) ∨ w0.heap.size ≤ k)) (a0.length) ?_ ?_
    · intro hl86 a ha
      exact ⟨a0, 0, ([] : List A2_Int), rfl, hl86, rfl, .slice none 0 0, _, ha, (Up.refl' hU0.live (in_nil)), OwnL.nil, fun k hk => .inr ((fun k hk => absurd hk (by simp [ob_nil])) k hk)⟩
    · rintro _ a ww ⟨rest14, i12, x11, rfl, hl10, hd15, hJ⟩
      rcases rest14 with _ | ⟨y13, rest14⟩
      · rw [roadlaw5_pairs.l1_nil] at hl10
        obtain ⟨w18, rfl⟩ : ∃ x : World, x = ww := ⟨ww, rfl⟩
        obtain ⟨v21, S19, ha17, u20, h22, ho23⟩ := hJ
        refine G.use hl10 ha17 ?_
        have hU24 := hU0.trans0 u20
        refine G.seq fun K25 hK26 => ?_
        refine G.region ?_
        refine G.bin (u := .int .i64 (i12 : Int)) (v := .int .i64 (a0.length : Int)) (r := .bool (decide ((i12 : Int) < (a0.length : Int)))) rfl rfl rfl b_lss ?_
        refine G.nil ?_
        refine G.keep_ (L' := [(3, v21), (6, v0_0), (7, .int .i64 (a0.length : Int)), (8, .int .i64 (i12 : Int)), (9, .bool (decide ((i12 : Int) < (a0.length : Int))))]) (is := [3, 6, 7, 8, 9]) rfl ?_
        refine G.next_ hK26 ?_
        refine G.seq fun K27 hK28 => ?_
        refine G.no rfl (rng_end hd15) ?_
        refine G.exit ?_
        refine G.thn_exit ?_
        refine G.thn_exit ?_
        refine G.inB_eq ?_
        refine G.keep_ (L' := [(3, v21)]) (is := [3]) rfl ?_
        refine G.finE ?_
        rintro rfl a ha
        exact ⟨v21, _, ha, ((Up.refl' hU0.live (in_nil)).trans0 u20), h22, fun k hk => .inr ((org0_step ho23 (fun k hk => absurd hk (by simp [ob_nil])) (by omega)) k hk)⟩
      · rw [roadlaw5_pairs.l1_cons] at hl10
        obtain ⟨w30, rfl⟩ : ∃ x : World, x = ww := ⟨ww, rfl⟩
        obtain ⟨v33, S31, ha29, u32, h34, ho35⟩ := hJ
        refine G.use hl10 ha29 ?_
        have hU36 := hU0.trans0 u32
        refine G.seq fun K37 hK38 => ?_
        refine G.region ?_
        refine G.bin (u := .int .i64 (i12 : Int)) (v := .int .i64 (a0.length : Int)) (r := .bool (decide ((i12 : Int) < (a0.length : Int)))) rfl rfl rfl b_lss ?_
        refine G.nil ?_
        refine G.keep_ (L' := [(3, v33), (6, v0_0), (7, .int .i64 (a0.length : Int)), (8, .int .i64 (i12 : Int)), (9, .bool (decide ((i12 : Int) < (a0.length : Int))))]) (is := [3, 6, 7, 8, 9]) rfl ?_
        refine G.next_ hK38 ?_
        refine G.seq fun K39 hK40 => ?_
        refine G.yes rfl (rng_more hd15) ?_
        refine G.skip ?_
        refine G.next_ hK40 ?_
        refine G.seq fun K41 hK42 => ?_
        refine G.block ?_
        refine G.seq fun K43 hK44 => ?_
        refine G.region ?_
        have h45 := h0_0.up u32
        refine G.at_rd (i := i12) (y := y13) rfl rfl rfl Tryd.runUnderlying22 Tryd.sizeOf27 h45 (rng_at hd15) ?_
        intro b46 o47 cs48 hC49 hl50 hR51
        have hR51_ := o_T_Range hR51; subst hR51_
        refine G.loadN (o := o47) (j := 0) (cs := [.int .i64 y13.fLow, .int .i64 y13.fHigh]) (c1 := [.int .i64 y13.fLow, .int .i64 y13.fHigh]) rfl rfl Tryd.isAgg27 Tryd.sizeOf27 hC49 rfl rfl rfl (Nat.le_of_ble_eq_true rfl) ?_
        refine G.alloc (z := .agg [.int .i64 0, .int .i64 0].toArray) (cs := [.int .i64 0, .int .i64 0]) rfl Tryd.zeroValue27 rfl ?_
        intro g52 w53 hg55 le56 hB57
        have u54 := Up.of_le hU36.live le56
        have hU58 := hU36.trans0 u54
        have lt59 := lt_of_block hB57
        have hn61 : ¬ S31 g52 := fun hs => by have := hU36.live _ hs; omega
        refine G.store (g := g52) (o := 0) (cs := [.int .i64 0, .int .i64 0]) (c1 := [.int .i64 y13.fLow, .int .i64 y13.fHigh]) (cs' := [.int .i64 y13.fLow, .int .i64 y13.fHigh]) (v := .agg [.int .i64 y13.fLow, .int .i64 y13.fHigh].toArray) rfl rfl rfl Tryd.sizeOf27 hB57 (List.forall_mem_cons.2 ⟨rfl, List.forall_mem_cons.2 ⟨rfl, List.forall_mem_nil _⟩⟩) (Nat.le_of_ble_eq_true rfl) rfl ?_
        intro w62 le63 hB64
        have u65 := Up.store hU58.live hn61 le63
        have hU66 := hU58.trans u65 (in_one (.inr (by have := hU36.le.size; have := hg55; omega)))
        refine G.nil ?_
        refine G.keep_ (L' := [(3, v33), (5, .pointer (some ⟨g52, 0, none⟩)), (6, v0_0), (7, .int .i64 (a0.length : Int)), (8, .int .i64 (i12 : Int))]) (is := [3, 5, 6, 7, 8]) rfl ?_
        refine G.next_ hK44 ?_
        refine G.region ?_
        refine G.move (v := v33) rfl rfl ?_
        refine G.fieldAddr (o' := 0) rfl rfl Tryd.runUnderlying27 rfl Tryd.sizeOf3 rfl ?_
        refine G.load1 (o := 0) (j := 0) (cs := [.int .i64 y13.fLow, .int .i64 y13.fHigh]) (v := .int .i64 y13.fLow) rfl rfl Tryd.isAgg3 (Cs.of_block hB64) rfl rfl ?_
        refine G.fieldAddr (o' := 1) rfl rfl Tryd.runUnderlying27 rfl Tryd.sizeOf3 rfl ?_
        refine G.load1 (o := 0) (j := 1) (cs := [.int .i64 y13.fLow, .int .i64 y13.fHigh]) (v := .int .i64 y13.fHigh) rfl rfl Tryd.isAgg3 (Cs.of_block hB64) rfl rfl ?_
        refine G.build (pv := [(0, .int .i64 y13.fLow), (1, .int .i64 y13.fHigh)]) (v := .agg [.int .i64 y13.fLow, .int .i64 y13.fHigh].toArray) rfl rfl (fun w => run_build w 42 _ _ (by kernel_rfl)) ?_
        refine G.buildSlice (ys := ([(A2_Int.mk y13.fLow y13.fHigh)] : List A2_Int)) (xs := [.tmp 17]) (vs := [.agg [.int .i64 y13.fLow, .int .i64 y13.fHigh].toArray]) (cs := [.int .i64 y13.fLow, .int .i64 y13.fHigh]) rfl elt29 rfl rfl rfl (by decide) rfl (List.forall_mem_cons.2 ⟨rfl, List.forall_mem_nil _⟩) (rfl) (RdX.one (enc := e_A2_Int) (x := (A2_Int.mk y13.fLow y13.fHigh)) (m_A2_Int (A2_Int.mk y13.fLow y13.fHigh)) rfl) hU66.le.size hU66.live ?_
        intro v67 w68 u69 h70 hw71
        have hU72 := hU66.trans0 u69
        have h73 := h34.up0 u54
        have nb75 : g52 ∉ ob v33 := fun hm => by have := h34.lt _ hm; have := hg55; omega
        have h74 := h73.up u65 (fun k hk => nm_one (fun e => nb75 (e ▸ hk)))
        have h76 := h74.up0 u69
        refine G.append (xs := x11) (ys := ([(A2_Int.mk y13.fLow y13.fHigh)] : List A2_Int)) (lim := 8796093022208) rfl elt29 rfl rfl (by decide) (by decide) one_A2_Int h76 h70.src hU72.le.size hU72.live ?_
        intro l77 v78 w79 hz80 u81 h82 ho83
        have hU84 := hU72.trans u81 (fun m hm => .inr (h76.born m hm))
        refine G.assign (v := v78) rfl rfl ?_
        refine G.nil ?_
        refine G.keep_ (L' := [(3, v78), (6, v0_0), (7, .int .i64 (a0.length : Int)), (8, .int .i64 (i12 : Int))]) (is := [3, 6, 7, 8]) rfl ?_
        refine G.inB ?_
        refine G.next_ hK42 ?_
        refine G.region ?_
        refine G.incr (i := i12) (N := a0.length) rfl rfl rfl (rng_lt hd15) (h0_0.length_le) ?_
        refine G.move (v := .int .i64 ((i12 + 1 : Nat) : Int)) rfl rfl ?_
        refine G.nil ?_
        refine G.keep_ (L' := [(3, v78), (6, v0_0), (7, .int .i64 (a0.length : Int)), (8, .int .i64 ((i12 + 1 : Nat) : Int))]) (is := [3, 6, 7, 8]) rfl ?_
        refine G.keep_ (L' := [(3, v78), (6, v0_0), (7, .int .i64 (a0.length : Int)), (8, .int .i64 ((i12 + 1 : Nat) : Int))]) (is := [3, 6, 7, 8]) rfl ?_
        refine G.again ?_
        intro hl85 a ha
        exact ⟨_, Nat.lt_succ_self _, rest14, i12 + 1, l77, rfl, hl85, rng_next hd15, v78, _, ha, ((((((Up.refl' hU0.live (in_nil)).trans0 u32).trans0 u54).trans u65 (in_one (.inr (by have := u32.le.size; have := hg55; omega)))).trans0 u69).trans u81 (fun k hk => .inr ((org0_step ho35 (fun k hk => absurd hk (by simp [ob_nil])) (by omega)) k hk))), h82, fun k hk => .inr ((org0_step ho83 (org0_step ho35 (fun k hk => absurd hk (by simp [ob_nil])) (by omega)) (by have := u32.le.size; have := u54.le.size; have := u65.le.size; have := u69.le.size; omega)) k hk)⟩
  · rintro b87 hb99 a w89 ⟨v92, S90, ha88, u91, h93, ho94⟩ hF100
    refine G.use hF100 ha88 ?_
    have hU95 := hU0.trans0 u91
    refine G.next_ hK6 ?_
    refine G.seq fun K96 hK97 => ?_
    refine G.region ?_
    refine G.move (v := v92) rfl rfl ?_
    refine G.assign (v := v92) rfl rfl ?_
    refine G.nil ?_
    refine G.keep_ (L' := [(2, v92)]) (is := [2]) rfl ?_
    refine G.next_ hK97 ?_
    refine G.ret ?_
    refine G.ret1 (v := v92) Tryd.results6 rfl (fun hF98 => ?_)
    obtain rfl := Option.some.inj hF98
    exact ⟨_, hU95, v92, rfl, h93⟩
/-! roadstead/roadref5.VersionFault -/
def roadref5_VersionFault.l1  : List (A2_Int) → Int → Option (Int ⊕ (Unit))
  | [], x19 => some (.inr ())
  | y21 :: rest22, x19 => (if (((decide (y21.e0 < 1)) || (decide (y21.e1 > 9999))) || (decide (y21.e0 > y21.e1))) = true then some (.inl 1) else (if ((decide (y21.e0 ≤ (addI x19 1))) && (decide (x19 > 0))) = true then some (.inl 21) else roadref5_VersionFault.l1 rest22 y21.e1))

theorem roadref5_VersionFault.l1_nil  {x19 : Int} : roadref5_VersionFault.l1  [] x19 = some (.inr ()) := rfl
theorem roadref5_VersionFault.l1_cons  {y21 : A2_Int} {rest22 : List (A2_Int)} {x19 : Int} : roadref5_VersionFault.l1  (y21 :: rest22) x19 = (if (((decide (y21.e0 < 1)) || (decide (y21.e1 > 9999))) || (decide (y21.e0 > y21.e1))) = true then some (.inl 1) else (if ((decide (y21.e0 ≤ (addI x19 1))) && (decide (x19 > 0))) = true then some (.inl 21) else roadref5_VersionFault.l1 rest22 y21.e1)) := rfl
def roadref5_VersionFault.Post (S : Nat → Prop) (w : World) (out : Int) (v : Value) (w' : World) : Prop := ∃ S', Up [] S w S' w' ∧ v = .int .i64 out
def roadref5_VersionFault.Spec (F : (List A2_Int) → Option (Int)) : Prop := ∀ {S : Nat → Prop} {w : World} (_ : ∀ b, S b → b < w.heap.size) (a0 : List A2_Int) (v0_0 : Value) (_ : RdL e_A2_Int 2 S w v0_0 a0) {out : Int}, F a0 = some out → Calls Tryd.prog 13 [v0_0].toArray w (Rets (roadref5_VersionFault.Post S w out))
def roadref5_VersionFault (a0 : List A2_Int) : Option (Int) := (if (decide ((a0.length : Int) > 50)) = true then some 2 else (roadref5_VersionFault.l1 a0 (-1)).bind (retOr fun b94 => some 0))
set_option maxRecDepth 100000 in
theorem roadref5_VersionFault_ok : roadref5_VersionFault.Spec (roadref5_VersionFault ) := by
  intro S0 w0 hS0 a0 v0_0 h0_0 out hp
  have hU0 := Up.refl hS0
  refine calls_of_G (nt := 42) Tryd.func13 rfl Tryd.ntmps13 rfl ?_ hp
  unfold roadref5_VersionFault
  refine G.seq fun K1 hK2 => ?_
  refine G.region ?_
  refine G.assign (v := .int .i64 0) rfl rfl ?_
  refine G.nil ?_
  refine G.keep_ (L' := [(0, v0_0)]) (is := [0]) rfl ?_
  refine G.next_ hK2 ?_
  refine G.seq fun K3 hK4 => ?_
  refine G.seq fun K5 hK6 => ?_
  refine G.region ?_
  refine G.move (v := v0_0) rfl rfl ?_
  refine G.len_rd rfl rfl Tryd.runUnderlying29 h0_0 ?_
  refine G.bin (u := .int .i64 (a0.length : Int)) (v := .int .i64 50) (r := .bool (decide ((a0.length : Int) > 50))) rfl rfl rfl b_gtr ?_
  refine G.nil ?_
  refine G.keep_ (L' := [(0, v0_0), (8, .bool (decide ((a0.length : Int) > 50)))]) (is := [0, 8]) rfl ?_
  refine G.next_ hK6 ?_
  refine G.cond (b := (decide ((a0.length : Int) > 50))) rfl (fun hc7 => ?_) (fun hc7 => ?_)
  · refine G.keep_ (L' := []) (is := []) rfl ?_
    refine G.seq fun K8 hK9 => ?_
    refine G.region ?_
    refine G.assign (v := .int .i64 2) rfl rfl ?_
    refine G.nil ?_
    refine G.keep_ (L' := [(2, .int .i64 2)]) (is := [2]) rfl ?_
    refine G.next_ hK9 ?_
    refine G.ret ?_
    refine G.thn_ret ?_
    refine G.ret1 (v := .int .i64 2) Tryd.results13 rfl (fun hF10 => ?_)
    obtain rfl := Option.some.inj hF10
    exact ⟨_, hU0, rfl⟩
  · refine G.keep_ (L' := [(0, v0_0)]) (is := [0]) rfl ?_
    refine G.skip ?_
    refine G.next_ hK4 ?_
    refine G.seq fun K11 hK12 => ?_
    refine G.region ?_
    refine G.assign (v := .int .i64 (-1)) rfl rfl ?_
    refine G.nil ?_
    refine G.keep_ (L' := [(0, v0_0), (3, .int .i64 (-1))]) (is := [0, 3]) rfl ?_
    refine G.next_ hK12 ?_
    refine G.seq fun K13 hK14 => ?_
    refine G.seq fun K15 hK16 => ?_
    refine G.region ?_
    refine G.move (v := v0_0) rfl rfl ?_
    refine G.len_rd rfl rfl Tryd.runUnderlying29 h0_0 ?_
    refine G.move (v := .int .i64 0) rfl rfl ?_
    refine G.nil ?_
    refine G.keep_ (L' := [(3, .int .i64 (-1)), (9, v0_0), (10, .int .i64 (a0.length : Int)), (11, .int .i64 0)]) (is := [3, 9, 10, 11]) rfl ?_
    refine G.next_ hK16 ?_
    refine G.join (E := fun o a w' => ∃ b, o = .inr b ∧ ∃ (S_ : Nat → Prop), Fr 42 [] a ∧ Up [] S0 w0 S_ w') ?_ ?_
    · intro b hF17
      refine G.block ?_
      refine G.keep_ (L' := [(3, .int .i64 (-1)), (9, v0_0), (10, .int .i64 (a0.length : Int)), (11, .int .i64 ((0 : Nat) : Int))]) (is := [3, 9, 10, 11]) rfl ?_
      refine G.loop (fun k a w => ∃ (rest22 : List (A2_Int)) (i20 : Nat) (x19 : Int), k = rest22.length ∧ roadref5_VersionFault.l1 rest22 x19 = some b ∧ a0.drop i20 = rest22 ∧ ∃ (S_ : Nat → Prop), Fr 42 [(3, .int .i64 x19), (9, v0_0), (10, .int .i64 (a0.length : Int)), (11, .int .i64 (i20 : Int))] a ∧ Up [] S0 w0 S_ w) (a0.length) ?_ ?_
      · intro hl93 a ha
        exact ⟨a0, 0, (-1), rfl, hl93, rfl, _, ha, (Up.refl' hU0.live (in_nil))⟩
      · rintro _ a ww ⟨rest22, i20, x19, rfl, hl18, hd23, hJ⟩
        rcases rest22 with _ | ⟨y21, rest22⟩
        · rw [roadref5_VersionFault.l1_nil] at hl18
          obtain ⟨w26, rfl⟩ : ∃ x : World, x = ww := ⟨ww, rfl⟩
          obtain ⟨S27, ha25, u28⟩ := hJ
          refine G.use hl18 ha25 ?_
          have hU29 := hU0.trans0 u28
          refine G.seq fun K30 hK31 => ?_
          refine G.region ?_
          refine G.bin (u := .int .i64 (i20 : Int)) (v := .int .i64 (a0.length : Int)) (r := .bool (decide ((i20 : Int) < (a0.length : Int)))) rfl rfl rfl b_lss ?_
          refine G.nil ?_
          refine G.keep_ (L' := [(3, .int .i64 x19), (9, v0_0), (10, .int .i64 (a0.length : Int)), (11, .int .i64 (i20 : Int)), (12, .bool (decide ((i20 : Int) < (a0.length : Int))))]) (is := [3, 9, 10, 11, 12]) rfl ?_
          refine G.next_ hK31 ?_
          refine G.seq fun K32 hK33 => ?_
          refine G.no rfl (rng_end hd23) ?_
          refine G.exit ?_
          refine G.thn_exit ?_
          refine G.thn_exit ?_
          refine G.inB_eq ?_
          refine G.keep_ (L' := []) (is := []) rfl ?_
          refine G.finE ?_
          rintro rfl a ha
          exact ⟨_, rfl, ⟨_, ha, ((Up.refl' hU0.live (in_nil)).trans0 u28)⟩⟩
        · rw [roadref5_VersionFault.l1_cons] at hl18
          obtain ⟨w35, rfl⟩ : ∃ x : World, x = ww := ⟨ww, rfl⟩
          obtain ⟨S36, ha34, u37⟩ := hJ
          refine G.use hl18 ha34 ?_
          have hU38 := hU0.trans0 u37
          refine G.seq fun K39 hK40 => ?_
          refine G.region ?_
          refine G.bin (u := .int .i64 (i20 : Int)) (v := .int .i64 (a0.length : Int)) (r := .bool (decide ((i20 : Int) < (a0.length : Int)))) rfl rfl rfl b_lss ?_
          refine G.nil ?_
          refine G.keep_ (L' := [(3, .int .i64 x19), (9, v0_0), (10, .int .i64 (a0.length : Int)), (11, .int .i64 (i20 : Int)), (12, .bool (decide ((i20 : Int) < (a0.length : Int))))]) (is := [3, 9, 10, 11, 12]) rfl ?_
          refine G.next_ hK40 ?_
          refine G.seq fun K41 hK42 => ?_
          refine G.yes rfl (rng_more hd23) ?_
          refine G.skip ?_
          refine G.next_ hK42 ?_
          refine G.seq fun K43 hK44 => ?_
          refine G.block ?_
          refine G.seq fun K45 hK46 => ?_
          refine G.region ?_
          have h47 := h0_0.up u37
          refine G.at_rd (i := i20) (y := y21) rfl rfl rfl Tryd.runUnderlying29 Tryd.sizeOf42 h47 (rng_at hd23) ?_
          intro b48 o49 cs50 hC51 hl52 hR53
          have hR53_ := o_A2_Int hR53; subst hR53_
          refine G.loadN (o := o49) (j := 0) (cs := [.int .i64 y21.e0, .int .i64 y21.e1]) (c1 := [.int .i64 y21.e0, .int .i64 y21.e1]) rfl rfl Tryd.isAgg42 Tryd.sizeOf42 hC51 rfl rfl rfl (Nat.le_of_ble_eq_true rfl) ?_
          refine G.alloc (z := .agg [.int .i64 0, .int .i64 0].toArray) (cs := [.int .i64 0, .int .i64 0]) rfl Tryd.zeroValue42 rfl ?_
          intro g54 w55 hg57 le58 hB59
          have u56 := Up.of_le hU38.live le58
          have hU60 := hU38.trans0 u56
          have lt61 := lt_of_block hB59
          have hn63 : ¬ S36 g54 := fun hs => by have := hU38.live _ hs; omega
          refine G.store (g := g54) (o := 0) (cs := [.int .i64 0, .int .i64 0]) (c1 := [.int .i64 y21.e0, .int .i64 y21.e1]) (cs' := [.int .i64 y21.e0, .int .i64 y21.e1]) (v := .agg [.int .i64 y21.e0, .int .i64 y21.e1].toArray) rfl rfl rfl Tryd.sizeOf42 hB59 (List.forall_mem_cons.2 ⟨rfl, List.forall_mem_cons.2 ⟨rfl, List.forall_mem_nil _⟩⟩) (Nat.le_of_ble_eq_true rfl) rfl ?_
          intro w64 le65 hB66
          have u67 := Up.store hU60.live hn63 le65
          have hU68 := hU60.trans u67 (in_one (.inr (by have := hU38.le.size; have := hg57; omega)))
          refine G.nil ?_
          refine G.keep_ (L' := [(3, .int .i64 x19), (5, .pointer (some ⟨g54, 0, none⟩)), (9, v0_0), (10, .int .i64 (a0.length : Int)), (11, .int .i64 (i20 : Int))]) (is := [3, 5, 9, 10, 11]) rfl ?_
          refine G.next_ hK46 ?_
          refine G.seq fun K69 hK70 => ?_
          refine G.seq fun K71 hK72 => ?_
          refine G.region ?_
          refine G.arrAddr (i := 0) (o' := 0) rfl rfl rfl Tryd.runUnderlying42 Tryd.sizeOf3 rfl rfl ?_
          refine G.load1 (o := 0) (j := 0) (cs := [.int .i64 y21.e0, .int .i64 y21.e1]) (v := .int .i64 y21.e0) rfl rfl Tryd.isAgg3 (Cs.of_block hB66) rfl rfl ?_
          refine G.bin (u := .int .i64 y21.e0) (v := .int .i64 1) (r := .bool (decide (y21.e0 < 1))) rfl rfl rfl b_lss ?_
          refine G.move (v := .bool (decide (y21.e0 < 1))) rfl rfl ?_
          refine G.cut 4 (fun a w' => w64 = w' ∧ Fr 42 [(3, .int .i64 x19), (5, .pointer (some ⟨g54, 0, none⟩)), (9, v0_0), (10, .int .i64 (a0.length : Int)), (11, .int .i64 (i20 : Int)), (22, .bool ((decide (y21.e0 < 1)) || (decide (y21.e1 > 9999))))] a) ?_ ?_
          · refine G.byb (c := (decide (y21.e0 < 1))) (fun hc73 => ?_) (fun hc73 => ?_)
            · refine G.skip_s rfl rfl hc73 rfl ?_
              refine G.skip_s rfl rfl hc73 rfl ?_
              refine G.skip_s rfl rfl hc73 rfl ?_
              refine G.pick_yes (u := .bool true) rfl rfl hc73 rfl ?_
              refine G.recast (or_yes (x := (decide (y21.e1 > 9999))) hc73) ?_
              refine G.nil ?_
              refine G.keep_ (L' := [(3, .int .i64 x19), (5, .pointer (some ⟨g54, 0, none⟩)), (9, v0_0), (10, .int .i64 (a0.length : Int)), (11, .int .i64 (i20 : Int)), (22, .bool ((decide (y21.e0 < 1)) || (decide (y21.e1 > 9999))))]) (is := [3, 5, 9, 10, 11, 22]) rfl ?_
              exact G.finE fun _ a ha => ⟨rfl, ha⟩
            · refine G.guard_yes rfl rfl hc73 ?_
              refine G.arrAddr (i := 1) (o' := 1) rfl rfl rfl Tryd.runUnderlying42 Tryd.sizeOf3 rfl rfl ?_
              refine G.guard_yes rfl rfl hc73 ?_
              refine G.load1 (o := 0) (j := 1) (cs := [.int .i64 y21.e0, .int .i64 y21.e1]) (v := .int .i64 y21.e1) rfl rfl Tryd.isAgg3 (Cs.of_block hB66) rfl rfl ?_
              refine G.guard_yes rfl rfl hc73 ?_
              refine G.bin (u := .int .i64 y21.e1) (v := .int .i64 9999) (r := .bool (decide (y21.e1 > 9999))) rfl rfl rfl b_gtr ?_
              refine G.pick_no (u := .bool (decide (y21.e1 > 9999))) rfl rfl hc73 rfl ?_
              refine G.recast (or_no (x := (decide (y21.e1 > 9999))) hc73) ?_
              refine G.nil ?_
              refine G.keep_ (L' := [(3, .int .i64 x19), (5, .pointer (some ⟨g54, 0, none⟩)), (9, v0_0), (10, .int .i64 (a0.length : Int)), (11, .int .i64 (i20 : Int)), (22, .bool ((decide (y21.e0 < 1)) || (decide (y21.e1 > 9999))))]) (is := [3, 5, 9, 10, 11, 22]) rfl ?_
              exact G.finE fun _ a ha => ⟨rfl, ha⟩
          · rintro a _ ⟨rfl, ha⟩ hF
            refine G.use hF ha ?_
            refine G.move (v := .bool ((decide (y21.e0 < 1)) || (decide (y21.e1 > 9999)))) rfl rfl ?_
            refine G.cut 6 (fun a w' => w64 = w' ∧ Fr 42 [(3, .int .i64 x19), (5, .pointer (some ⟨g54, 0, none⟩)), (9, v0_0), (10, .int .i64 (a0.length : Int)), (11, .int .i64 (i20 : Int)), (29, .bool (((decide (y21.e0 < 1)) || (decide (y21.e1 > 9999))) || (decide (y21.e0 > y21.e1))))] a) ?_ ?_
            · refine G.byb (c := ((decide (y21.e0 < 1)) || (decide (y21.e1 > 9999)))) (fun hc74 => ?_) (fun hc74 => ?_)
              · refine G.skip_s rfl rfl hc74 rfl ?_
                refine G.skip_s rfl rfl hc74 rfl ?_
                refine G.skip_s rfl rfl hc74 rfl ?_
                refine G.skip_s rfl rfl hc74 rfl ?_
                refine G.skip_s rfl rfl hc74 rfl ?_
                refine G.pick_yes (u := .bool true) rfl rfl hc74 rfl ?_
                refine G.recast (or_yes (x := (decide (y21.e0 > y21.e1))) hc74) ?_
                refine G.nil ?_
                refine G.keep_ (L' := [(3, .int .i64 x19), (5, .pointer (some ⟨g54, 0, none⟩)), (9, v0_0), (10, .int .i64 (a0.length : Int)), (11, .int .i64 (i20 : Int)), (29, .bool (((decide (y21.e0 < 1)) || (decide (y21.e1 > 9999))) || (decide (y21.e0 > y21.e1))))]) (is := [3, 5, 9, 10, 11, 29]) rfl ?_
                exact G.finE fun _ a ha => ⟨rfl, ha⟩
              · refine G.guard_yes rfl rfl hc74 ?_
                refine G.arrAddr (i := 0) (o' := 0) rfl rfl rfl Tryd.runUnderlying42 Tryd.sizeOf3 rfl rfl ?_
                refine G.guard_yes rfl rfl hc74 ?_
                refine G.load1 (o := 0) (j := 0) (cs := [.int .i64 y21.e0, .int .i64 y21.e1]) (v := .int .i64 y21.e0) rfl rfl Tryd.isAgg3 (Cs.of_block hB66) rfl rfl ?_
                refine G.guard_yes rfl rfl hc74 ?_
                refine G.arrAddr (i := 1) (o' := 1) rfl rfl rfl Tryd.runUnderlying42 Tryd.sizeOf3 rfl rfl ?_
                refine G.guard_yes rfl rfl hc74 ?_
                refine G.load1 (o := 0) (j := 1) (cs := [.int .i64 y21.e0, .int .i64 y21.e1]) (v := .int .i64 y21.e1) rfl rfl Tryd.isAgg3 (Cs.of_block hB66) rfl rfl ?_
                refine G.guard_yes rfl rfl hc74 ?_
                refine G.bin (u := .int .i64 y21.e0) (v := .int .i64 y21.e1) (r := .bool (decide (y21.e0 > y21.e1))) rfl rfl rfl b_gtr ?_
                refine G.pick_no (u := .bool (decide (y21.e0 > y21.e1))) rfl rfl hc74 rfl ?_
                refine G.recast (or_no (x := (decide (y21.e0 > y21.e1))) hc74) ?_
                refine G.nil ?_
                refine G.keep_ (L' := [(3, .int .i64 x19), (5, .pointer (some ⟨g54, 0, none⟩)), (9, v0_0), (10, .int .i64 (a0.length : Int)), (11, .int .i64 (i20 : Int)), (29, .bool (((decide (y21.e0 < 1)) || (decide (y21.e1 > 9999))) || (decide (y21.e0 > y21.e1))))]) (is := [3, 5, 9, 10, 11, 29]) rfl ?_
                exact G.finE fun _ a ha => ⟨rfl, ha⟩
            · rintro a _ ⟨rfl, ha⟩ hF
              refine G.use hF ha ?_
              refine G.nil ?_
              refine G.keep_ (L' := [(3, .int .i64 x19), (5, .pointer (some ⟨g54, 0, none⟩)), (9, v0_0), (10, .int .i64 (a0.length : Int)), (11, .int .i64 (i20 : Int)), (29, .bool (((decide (y21.e0 < 1)) || (decide (y21.e1 > 9999))) || (decide (y21.e0 > y21.e1))))]) (is := [3, 5, 9, 10, 11, 29]) rfl ?_
              refine G.next_ hK72 ?_
              refine G.cond (b := (((decide (y21.e0 < 1)) || (decide (y21.e1 > 9999))) || (decide (y21.e0 > y21.e1)))) rfl (fun hc75 => ?_) (fun hc75 => ?_)
              · refine G.keep_ (L' := []) (is := []) rfl ?_
                refine G.seq fun K76 hK77 => ?_
                refine G.region ?_
                refine G.assign (v := .int .i64 1) rfl rfl ?_
                refine G.nil ?_
                refine G.keep_ (L' := [(2, .int .i64 1)]) (is := [2]) rfl ?_
                refine G.next_ hK77 ?_
                refine G.ret ?_
                refine G.thn_ret ?_
                refine G.inB_ret ?_
                refine G.thn_ret ?_
                refine G.thn_ret ?_
                refine G.inB_ret ?_
                refine G.thn_ret ?_
                refine G.thn_ret ?_
                refine G.ret1 (v := .int .i64 1) Tryd.results13 rfl (fun hF78 => ?_)
                have hb79 := Option.some.inj hF78
                subst hb79
                have hF80 : (some 1 : Option (Int)) = some _ := hF17
                obtain rfl := Option.some.inj hF80
                exact ⟨_, hU68, rfl⟩
              · refine G.keep_ (L' := [(3, .int .i64 x19), (5, .pointer (some ⟨g54, 0, none⟩)), (9, v0_0), (10, .int .i64 (a0.length : Int)), (11, .int .i64 (i20 : Int))]) (is := [3, 5, 9, 10, 11]) rfl ?_
                refine G.skip ?_
                refine G.next_ hK70 ?_
                refine G.seq fun K81 hK82 => ?_
                refine G.seq fun K83 hK84 => ?_
                refine G.region ?_
                refine G.arrAddr (i := 0) (o' := 0) rfl rfl rfl Tryd.runUnderlying42 Tryd.sizeOf3 rfl rfl ?_
                refine G.load1 (o := 0) (j := 0) (cs := [.int .i64 y21.e0, .int .i64 y21.e1]) (v := .int .i64 y21.e0) rfl rfl Tryd.isAgg3 (Cs.of_block hB66) rfl rfl ?_
                refine G.move (v := .int .i64 x19) rfl rfl ?_
                refine G.bin (u := .int .i64 x19) (v := .int .i64 1) (r := .int .i64 (addI x19 1)) rfl rfl rfl b_add ?_
                refine G.bin (u := .int .i64 y21.e0) (v := .int .i64 (addI x19 1)) (r := .bool (decide (y21.e0 ≤ (addI x19 1)))) rfl rfl rfl b_leq ?_
                refine G.move (v := .bool (decide (y21.e0 ≤ (addI x19 1)))) rfl rfl ?_
                refine G.cut 3 (fun a w' => w64 = w' ∧ Fr 42 [(5, .pointer (some ⟨g54, 0, none⟩)), (9, v0_0), (10, .int .i64 (a0.length : Int)), (11, .int .i64 (i20 : Int)), (38, .bool ((decide (y21.e0 ≤ (addI x19 1))) && (decide (x19 > 0))))] a) ?_ ?_
                · refine G.byb (c := (decide (y21.e0 ≤ (addI x19 1)))) (fun hc85 => ?_) (fun hc85 => ?_)
                  · refine G.guard_yes rfl rfl hc85 ?_
                    refine G.move (v := .int .i64 x19) rfl rfl ?_
                    refine G.guard_yes rfl rfl hc85 ?_
                    refine G.bin (u := .int .i64 x19) (v := .int .i64 0) (r := .bool (decide (x19 > 0))) rfl rfl rfl b_gtr ?_
                    refine G.pick_yes (u := .bool (decide (x19 > 0))) rfl rfl hc85 rfl ?_
                    refine G.recast (and_yes (x := (decide (x19 > 0))) hc85) ?_
                    refine G.nil ?_
                    refine G.keep_ (L' := [(5, .pointer (some ⟨g54, 0, none⟩)), (9, v0_0), (10, .int .i64 (a0.length : Int)), (11, .int .i64 (i20 : Int)), (38, .bool ((decide (y21.e0 ≤ (addI x19 1))) && (decide (x19 > 0))))]) (is := [5, 9, 10, 11, 38]) rfl ?_
                    exact G.finE fun _ a ha => ⟨rfl, ha⟩
                  · refine G.skip_s rfl rfl hc85 rfl ?_
                    refine G.skip_s rfl rfl hc85 rfl ?_
                    refine G.pick_no (u := .bool false) rfl rfl hc85 rfl ?_
                    refine G.recast (and_no (x := (decide (x19 > 0))) hc85) ?_
                    refine G.nil ?_
                    refine G.keep_ (L' := [(5, .pointer (some ⟨g54, 0, none⟩)), (9, v0_0), (10, .int .i64 (a0.length : Int)), (11, .int .i64 (i20 : Int)), (38, .bool ((decide (y21.e0 ≤ (addI x19 1))) && (decide (x19 > 0))))]) (is := [5, 9, 10, 11, 38]) rfl ?_
                    exact G.finE fun _ a ha => ⟨rfl, ha⟩
                · rintro a _ ⟨rfl, ha⟩ hF
                  refine G.use hF ha ?_
                  refine G.nil ?_
                  refine G.keep_ (L' := [(5, .pointer (some ⟨g54, 0, none⟩)), (9, v0_0), (10, .int .i64 (a0.length : Int)), (11, .int .i64 (i20 : Int)), (38, .bool ((decide (y21.e0 ≤ (addI x19 1))) && (decide (x19 > 0))))]) (is := [5, 9, 10, 11, 38]) rfl ?_
                  refine G.next_ hK84 ?_
                  refine G.cond (b := ((decide (y21.e0 ≤ (addI x19 1))) && (decide (x19 > 0)))) rfl (fun hc86 => ?_) (fun hc86 => ?_)
                  · refine G.keep_ (L' := []) (is := []) rfl ?_
                    refine G.seq fun K87 hK88 => ?_
                    refine G.region ?_
                    refine G.assign (v := .int .i64 21) rfl rfl ?_
                    refine G.nil ?_
                    refine G.keep_ (L' := [(2, .int .i64 21)]) (is := [2]) rfl ?_
                    refine G.next_ hK88 ?_
                    refine G.ret ?_
                    refine G.thn_ret ?_
                    refine G.inB_ret ?_
                    refine G.thn_ret ?_
                    refine G.thn_ret ?_
                    refine G.inB_ret ?_
                    refine G.thn_ret ?_
                    refine G.thn_ret ?_
                    refine G.ret1 (v := .int .i64 21) Tryd.results13 rfl (fun hF89 => ?_)
                    have hb90 := Option.some.inj hF89
                    subst hb90
                    have hF91 : (some 21 : Option (Int)) = some _ := hF17
                    obtain rfl := Option.some.inj hF91
                    exact ⟨_, hU68, rfl⟩
                  · refine G.keep_ (L' := [(5, .pointer (some ⟨g54, 0, none⟩)), (9, v0_0), (10, .int .i64 (a0.length : Int)), (11, .int .i64 (i20 : Int))]) (is := [5, 9, 10, 11]) rfl ?_
                    refine G.skip ?_
                    refine G.next_ hK82 ?_
                    refine G.region ?_
                    refine G.arrAddr (i := 1) (o' := 1) rfl rfl rfl Tryd.runUnderlying42 Tryd.sizeOf3 rfl rfl ?_
                    refine G.load1 (o := 0) (j := 1) (cs := [.int .i64 y21.e0, .int .i64 y21.e1]) (v := .int .i64 y21.e1) rfl rfl Tryd.isAgg3 (Cs.of_block hB66) rfl rfl ?_
                    refine G.assign (v := .int .i64 y21.e1) rfl rfl ?_
                    refine G.nil ?_
                    refine G.keep_ (L' := [(3, .int .i64 y21.e1), (9, v0_0), (10, .int .i64 (a0.length : Int)), (11, .int .i64 (i20 : Int))]) (is := [3, 9, 10, 11]) rfl ?_
                    refine G.inB ?_
                    refine G.next_ hK44 ?_
                    refine G.region ?_
                    refine G.incr (i := i20) (N := a0.length) rfl rfl rfl (rng_lt hd23) (h0_0.length_le) ?_
                    refine G.move (v := .int .i64 ((i20 + 1 : Nat) : Int)) rfl rfl ?_
                    refine G.nil ?_
                    refine G.keep_ (L' := [(3, .int .i64 y21.e1), (9, v0_0), (10, .int .i64 (a0.length : Int)), (11, .int .i64 ((i20 + 1 : Nat) : Int))]) (is := [3, 9, 10, 11]) rfl ?_
                    refine G.keep_ (L' := [(3, .int .i64 y21.e1), (9, v0_0), (10, .int .i64 (a0.length : Int)), (11, .int .i64 ((i20 + 1 : Nat) : Int))]) (is := [3, 9, 10, 11]) rfl ?_
                    refine G.again ?_
                    intro hl92 a ha
                    exact ⟨_, Nat.lt_succ_self _, rest22, i20 + 1, y21.e1, rfl, hl92, rng_next hd23, _, ha, ((((Up.refl' hU0.live (in_nil)).trans0 u37).trans0 u56).trans u67 (in_one (.inr (by have := u37.le.size; have := hg57; omega))))⟩
    · rintro _ hb103 a w96 ⟨b94, rfl, S97, ha95, u98⟩ hF104
      refine G.use hF104 ha95 ?_
      refine G.inr ?_
      have hU99 := hU0.trans0 u98
      refine G.next_ hK14 ?_
      refine G.seq fun K100 hK101 => ?_
      refine G.region ?_
      refine G.assign (v := .int .i64 0) rfl rfl ?_
      refine G.nil ?_
      refine G.keep_ (L' := [(2, .int .i64 0)]) (is := [2]) rfl ?_
      refine G.next_ hK101 ?_
      refine G.ret ?_
      refine G.ret1 (v := .int .i64 0) Tryd.results13 rfl (fun hF102 => ?_)
      obtain rfl := Option.some.inj hF102
      exact ⟨_, hU99, rfl⟩
/-! roadstead/roadref5.VersionText -/
def roadref5_VersionText.l1  : List (A2_Int) → Nat → Str → Option (Str)
  | [], i30, x29 => some x29
  | y31 :: rest32, i30, x29 => ((if (decide ((i30 : Int) > 0)) = true then (catl x29 ([44] : Str)).bind fun s86 => some s86 else some x29)).bind fun b88 => (strconv_Itoa y31.e0).bind fun r95 => (catl b88 r95).bind fun s102 => (if (y31.e1 != y31.e0) = true then (strconv_Itoa y31.e1).bind fun r108 => (catl ([45] : Str) r108).bind fun s115 => (catl s102 s115).bind fun s117 => roadref5_VersionText.l1 rest32 (i30 + 1) s117 else roadref5_VersionText.l1 rest32 (i30 + 1) s102)

theorem roadref5_VersionText.l1_nil  {i30 : Nat} {x29 : Str} : roadref5_VersionText.l1  [] i30 x29 = some x29 := rfl
theorem roadref5_VersionText.l1_cons  {y31 : A2_Int} {rest32 : List (A2_Int)} {i30 : Nat} {x29 : Str} : roadref5_VersionText.l1  (y31 :: rest32) i30 x29 = ((if (decide ((i30 : Int) > 0)) = true then (catl x29 ([44] : Str)).bind fun s86 => some s86 else some x29)).bind fun b88 => (strconv_Itoa y31.e0).bind fun r95 => (catl b88 r95).bind fun s102 => (if (y31.e1 != y31.e0) = true then (strconv_Itoa y31.e1).bind fun r108 => (catl ([45] : Str) r108).bind fun s115 => (catl s102 s115).bind fun s117 => roadref5_VersionText.l1 rest32 (i30 + 1) s117 else roadref5_VersionText.l1 rest32 (i30 + 1) s102) := rfl
def roadref5_VersionText.Post (S : Nat → Prop) (w : World) (out : Str × Int) (v : Value) (w' : World) : Prop := ∃ S', Up [] S w S' w' ∧ v = .tuple [bs out.1, .int .i64 out.2].toArray
def roadref5_VersionText.Spec (F : (List A2_Int) → Option (Str × Int)) : Prop := ∀ {S : Nat → Prop} {w : World} (_ : ∀ b, S b → b < w.heap.size) (_ : Vars Tryd.prog S w) (a0 : List A2_Int) (v0_0 : Value) (_ : RdL e_A2_Int 2 S w v0_0 a0) {out : Str × Int}, F a0 = some out → Calls Tryd.prog 5 [v0_0].toArray w (Rets (roadref5_VersionText.Post S w out))
def roadref5_VersionText (a0 : List A2_Int) : Option (Str × Int) := (roadref5_VersionFault a0).bind fun r7 => (if (r7 != 0) = true then some ([], r7) else (roadref5_VersionText.l1 a0 0 []).bind fun b124 => some (b124, 0))
set_option maxRecDepth 100000 in
theorem roadref5_VersionText_ok : roadref5_VersionText.Spec (roadref5_VersionText ) := by
  intro S0 w0 hS0 hV0 a0 v0_0 h0_0 out hp
  have hU0 := Up.refl hS0
  refine calls_of_G (nt := 42) Tryd.func5 rfl Tryd.ntmps5 rfl ?_ hp
  unfold roadref5_VersionText
  refine G.seq fun K1 hK2 => ?_
  refine G.region ?_
  refine G.assign (v := bs []) rfl rfl ?_
  refine G.assign (v := .int .i64 0) rfl rfl ?_
  refine G.nil ?_
  refine G.keep_ (L' := [(0, v0_0)]) (is := [0]) rfl ?_
  refine G.next_ hK2 ?_
  refine G.seq fun K3 hK4 => ?_
  refine G.seq fun K5 hK6 => ?_
  refine G.region ?_
  refine G.move (v := v0_0) rfl rfl ?_
  refine G.bind fun r7 hr8 => ?_
  have hc9 := roadref5_VersionFault_ok hU0.live a0 v0_0 h0_0 hr8
  refine G.call (R := roadref5_VersionFault.Post S0 w0 r7) (vs := [v0_0]) rfl rfl Tryd.call13 ?_ ?_
  · exact hc9
  rintro _ w11 ⟨S10, u12, rfl⟩
  have hU13 := hU0.trans0 u12
  refine G.assign (v := .int .i64 r7) rfl rfl ?_
  refine G.nil ?_
  refine G.keep_ (L' := [(0, v0_0), (4, .int .i64 r7)]) (is := [0, 4]) rfl ?_
  refine G.next_ hK6 ?_
  refine G.seq fun K14 hK15 => ?_
  refine G.region ?_
  refine G.move (v := .int .i64 r7) rfl rfl ?_
  refine G.bin (u := .int .i64 r7) (v := .int .i64 0) (r := .bool (r7 != 0)) rfl rfl rfl b_neq ?_
  refine G.nil ?_
  refine G.keep_ (L' := [(0, v0_0), (4, .int .i64 r7), (11, .bool (r7 != 0))]) (is := [0, 4, 11]) rfl ?_
  refine G.next_ hK15 ?_
  refine G.cond (b := (r7 != 0)) rfl (fun hc16 => ?_) (fun hc16 => ?_)
  · refine G.keep_ (L' := [(4, .int .i64 r7)]) (is := [4]) rfl ?_
    refine G.seq fun K17 hK18 => ?_
    refine G.region ?_
    refine G.move (v := .int .i64 r7) rfl rfl ?_
    refine G.assign (v := bs []) rfl rfl ?_
    refine G.assign (v := .int .i64 r7) rfl rfl ?_
    refine G.nil ?_
    refine G.keep_ (L' := [(2, bs []), (3, .int .i64 r7)]) (is := [2, 3]) rfl ?_
    refine G.next_ hK18 ?_
    refine G.ret ?_
    refine G.thn_ret ?_
    refine G.ret2 (v := bs []) (v' := .int .i64 r7) Tryd.results5 rfl rfl (fun hF19 => ?_)
    obtain rfl := Option.some.inj hF19
    exact ⟨_, hU13, rfl⟩
  · refine G.keep_ (L' := [(0, v0_0)]) (is := [0]) rfl ?_
    refine G.skip ?_
    refine G.next_ hK4 ?_
    refine G.seq fun K20 hK21 => ?_
    refine G.region ?_
    refine G.assign (v := bs []) rfl rfl ?_
    refine G.nil ?_
    refine G.keep_ (L' := [(0, v0_0), (5, bs [])]) (is := [0, 5]) rfl ?_
    refine G.next_ hK21 ?_
    refine G.seq fun K22 hK23 => ?_
    refine G.seq fun K24 hK25 => ?_
    refine G.region ?_
    refine G.move (v := v0_0) rfl rfl ?_
    have h26 := h0_0.up u12
    refine G.len_rd rfl rfl Tryd.runUnderlying29 h26 ?_
    refine G.move (v := .int .i64 0) rfl rfl ?_
    refine G.nil ?_
    refine G.keep_ (L' := [(5, bs []), (13, v0_0), (14, .int .i64 (a0.length : Int)), (15, .int .i64 0)]) (is := [5, 13, 14, 15]) rfl ?_
    refine G.next_ hK25 ?_
    refine G.join (E := fun b a w' => ∃ (S_ : Nat → Prop), Fr 42 [(5, bs b)] a ∧ Up [] S10 w11 S_ w') ?_ ?_
    · intro b hF27
      refine G.block ?_
      refine G.keep_ (L' := [(5, bs []), (13, v0_0), (14, .int .i64 (a0.length : Int)), (15, .int .i64 ((0 : Nat) : Int))]) (is := [5, 13, 14, 15]) rfl ?_
      refine G.loop (fun k a w => ∃ (rest32 : List (A2_Int)) (i30 : Nat) (x29 : Str), k = rest32.length ∧ roadref5_VersionText.l1 rest32 i30 x29 = some b ∧ a0.drop i30 = rest32 ∧ ∃ (S_ : Nat → Prop), Fr 42 [(5, bs x29), (13, v0_0), (14, .int .i64 (a0.length : Int)), (15, .int .i64 (i30 : Int))] a ∧ Up [] S10 w11 S_ w) (a0.length) ?_ ?_
      · intro hl123 a ha
        exact ⟨a0, 0, [], rfl, hl123, rfl, _, ha, (Up.refl' hU13.live (in_nil))⟩
      · rintro _ a ww ⟨rest32, i30, x29, rfl, hl28, hd33, hJ⟩
        rcases rest32 with _ | ⟨y31, rest32⟩
        · rw [roadref5_VersionText.l1_nil] at hl28
          obtain ⟨w36, rfl⟩ : ∃ x : World, x = ww := ⟨ww, rfl⟩
          obtain ⟨S37, ha35, u38⟩ := hJ
          refine G.use hl28 ha35 ?_
          have hU39 := hU13.trans0 u38
          refine G.seq fun K40 hK41 => ?_
          refine G.region ?_
          refine G.bin (u := .int .i64 (i30 : Int)) (v := .int .i64 (a0.length : Int)) (r := .bool (decide ((i30 : Int) < (a0.length : Int)))) rfl rfl rfl b_lss ?_
          refine G.nil ?_
          refine G.keep_ (L' := [(5, bs x29), (13, v0_0), (14, .int .i64 (a0.length : Int)), (15, .int .i64 (i30 : Int)), (16, .bool (decide ((i30 : Int) < (a0.length : Int))))]) (is := [5, 13, 14, 15, 16]) rfl ?_
          refine G.next_ hK41 ?_
          refine G.seq fun K42 hK43 => ?_
          refine G.no rfl (rng_end hd33) ?_
          refine G.exit ?_
          refine G.thn_exit ?_
          refine G.thn_exit ?_
          refine G.inB_eq ?_
          refine G.keep_ (L' := [(5, bs x29)]) (is := [5]) rfl ?_
          refine G.finE ?_
          rintro rfl a ha
          exact ⟨_, ha, ((Up.refl' hU13.live (in_nil)).trans0 u38)⟩
        · rw [roadref5_VersionText.l1_cons] at hl28
          obtain ⟨w45, rfl⟩ : ∃ x : World, x = ww := ⟨ww, rfl⟩
          obtain ⟨S46, ha44, u47⟩ := hJ
          refine G.use hl28 ha44 ?_
          have hU48 := hU13.trans0 u47
          refine G.seq fun K49 hK50 => ?_
          refine G.region ?_
          refine G.bin (u := .int .i64 (i30 : Int)) (v := .int .i64 (a0.length : Int)) (r := .bool (decide ((i30 : Int) < (a0.length : Int)))) rfl rfl rfl b_lss ?_
          refine G.nil ?_
          refine G.keep_ (L' := [(5, bs x29), (13, v0_0), (14, .int .i64 (a0.length : Int)), (15, .int .i64 (i30 : Int)), (16, .bool (decide ((i30 : Int) < (a0.length : Int))))]) (is := [5, 13, 14, 15, 16]) rfl ?_
          refine G.next_ hK50 ?_
          refine G.seq fun K51 hK52 => ?_
          refine G.yes rfl (rng_more hd33) ?_
          refine G.skip ?_
          refine G.next_ hK52 ?_
          refine G.seq fun K53 hK54 => ?_
          refine G.block ?_
          refine G.seq fun K55 hK56 => ?_
          refine G.region ?_
          refine G.move (v := .int .i64 (i30 : Int)) rfl rfl ?_
          have h57 := h26.up u47
          refine G.at_rd (i := i30) (y := y31) rfl rfl rfl Tryd.runUnderlying29 Tryd.sizeOf42 h57 (rng_at hd33) ?_
          intro b58 o59 cs60 hC61 hl62 hR63
          have hR63_ := o_A2_Int hR63; subst hR63_
          refine G.loadN (o := o59) (j := 0) (cs := [.int .i64 y31.e0, .int .i64 y31.e1]) (c1 := [.int .i64 y31.e0, .int .i64 y31.e1]) rfl rfl Tryd.isAgg42 Tryd.sizeOf42 hC61 rfl rfl rfl (Nat.le_of_ble_eq_true rfl) ?_
          refine G.alloc (z := .agg [.int .i64 0, .int .i64 0].toArray) (cs := [.int .i64 0, .int .i64 0]) rfl Tryd.zeroValue42 rfl ?_
          intro g64 w65 hg67 le68 hB69
          have u66 := Up.of_le hU48.live le68
          have hU70 := hU48.trans0 u66
          have lt71 := lt_of_block hB69
          have hn73 : ¬ S46 g64 := fun hs => by have := hU48.live _ hs; omega
          refine G.assign (v := .int .i64 (i30 : Int)) rfl rfl ?_
          refine G.store (g := g64) (o := 0) (cs := [.int .i64 0, .int .i64 0]) (c1 := [.int .i64 y31.e0, .int .i64 y31.e1]) (cs' := [.int .i64 y31.e0, .int .i64 y31.e1]) (v := .agg [.int .i64 y31.e0, .int .i64 y31.e1].toArray) rfl rfl rfl Tryd.sizeOf42 hB69 (List.forall_mem_cons.2 ⟨rfl, List.forall_mem_cons.2 ⟨rfl, List.forall_mem_nil _⟩⟩) (Nat.le_of_ble_eq_true rfl) rfl ?_
          intro w74 le75 hB76
          have u77 := Up.store hU70.live hn73 le75
          have hU78 := hU70.trans u77 (in_one (.inr (by have := hU48.le.size; have := hg67; omega)))
          refine G.nil ?_
          refine G.keep_ (L' := [(5, bs x29), (6, .int .i64 (i30 : Int)), (7, .pointer (some ⟨g64, 0, none⟩)), (13, v0_0), (14, .int .i64 (a0.length : Int)), (15, .int .i64 (i30 : Int))]) (is := [5, 6, 7, 13, 14, 15]) rfl ?_
          refine G.next_ hK56 ?_
          refine G.seq fun K79 hK80 => ?_
          refine G.seq fun K81 hK82 => ?_
          refine G.region ?_
          refine G.move (v := .int .i64 (i30 : Int)) rfl rfl ?_
          refine G.bin (u := .int .i64 (i30 : Int)) (v := .int .i64 0) (r := .bool (decide ((i30 : Int) > 0))) rfl rfl rfl b_gtr ?_
          refine G.nil ?_
          refine G.keep_ (L' := [(5, bs x29), (7, .pointer (some ⟨g64, 0, none⟩)), (13, v0_0), (14, .int .i64 (a0.length : Int)), (15, .int .i64 (i30 : Int)), (21, .bool (decide ((i30 : Int) > 0)))]) (is := [5, 7, 13, 14, 15, 21]) rfl ?_
          refine G.next_ hK82 ?_
          have hn83 := fun hs => hn73 (u77.old g64 (by have := lt71; omega) hs)
          refine G.join (E := fun b a w' => Fr 42 [(5, bs b), (7, .pointer (some ⟨g64, 0, none⟩)), (13, v0_0), (14, .int .i64 (a0.length : Int)), (15, .int .i64 (i30 : Int))] a ∧ w74 = w') ?_ ?_
          · intro b hF84
            refine G.cond (b := (decide ((i30 : Int) > 0))) rfl (fun hc85 => ?_) (fun hc85 => ?_)
            · refine G.keep_ (L' := [(5, bs x29), (7, .pointer (some ⟨g64, 0, none⟩)), (13, v0_0), (14, .int .i64 (a0.length : Int)), (15, .int .i64 (i30 : Int))]) (is := [5, 7, 13, 14, 15]) rfl ?_
              refine G.region ?_
              refine G.move (v := bs x29) rfl rfl ?_
              refine G.cat (a := x29) (b := ([44] : Str)) rfl rfl rfl ?_
              intro s86 hs87
              refine G.assign (v := bs s86) rfl rfl ?_
              refine G.nil ?_
              refine G.keep_ (L' := [(5, bs s86), (7, .pointer (some ⟨g64, 0, none⟩)), (13, v0_0), (14, .int .i64 (a0.length : Int)), (15, .int .i64 (i30 : Int))]) (is := [5, 7, 13, 14, 15]) rfl ?_
              refine G.keep_ (L' := [(5, bs s86), (7, .pointer (some ⟨g64, 0, none⟩)), (13, v0_0), (14, .int .i64 (a0.length : Int)), (15, .int .i64 (i30 : Int))]) (is := [5, 7, 13, 14, 15]) rfl ?_
              refine G.finE ?_
              rintro rfl a ha
              exact ⟨ha, rfl⟩
            · refine G.keep_ (L' := [(5, bs x29), (7, .pointer (some ⟨g64, 0, none⟩)), (13, v0_0), (14, .int .i64 (a0.length : Int)), (15, .int .i64 (i30 : Int))]) (is := [5, 7, 13, 14, 15]) rfl ?_
              refine G.skip ?_
              refine G.keep_ (L' := [(5, bs x29), (7, .pointer (some ⟨g64, 0, none⟩)), (13, v0_0), (14, .int .i64 (a0.length : Int)), (15, .int .i64 (i30 : Int))]) (is := [5, 7, 13, 14, 15]) rfl ?_
              refine G.finE ?_
              rintro rfl a ha
              exact ⟨ha, rfl⟩
          · rintro b88 hb121 a _ ⟨ha89, rfl⟩ hF122
            refine G.use hF122 ha89 ?_
            refine G.next_ hK80 ?_
            refine G.seq fun K93 hK94 => ?_
            refine G.region ?_
            refine G.move (v := bs b88) rfl rfl ?_
            refine G.arrAddr (i := 0) (o' := 0) rfl rfl rfl Tryd.runUnderlying42 Tryd.sizeOf3 rfl rfl ?_
            refine G.load1 (o := 0) (j := 0) (cs := [.int .i64 y31.e0, .int .i64 y31.e1]) (v := .int .i64 y31.e0) rfl rfl Tryd.isAgg3 (Cs.of_block hB76) rfl rfl ?_
            refine G.bind fun r95 hr96 => ?_
            have hc97 := strconv_Itoa_ok hU78.live (hV0.up hU78) y31.e0 hr96
            refine G.call (R := strconv_Itoa.Post S46 w74 r95) (vs := [.int .i64 y31.e0]) rfl rfl Tryd.call11 ?_ ?_
            · exact hc97
            rintro _ w99 ⟨S98, u100, rfl⟩
            have hU101 := hU78.trans0 u100
            refine G.cat (a := b88) (b := r95) rfl rfl rfl ?_
            intro s102 hs103
            refine G.assign (v := bs s102) rfl rfl ?_
            refine G.nil ?_
            refine G.keep_ (L' := [(5, bs s102), (7, .pointer (some ⟨g64, 0, none⟩)), (13, v0_0), (14, .int .i64 (a0.length : Int)), (15, .int .i64 (i30 : Int))]) (is := [5, 7, 13, 14, 15]) rfl ?_
            refine G.next_ hK94 ?_
            refine G.seq fun K104 hK105 => ?_
            refine G.region ?_
            refine G.arrAddr (i := 1) (o' := 1) rfl rfl rfl Tryd.runUnderlying42 Tryd.sizeOf3 rfl rfl ?_
            have hB106 := u100.le.kept0 hB76
            refine G.load1 (o := 0) (j := 1) (cs := [.int .i64 y31.e0, .int .i64 y31.e1]) (v := .int .i64 y31.e1) rfl rfl Tryd.isAgg3 (Cs.of_block hB106) rfl rfl ?_
            refine G.arrAddr (i := 0) (o' := 0) rfl rfl rfl Tryd.runUnderlying42 Tryd.sizeOf3 rfl rfl ?_
            refine G.load1 (o := 0) (j := 0) (cs := [.int .i64 y31.e0, .int .i64 y31.e1]) (v := .int .i64 y31.e0) rfl rfl Tryd.isAgg3 (Cs.of_block hB106) rfl rfl ?_
            refine G.bin (u := .int .i64 y31.e1) (v := .int .i64 y31.e0) (r := .bool (y31.e1 != y31.e0)) rfl rfl rfl b_neq ?_
            refine G.nil ?_
            refine G.keep_ (L' := [(5, bs s102), (7, .pointer (some ⟨g64, 0, none⟩)), (13, v0_0), (14, .int .i64 (a0.length : Int)), (15, .int .i64 (i30 : Int)), (33, .bool (y31.e1 != y31.e0))]) (is := [5, 7, 13, 14, 15, 33]) rfl ?_
            refine G.next_ hK105 ?_
            refine G.cond (b := (y31.e1 != y31.e0)) rfl (fun hc107 => ?_) (fun hc107 => ?_)
            · refine G.keep_ (L' := [(5, bs s102), (7, .pointer (some ⟨g64, 0, none⟩)), (13, v0_0), (14, .int .i64 (a0.length : Int)), (15, .int .i64 (i30 : Int))]) (is := [5, 7, 13, 14, 15]) rfl ?_
              refine G.region ?_
              refine G.move (v := bs s102) rfl rfl ?_
              refine G.arrAddr (i := 1) (o' := 1) rfl rfl rfl Tryd.runUnderlying42 Tryd.sizeOf3 rfl rfl ?_
              refine G.load1 (o := 0) (j := 1) (cs := [.int .i64 y31.e0, .int .i64 y31.e1]) (v := .int .i64 y31.e1) rfl rfl Tryd.isAgg3 (Cs.of_block hB106) rfl rfl ?_
              refine G.bind fun r108 hr109 => ?_
              have hc110 := strconv_Itoa_ok hU101.live (hV0.up hU101) y31.e1 hr109
              refine G.call (R := strconv_Itoa.Post S98 w99 r108) (vs := [.int .i64 y31.e1]) rfl rfl Tryd.call11 ?_ ?_
              · exact hc110
              rintro _ w112 ⟨S111, u113, rfl⟩
              have hU114 := hU101.trans0 u113
              refine G.cat (a := ([45] : Str)) (b := r108) rfl rfl rfl ?_
              intro s115 hs116
              refine G.cat (a := s102) (b := s115) rfl rfl rfl ?_
              intro s117 hs118
              refine G.assign (v := bs s117) rfl rfl ?_
              refine G.nil ?_
              refine G.keep_ (L' := [(5, bs s117), (13, v0_0), (14, .int .i64 (a0.length : Int)), (15, .int .i64 (i30 : Int))]) (is := [5, 13, 14, 15]) rfl ?_
              refine G.inB ?_
              refine G.next_ hK54 ?_
              refine G.region ?_
              refine G.incr (i := i30) (N := a0.length) rfl rfl rfl (rng_lt hd33) (h26.length_le) ?_
              refine G.move (v := .int .i64 ((i30 + 1 : Nat) : Int)) rfl rfl ?_
              refine G.nil ?_
              refine G.keep_ (L' := [(5, bs s117), (13, v0_0), (14, .int .i64 (a0.length : Int)), (15, .int .i64 ((i30 + 1 : Nat) : Int))]) (is := [5, 13, 14, 15]) rfl ?_
              refine G.keep_ (L' := [(5, bs s117), (13, v0_0), (14, .int .i64 (a0.length : Int)), (15, .int .i64 ((i30 + 1 : Nat) : Int))]) (is := [5, 13, 14, 15]) rfl ?_
              refine G.again ?_
              intro hl119 a ha
              exact ⟨_, Nat.lt_succ_self _, rest32, i30 + 1, s117, rfl, hl119, rng_next hd33, _, ha, ((((((Up.refl' hU13.live (in_nil)).trans0 u47).trans0 u66).trans u77 (in_one (.inr (by have := u47.le.size; have := hg67; omega)))).trans0 u100).trans0 u113)⟩
            · refine G.keep_ (L' := [(5, bs s102), (13, v0_0), (14, .int .i64 (a0.length : Int)), (15, .int .i64 (i30 : Int))]) (is := [5, 13, 14, 15]) rfl ?_
              refine G.skip ?_
              refine G.inB ?_
              refine G.next_ hK54 ?_
              refine G.region ?_
              refine G.incr (i := i30) (N := a0.length) rfl rfl rfl (rng_lt hd33) (h26.length_le) ?_
              refine G.move (v := .int .i64 ((i30 + 1 : Nat) : Int)) rfl rfl ?_
              refine G.nil ?_
              refine G.keep_ (L' := [(5, bs s102), (13, v0_0), (14, .int .i64 (a0.length : Int)), (15, .int .i64 ((i30 + 1 : Nat) : Int))]) (is := [5, 13, 14, 15]) rfl ?_
              refine G.keep_ (L' := [(5, bs s102), (13, v0_0), (14, .int .i64 (a0.length : Int)), (15, .int .i64 ((i30 + 1 : Nat) : Int))]) (is := [5, 13, 14, 15]) rfl ?_
              refine G.again ?_
              intro hl120 a ha
              exact ⟨_, Nat.lt_succ_self _, rest32, i30 + 1, s102, rfl, hl120, rng_next hd33, _, ha, (((((Up.refl' hU13.live (in_nil)).trans0 u47).trans0 u66).trans u77 (in_one (.inr (by have := u47.le.size; have := hg67; omega)))).trans0 u100)⟩
    · rintro b124 hb133 a w126 ⟨S127, ha125, u128⟩ hF134
      refine G.use hF134 ha125 ?_
      have hU129 := hU13.trans0 u128
      refine G.next_ hK23 ?_
      refine G.seq fun K130 hK131 => ?_
      refine G.region ?_
      refine G.move (v := bs b124) rfl rfl ?_
      refine G.assign (v := bs b124) rfl rfl ?_
      refine G.assign (v := .int .i64 0) rfl rfl ?_
      refine G.nil ?_
      refine G.keep_ (L' := [(2, bs b124), (3, .int .i64 0)]) (is := [2, 3]) rfl ?_
      refine G.next_ hK131 ?_
      refine G.ret ?_
      refine G.ret2 (v := bs b124) (v' := .int .i64 0) Tryd.results5 rfl rfl (fun hF132 => ?_)
      obtain rfl := Option.some.inj hF132
      exact ⟨_, hU129, rfl⟩
/-! internal/stringslite.Cut -/
def internal_stringslite_Cut.Post (S : Nat → Prop) (w : World) (out : Str × Str × Bool) (v : Value) (w' : World) : Prop := ∃ S', Up [] S w S' w' ∧ v = .tuple [bs out.1, bs out.2.1, .bool out.2.2].toArray
def internal_stringslite_Cut.Spec (F : Str → Str → Option (Str × Str × Bool)) : Prop := ∀ {S : Nat → Prop} {w : World} (_ : ∀ b, S b → b < w.heap.size) (a0 : Str) (a1 : Str) {out : Str × Str × Bool}, F a0 a1 = some out → Calls Tryd.prog 24 [bs a0, bs a1].toArray w (Rets (internal_stringslite_Cut.Post S w out))
def internal_stringslite_Cut (a0 : Str) (a1 : Str) : Option (Str × Str × Bool) := (internal_stringslite_Index a0 a1).bind fun r7 => (if (decide (r7 ≥ 0)) = true then (sub a0 0 r7).bind fun s19 => (sub a0 (addI r7 (a1.length : Int)) (a0.length : Int)).bind fun s21 => some (s19, s21, true) else some (a0, [], false))
set_option maxRecDepth 100000 in
theorem internal_stringslite_Cut_ok : internal_stringslite_Cut.Spec (internal_stringslite_Cut ) := by
  intro S0 w0 hS0 a0 a1 out hp
  have hU0 := Up.refl hS0
  refine calls_of_G (nt := 23) Tryd.func24 rfl Tryd.ntmps24 rfl ?_ hp
  unfold internal_stringslite_Cut
  refine G.seq fun K1 hK2 => ?_
  refine G.region ?_
  refine G.assign (v := bs []) rfl rfl ?_
  refine G.assign (v := bs []) rfl rfl ?_
  refine G.assign (v := .bool false) rfl rfl ?_
  refine G.nil ?_
  refine G.keep_ (L' := [(0, bs a0), (1, bs a1)]) (is := [0, 1]) rfl ?_
  refine G.next_ hK2 ?_
  refine G.seq fun K3 hK4 => ?_
  refine G.seq fun K5 hK6 => ?_
  refine G.region ?_
  refine G.move (v := bs a0) rfl rfl ?_
  refine G.move (v := bs a1) rfl rfl ?_
  refine G.bind fun r7 hr8 => ?_
  have hc9 := internal_stringslite_Index_ok hU0.live a0 a1 hr8
  refine G.call (R := internal_stringslite_Index.Post S0 w0 r7) (vs := [bs a0, bs a1]) rfl rfl Tryd.call33 ?_ ?_
  · exact hc9
  rintro _ w11 ⟨S10, u12, rfl⟩
  have hU13 := hU0.trans0 u12
  refine G.assign (v := .int .i64 r7) rfl rfl ?_
  refine G.nil ?_
  refine G.keep_ (L' := [(0, bs a0), (1, bs a1), (7, .int .i64 r7)]) (is := [0, 1, 7]) rfl ?_
  refine G.next_ hK6 ?_
  refine G.seq fun K14 hK15 => ?_
  refine G.region ?_
  refine G.move (v := .int .i64 r7) rfl rfl ?_
  refine G.bin (u := .int .i64 r7) (v := .int .i64 0) (r := .bool (decide (r7 ≥ 0))) rfl rfl rfl b_geq ?_
  refine G.nil ?_
  refine G.keep_ (L' := [(0, bs a0), (1, bs a1), (7, .int .i64 r7), (12, .bool (decide (r7 ≥ 0)))]) (is := [0, 1, 7, 12]) rfl ?_
  refine G.next_ hK15 ?_
  refine G.cond (b := (decide (r7 ≥ 0))) rfl (fun hc16 => ?_) (fun hc16 => ?_)
  · refine G.keep_ (L' := [(0, bs a0), (1, bs a1), (7, .int .i64 r7)]) (is := [0, 1, 7]) rfl ?_
    refine G.seq fun K17 hK18 => ?_
    refine G.bind fun s19 hq23 => ?_
    refine G.bind fun s21 hq24 => ?_
    refine G.draw [] mixed 12 rfl ?_
    intro w29 le30
    have u31 := Up.of_le hU13.live le30
    have hU32 := hU13.trans0 u31
    refine GH.take 0 rfl rfl (by kernel_rfl) (by kernel_rfl) (by kernel_rfl) (Q.move rfl) (Le.refl [] _) (fun _ _ _ h => h) ?_
    refine GH.take 1 rfl rfl (by kernel_rfl) (by kernel_rfl) (by kernel_rfl) (Q.move rfl) (Le.refl [] _) (fun _ _ _ h => h) ?_
    refine GH.take 2 rfl rfl (by kernel_rfl) (by kernel_rfl) (by kernel_rfl) (Q.sub_str (s := a0) (l := 0) (h := r7) rfl Tryd.runUnderlying9 rfl rfl hq23) (Le.refl [] _) (fun _ _ _ h => h) ?_
    refine GH.take 3 rfl rfl (by kernel_rfl) (by kernel_rfl) (by kernel_rfl) (Q.move rfl) (Le.refl [] _) (fun _ _ _ h => h) ?_
    refine GH.take 4 rfl rfl (by kernel_rfl) (by kernel_rfl) (by kernel_rfl) (Q.move rfl) (Le.refl [] _) (fun _ _ _ h => h) ?_
    refine GH.take 5 rfl rfl (by kernel_rfl) (by kernel_rfl) (by kernel_rfl) (Q.move rfl) (Le.refl [] _) (fun _ _ _ h => h) ?_
    refine GH.take 6 rfl rfl (by kernel_rfl) (by kernel_rfl) (by kernel_rfl) (Q.len_str (s := a1) rfl Tryd.runUnderlying9) (Le.refl [] _) (fun _ _ _ h => h) ?_
    refine GH.take 7 rfl rfl (by kernel_rfl) (by kernel_rfl) (by kernel_rfl) (Q.bin (u := .int .i64 r7) (v := .int .i64 (a1.length : Int)) (r := .int .i64 (addI r7 (a1.length : Int))) rfl rfl b_add) (Le.refl [] _) (fun _ _ _ h => h) ?_
    refine GH.take 8 rfl rfl (by kernel_rfl) (by kernel_rfl) (by kernel_rfl) (Q.sub_str (s := a0) (l := (addI r7 (a1.length : Int))) (h := (a0.length : Int)) rfl Tryd.runUnderlying9 rfl rfl hq24) (Le.refl [] _) (fun _ _ _ h => h) ?_
    refine GH.take 9 rfl rfl (by kernel_rfl) (by kernel_rfl) (by kernel_rfl) (Q.assign rfl) (Le.refl [] _) (fun _ _ _ h => h) ?_
    refine GH.take 10 rfl rfl (by kernel_rfl) (by kernel_rfl) (by kernel_rfl) (Q.assign rfl) (Le.refl [] _) (fun _ _ _ h => h) ?_
    refine GH.take 11 rfl rfl (by kernel_rfl) (by kernel_rfl) (by kernel_rfl) (Q.assign rfl) (Le.refl [] _) (fun _ _ _ h => h) ?_
    refine GH.done (by kernel_rfl) ?_
    refine G.keep_ (L' := [(4, bs s19), (5, bs s21), (6, .bool true)]) (is := [4, 5, 6]) rfl ?_
    refine G.next_ hK18 ?_
    refine G.ret ?_
    refine G.thn_ret ?_
    refine G.ret3 (v := bs s19) (v' := bs s21) (v'' := .bool true) Tryd.results24 rfl rfl rfl (fun hF33 => ?_)
    obtain rfl := Option.some.inj hF33
    exact ⟨_, hU32, rfl⟩
  · refine G.keep_ (L' := [(0, bs a0)]) (is := [0]) rfl ?_
    refine G.skip ?_
    refine G.next_ hK4 ?_
    refine G.seq fun K34 hK35 => ?_
    refine G.region ?_
    refine G.move (v := bs a0) rfl rfl ?_
    refine G.assign (v := bs a0) rfl rfl ?_
    refine G.assign (v := bs []) rfl rfl ?_
    refine G.assign (v := .bool false) rfl rfl ?_
    refine G.nil ?_
    refine G.keep_ (L' := [(4, bs a0), (5, bs []), (6, .bool false)]) (is := [4, 5, 6]) rfl ?_
    refine G.next_ hK35 ?_
    refine G.ret ?_
    refine G.ret3 (v := bs a0) (v' := bs []) (v'' := .bool false) Tryd.results24 rfl rfl rfl (fun hF36 => ?_)
    obtain rfl := Option.some.inj hF36
    exact ⟨_, hU13, rfl⟩
/-! strings.Cut -/
def strings_Cut.Post (S : Nat → Prop) (w : World) (out : Str × Str × Bool) (v : Value) (w' : World) : Prop := ∃ S', Up [] S w S' w' ∧ v = .tuple [bs out.1, bs out.2.1, .bool out.2.2].toArray
def strings_Cut.Spec (F : Str → Str → Option (Str × Str × Bool)) : Prop := ∀ {S : Nat → Prop} {w : World} (_ : ∀ b, S b → b < w.heap.size) (a0 : Str) (a1 : Str) {out : Str × Str × Bool}, F a0 a1 = some out → Calls Tryd.prog 15 [bs a0, bs a1].toArray w (Rets (strings_Cut.Post S w out))
def strings_Cut (a0 : Str) (a1 : Str) : Option (Str × Str × Bool) := (internal_stringslite_Cut a0 a1).bind fun r5 => some (r5.1, r5.2.1, r5.2.2)
set_option maxRecDepth 100000 in
theorem strings_Cut_ok : strings_Cut.Spec (strings_Cut ) := by
  intro S0 w0 hS0 a0 a1 out hp
  have hU0 := Up.refl hS0
  refine calls_of_G (nt := 13) Tryd.func15 rfl Tryd.ntmps15 rfl ?_ hp
  unfold strings_Cut
  refine G.seq fun K1 hK2 => ?_
  refine G.region ?_
  refine G.assign (v := bs []) rfl rfl ?_
  refine G.assign (v := bs []) rfl rfl ?_
  refine G.assign (v := .bool false) rfl rfl ?_
  refine G.nil ?_
  refine G.keep_ (L' := [(0, bs a0), (1, bs a1)]) (is := [0, 1]) rfl ?_
  refine G.next_ hK2 ?_
  refine G.seq fun K3 hK4 => ?_
  refine G.region ?_
  refine G.move (v := bs a0) rfl rfl ?_
  refine G.move (v := bs a1) rfl rfl ?_
  refine G.bind fun r5 hr6 => ?_
  have hc7 := internal_stringslite_Cut_ok hU0.live a0 a1 hr6
  refine G.call (R := internal_stringslite_Cut.Post S0 w0 r5) (vs := [bs a0, bs a1]) rfl rfl Tryd.call24 ?_ ?_
  · exact hc7
  rintro _ w9 ⟨S8, u10, rfl⟩
  have hU11 := hU0.trans0 u10
  refine G.extract (vs := [bs r5.1, bs r5.2.1, .bool r5.2.2]) (v := bs r5.1) rfl rfl rfl ?_
  refine G.extract (vs := [bs r5.1, bs r5.2.1, .bool r5.2.2]) (v := bs r5.2.1) rfl rfl rfl ?_
  refine G.extract (vs := [bs r5.1, bs r5.2.1, .bool r5.2.2]) (v := .bool r5.2.2) rfl rfl rfl ?_
  refine G.assign (v := bs r5.1) rfl rfl ?_
  refine G.assign (v := bs r5.2.1) rfl rfl ?_
  refine G.assign (v := .bool r5.2.2) rfl rfl ?_
  refine G.nil ?_
  refine G.keep_ (L' := [(4, bs r5.1), (5, bs r5.2.1), (6, .bool r5.2.2)]) (is := [4, 5, 6]) rfl ?_
  refine G.next_ hK4 ?_
  refine G.ret ?_
  refine G.ret3 (v := bs r5.1) (v' := bs r5.2.1) (v'' := .bool r5.2.2) Tryd.results15 rfl rfl rfl (fun hF12 => ?_)
  obtain rfl := Option.some.inj hF12
  exact ⟨_, hU11, rfl⟩
/-! roadstead/version.Read -/
def version_Read.l1  : List (Str) → (List T_Range) → Option (((List T_Range) × Int) ⊕ (List T_Range))
  | [], x24 => some (.inr x24)
  | y26 :: rest27, x24 => (strings_Cut y26 [45]).bind fun r67 => ((if (!r67.2.2) = true then some r67.1 else some r67.2.1)).bind fun b81 => (strconv_Atoi r67.1).bind fun r88 => (strconv_Atoi b81).bind fun r99 => (if (r88.2 || r99.2) = true then some (.inl (([] : List T_Range), 3)) else (app 8796093022208 x24 ([(T_Range.mk r88.1 r99.1)] : List T_Range)).bind fun l130 => version_Read.l1 rest27 l130)

theorem version_Read.l1_nil  {x24 : List T_Range} : version_Read.l1  [] x24 = some (.inr x24) := rfl
theorem version_Read.l1_cons  {y26 : Str} {rest27 : List (Str)} {x24 : List T_Range} : version_Read.l1  (y26 :: rest27) x24 = (strings_Cut y26 [45]).bind fun r67 => ((if (!r67.2.2) = true then some r67.1 else some r67.2.1)).bind fun b81 => (strconv_Atoi r67.1).bind fun r88 => (strconv_Atoi b81).bind fun r99 => (if (r88.2 || r99.2) = true then some (.inl (([] : List T_Range), 3)) else (app 8796093022208 x24 ([(T_Range.mk r88.1 r99.1)] : List T_Range)).bind fun l130 => version_Read.l1 rest27 l130) := rfl
def version_Read.Post (S : Nat → Prop) (w : World) (out : (List T_Range) × Int) (v : Value) (w' : World) : Prop := ∃ S', Up [] S w S' w' ∧ ∃ r0_0, v = .tuple [r0_0, .int .i64 out.2].toArray ∧ RdL e_T_Range 2 S' w' r0_0 out.1
def version_Read.Spec (F : Str → Option ((List T_Range) × Int)) : Prop := ∀ {S : Nat → Prop} {w : World} (_ : ∀ b, S b → b < w.heap.size) (_ : Vars Tryd.prog S w) (a0 : Str) {out : (List T_Range) × Int}, F a0 = some out → Calls Tryd.prog 7 [bs a0].toArray w (Rets (version_Read.Post S w out))
def version_Read (a0 : Str) : Option ((List T_Range) × Int) := ((if (a0 != ([] : Str)) = true then (strings_Split a0 [44]).bind fun r13 => (version_Read.l1 r13 ([] : List T_Range)).bind (retOr2 fun b142 => some (.inr b142)) else some (.inr ([] : List T_Range)))).bind (retOr fun b153 => (version_Text b153).bind fun r169 => (if ((r169.2 != 0) || (r169.1 != a0)) = true then some (([] : List T_Range), 3) else some (b153, 0)))
set_option maxRecDepth 100000 in
theorem version_Read_ok : version_Read.Spec (version_Read ) := by
  intro S0 w0 hS0 hV0 a0 out hp
  have hU0 := Up.refl hS0
  refine calls_of_G (nt := 70) Tryd.func7 rfl Tryd.ntmps7 rfl ?_ hp
  unfold version_Read
  refine G.seq fun K1 hK2 => ?_
  refine G.region ?_
  refine G.assign (v := .slice none 0 0) rfl rfl ?_
  refine G.assign (v := .int .i64 0) rfl rfl ?_
  refine G.nil ?_
  refine G.keep_ (L' := [(0, bs a0)]) (is := [0]) rfl ?_
  refine G.next_ hK2 ?_
  refine G.seq fun K3 hK4 => ?_
  refine G.region ?_
  refine G.assign (v := .slice none 0 0) rfl rfl ?_
  refine G.nil ?_
  refine G.keep_ (L' := [(0, bs a0), (4, .slice none 0 0)]) (is := [0, 4]) rfl ?_
  refine G.next_ hK4 ?_
  refine G.seq fun K5 hK6 => ?_
  refine G.seq fun K7 hK8 => ?_
  refine G.region ?_
  refine G.move (v := bs a0) rfl rfl ?_
  refine G.bin (u := bs a0) (v := bs ([] : Str)) (r := .bool (a0 != ([] : Str))) rfl rfl rfl b_sneq ?_
  refine G.nil ?_
  refine G.keep_ (L' := [(0, bs a0), (4, .slice none 0 0), (17, .bool (a0 != ([] : Str)))]) (is := [0, 4, 17]) rfl ?_
  refine G.next_ hK8 ?_
  refine G.join (E := fun o a w' => ∃ b, o = .inr b ∧ ∃ (v_slot_4 : Value) (S_ : Nat → Prop), Fr 70 [(0, bs a0), (4, v_slot_4)] a ∧ Up [] S0 w0 S_ w' ∧ OwnL e_T_Range 27 2 w0.heap.size S_ w' v_slot_4 b ∧ (∀ k ∈ ob v_slot_4, k ∈ ob (.slice none 0 0) ∨ w0.heap.size ≤ k)) ?_ ?_
  · intro b hF9
    refine G.cond (b := (a0 != ([] : Str))) rfl (fun hc10 => ?_) (fun hc10 => ?_)
    · refine G.keep_ (L' := [(0, bs a0), (4, .slice none 0 0)]) (is := [0, 4]) rfl ?_
      refine G.seq fun K11 hK12 => ?_
      refine G.region ?_
      refine G.move (v := bs a0) rfl rfl ?_
      refine G.bind fun r13 hr14 => ?_
      have hc15 := strings_Split_ok hU0.live a0 [44] hr14
      refine G.call (R := strings_Split.Post S0 w0 r13) (vs := [bs a0, bs [44]]) rfl rfl Tryd.call14 ?_ ?_
      · exact hc15
      rintro v19 w17 ⟨S16, u18, _, rfl, h20⟩
      have hU21 := hU0.trans0 u18
      refine G.len_rd rfl rfl Tryd.runUnderlying38 h20 ?_
      refine G.move (v := .int .i64 0) rfl rfl ?_
      refine G.nil ?_
      refine G.keep_ (L' := [(0, bs a0), (4, .slice none 0 0), (19, v19), (20, .int .i64 (r13.length : Int)), (21, .int .i64 0)]) (is := [0, 4, 19, 20, 21]) rfl ?_
      refine G.next_ hK12 ?_
      refine G.join (E := fun o a w' => ∃ b, o = .inr b ∧ ∃ (v_slot_4 : Value) (S_ : Nat → Prop), Fr 70 [(0, bs a0), (4, v_slot_4)] a ∧ Up [] S16 w17 S_ w' ∧ OwnL e_T_Range 27 2 w0.heap.size S_ w' v_slot_4 b ∧ (∀ k ∈ ob v_slot_4, k ∈ ob (.slice none 0 0) ∨ w17.heap.size ≤ k)) ?_ ?_
      · intro b hF22
        refine G.block ?_
        refine G.keep_ (L' := [(0, bs a0), (4, .slice none 0 0), (19, v19), (20, .int .i64 (r13.length : Int)), (21, .int .i64 ((0 : Nat) : Int))]) (is := [0, 4, 19, 20, 21]) rfl ?_
        refine G.loop (fun k a w => ∃ (rest27 : List (Str)) (i25 : Nat) (x24 : List T_Range), k = rest27.length ∧ version_Read.l1 rest27 x24 = some b ∧ r13.drop i25 = rest27 ∧ ∃ (v_slot_4 : Value) (S_ : Nat → Prop), Fr 70 [(0, bs a0), (4, v_slot_4), (19, v19), (20, .int .i64 (r13.length : Int)), (21, .int .i64 (i25 : Int))] a ∧ Up [] S16 w17 S_ w ∧ OwnL e_T_Range 27 2 w0.heap.size S_ w v_slot_4 x24 ∧ (∀ k ∈ ob v_slot_4, k ∈ ob (.slice none 0 0) ∨ w17.heap.size ≤ k)) (r13.length) ?_ ?_
        · intro hl141 a ha
          exact ⟨r13, 0, ([] : List T_Range), rfl, hl141, rfl, .slice none 0 0, _, ha, (Up.refl' hU21.live (in_nil)), OwnL.nil, fun k hk => .inr ((fun k hk => absurd hk (by simp [ob_nil])) k hk)⟩
        · rintro _ a ww ⟨rest27, i25, x24, rfl, hl23, hd28, hJ⟩
          rcases rest27 with _ | ⟨y26, rest27⟩
          · rw [version_Read.l1_nil] at hl23
            obtain ⟨w31, rfl⟩ : ∃ x : World, x = ww := ⟨ww, rfl⟩
            obtain ⟨v34, S32, ha30, u33, h35, ho36⟩ := hJ
            refine G.use hl23 ha30 ?_
            have hU37 := hU21.trans0 u33
            refine G.seq fun K38 hK39 => ?_
            refine G.region ?_
            refine G.bin (u := .int .i64 (i25 : Int)) (v := .int .i64 (r13.length : Int)) (r := .bool (decide ((i25 : Int) < (r13.length : Int)))) rfl rfl rfl b_lss ?_
            refine G.nil ?_
            refine G.keep_ (L' := [(0, bs a0), (4, v34), (19, v19), (20, .int .i64 (r13.length : Int)), (21, .int .i64 (i25 : Int)), (22, .bool (decide ((i25 : Int) < (r13.length : Int))))]) (is := [0, 4, 19, 20, 21, 22]) rfl ?_
            refine G.next_ hK39 ?_
            refine G.seq fun K40 hK41 => ?_
            refine G.no rfl (rng_end hd28) ?_
            refine G.exit ?_
            refine G.thn_exit ?_
            refine G.thn_exit ?_
            refine G.inB_eq ?_
            refine G.keep_ (L' := [(0, bs a0), (4, v34)]) (is := [0, 4]) rfl ?_
            refine G.finE ?_
            rintro rfl a ha
            exact ⟨_, rfl, ⟨v34, _, ha, ((Up.refl' hU21.live (in_nil)).trans0 u33), h35, fun k hk => .inr ((org0_step ho36 (fun k hk => absurd hk (by simp [ob_nil])) (by omega)) k hk)⟩⟩
          · rw [version_Read.l1_cons] at hl23
            obtain ⟨w43, rfl⟩ : ∃ x : World, x = ww := ⟨ww, rfl⟩
            obtain ⟨v46, S44, ha42, u45, h47, ho48⟩ := hJ
            refine G.use hl23 ha42 ?_
            have hU49 := hU21.trans0 u45
            refine G.seq fun K50 hK51 => ?_
            refine G.region ?_
            refine G.bin (u := .int .i64 (i25 : Int)) (v := .int .i64 (r13.length : Int)) (r := .bool (decide ((i25 : Int) < (r13.length : Int)))) rfl rfl rfl b_lss ?_
            refine G.nil ?_
            refine G.keep_ (L' := [(0, bs a0), (4, v46), (19, v19), (20, .int .i64 (r13.length : Int)), (21, .int .i64 (i25 : Int)), (22, .bool (decide ((i25 : Int) < (r13.length : Int))))]) (is := [0, 4, 19, 20, 21, 22]) rfl ?_
            refine G.next_ hK51 ?_
            refine G.seq fun K52 hK53 => ?_
            refine G.yes rfl (rng_more hd28) ?_
            refine G.skip ?_
            refine G.next_ hK53 ?_
            refine G.seq fun K54 hK55 => ?_
            refine G.block ?_
            refine G.seq fun K56 hK57 => ?_
            refine G.region ?_
            have h58 := h20.up u45
            refine G.at_rd (i := i25) (y := y26) rfl rfl rfl Tryd.runUnderlying38 Tryd.sizeOf9 h58 (rng_at hd28) ?_
            intro b59 o60 cs61 hC62 hl63 hR64
            have hR64_ := Rd.val_iff.1 hR64; subst hR64_
            refine G.load1 (o := o60) (j := 0) (cs := [bs y26]) (v := bs y26) rfl rfl Tryd.isAgg9 hC62 rfl rfl ?_
            refine G.assign (v := bs y26) rfl rfl ?_
            refine G.nil ?_
            refine G.keep_ (L' := [(0, bs a0), (4, v46), (6, bs y26), (19, v19), (20, .int .i64 (r13.length : Int)), (21, .int .i64 (i25 : Int))]) (is := [0, 4, 6, 19, 20, 21]) rfl ?_
            refine G.next_ hK57 ?_
            refine G.seq fun K65 hK66 => ?_
            refine G.region ?_
            refine G.move (v := bs y26) rfl rfl ?_
            refine G.bind fun r67 hr68 => ?_
            have hc69 := strings_Cut_ok hU49.live y26 [45] hr68
            refine G.call (R := strings_Cut.Post S44 w43 r67) (vs := [bs y26, bs [45]]) rfl rfl Tryd.call15 ?_ ?_
            · exact hc69
            rintro _ w71 ⟨S70, u72, rfl⟩
            have hU73 := hU49.trans0 u72
            refine G.move (v := .tuple [bs r67.1, bs r67.2.1, .bool r67.2.2].toArray) rfl rfl ?_
            refine G.extract (vs := [bs r67.1, bs r67.2.1, .bool r67.2.2]) (v := bs r67.1) rfl rfl rfl ?_
            refine G.extract (vs := [bs r67.1, bs r67.2.1, .bool r67.2.2]) (v := bs r67.2.1) rfl rfl rfl ?_
            refine G.extract (vs := [bs r67.1, bs r67.2.1, .bool r67.2.2]) (v := .bool r67.2.2) rfl rfl rfl ?_
            refine G.assign (v := bs r67.1) rfl rfl ?_
            refine G.assign (v := bs r67.2.1) rfl rfl ?_
            refine G.assign (v := .bool r67.2.2) rfl rfl ?_
            refine G.nil ?_
            refine G.keep_ (L' := [(0, bs a0), (4, v46), (7, bs r67.1), (8, bs r67.2.1), (9, .bool r67.2.2), (19, v19), (20, .int .i64 (r13.length : Int)), (21, .int .i64 (i25 : Int))]) (is := [0, 4, 7, 8, 9, 19, 20, 21]) rfl ?_
            refine G.next_ hK66 ?_
            refine G.seq fun K74 hK75 => ?_
            refine G.seq fun K76 hK77 => ?_
            refine G.region ?_
            refine G.move (v := .bool r67.2.2) rfl rfl ?_
            refine G.not (b := r67.2.2) rfl rfl ?_
            refine G.nil ?_
            refine G.keep_ (L' := [(0, bs a0), (4, v46), (7, bs r67.1), (8, bs r67.2.1), (19, v19), (20, .int .i64 (r13.length : Int)), (21, .int .i64 (i25 : Int)), (32, .bool (!r67.2.2))]) (is := [0, 4, 7, 8, 19, 20, 21, 32]) rfl ?_
            refine G.next_ hK77 ?_
            have h78 := h47.up0 u72
            refine G.join (E := fun b a w' => Fr 70 [(0, bs a0), (4, v46), (7, bs r67.1), (8, bs b), (19, v19), (20, .int .i64 (r13.length : Int)), (21, .int .i64 (i25 : Int))] a ∧ w71 = w') ?_ ?_
            · intro b hF79
              refine G.cond (b := (!r67.2.2)) rfl (fun hc80 => ?_) (fun hc80 => ?_)
              · refine G.keep_ (L' := [(0, bs a0), (4, v46), (7, bs r67.1), (19, v19), (20, .int .i64 (r13.length : Int)), (21, .int .i64 (i25 : Int))]) (is := [0, 4, 7, 19, 20, 21]) rfl ?_
                refine G.region ?_
                refine G.move (v := bs r67.1) rfl rfl ?_
                refine G.assign (v := bs r67.1) rfl rfl ?_
                refine G.nil ?_
                refine G.keep_ (L' := [(0, bs a0), (4, v46), (7, bs r67.1), (8, bs r67.1), (19, v19), (20, .int .i64 (r13.length : Int)), (21, .int .i64 (i25 : Int))]) (is := [0, 4, 7, 8, 19, 20, 21]) rfl ?_
                refine G.keep_ (L' := [(0, bs a0), (4, v46), (7, bs r67.1), (8, bs r67.1), (19, v19), (20, .int .i64 (r13.length : Int)), (21, .int .i64 (i25 : Int))]) (is := [0, 4, 7, 8, 19, 20, 21]) rfl ?_
                refine G.finE ?_
                rintro rfl a ha
                exact ⟨ha, rfl⟩
              · refine G.keep_ (L' := [(0, bs a0), (4, v46), (7, bs r67.1), (8, bs r67.2.1), (19, v19), (20, .int .i64 (r13.length : Int)), (21, .int .i64 (i25 : Int))]) (is := [0, 4, 7, 8, 19, 20, 21]) rfl ?_
                refine G.skip ?_
                refine G.keep_ (L' := [(0, bs a0), (4, v46), (7, bs r67.1), (8, bs r67.2.1), (19, v19), (20, .int .i64 (r13.length : Int)), (21, .int .i64 (i25 : Int))]) (is := [0, 4, 7, 8, 19, 20, 21]) rfl ?_
                refine G.finE ?_
                rintro rfl a ha
                exact ⟨ha, rfl⟩
            · rintro b81 hb139 a _ ⟨ha82, rfl⟩ hF140
              refine G.use hF140 ha82 ?_
              refine G.next_ hK75 ?_
              refine G.seq fun K86 hK87 => ?_
              refine G.region ?_
              refine G.move (v := bs r67.1) rfl rfl ?_
              refine G.bind fun r88 hr89 => ?_
              have hc90 := strconv_Atoi_ok hU73.live (hV0.up hU73) r67.1 hr89
              refine G.call (R := strconv_Atoi.Post S70 w71 r88) (vs := [bs r67.1]) rfl rfl Tryd.call16 ?_ ?_
              · exact hc90
              rintro _ w92 ⟨S91, u93, v94, rfl, h95⟩
              have hU96 := hU73.trans0 u93
              refine G.move (v := .tuple [.int .i64 r88.1, v94].toArray) rfl rfl ?_
              refine G.extract (vs := [.int .i64 r88.1, v94]) (v := .int .i64 r88.1) rfl rfl rfl ?_
              refine G.extract (vs := [.int .i64 r88.1, v94]) (v := v94) rfl rfl rfl ?_
              refine G.assign (v := .int .i64 r88.1) rfl rfl ?_
              refine G.assign (v := v94) rfl rfl ?_
              refine G.nil ?_
              refine G.keep_ (L' := [(0, bs a0), (4, v46), (8, bs b81), (10, .int .i64 r88.1), (11, v94), (19, v19), (20, .int .i64 (r13.length : Int)), (21, .int .i64 (i25 : Int))]) (is := [0, 4, 8, 10, 11, 19, 20, 21]) rfl ?_
              refine G.next_ hK87 ?_
              refine G.seq fun K97 hK98 => ?_
              refine G.region ?_
              refine G.move (v := bs b81) rfl rfl ?_
              refine G.bind fun r99 hr100 => ?_
              have hc101 := strconv_Atoi_ok hU96.live (hV0.up hU96) b81 hr100
              refine G.call (R := strconv_Atoi.Post S91 w92 r99) (vs := [bs b81]) rfl rfl Tryd.call16 ?_ ?_
              · exact hc101
              rintro _ w103 ⟨S102, u104, v105, rfl, h106⟩
              have hU107 := hU96.trans0 u104
              refine G.move (v := .tuple [.int .i64 r99.1, v105].toArray) rfl rfl ?_
              refine G.extract (vs := [.int .i64 r99.1, v105]) (v := .int .i64 r99.1) rfl rfl rfl ?_
              refine G.extract (vs := [.int .i64 r99.1, v105]) (v := v105) rfl rfl rfl ?_
              refine G.assign (v := .int .i64 r99.1) rfl rfl ?_
              refine G.assign (v := v105) rfl rfl ?_
              refine G.nil ?_
              refine G.keep_ (L' := [(0, bs a0), (4, v46), (10, .int .i64 r88.1), (11, v94), (12, .int .i64 r99.1), (13, v105), (19, v19), (20, .int .i64 (r13.length : Int)), (21, .int .i64 (i25 : Int))]) (is := [0, 4, 10, 11, 12, 13, 19, 20, 21]) rfl ?_
              refine G.next_ hK98 ?_
              refine G.seq fun K108 hK109 => ?_
              refine G.seq fun K110 hK111 => ?_
              refine G.region ?_
              refine G.move (v := v94) rfl rfl ?_
              refine G.bin (u := v94) (v := .nilIface) (r := .bool r88.2) rfl rfl rfl (b_eneq Tryd.underlying47 h95) ?_
              refine G.move (v := .bool r88.2) rfl rfl ?_
              refine G.cut 3 (fun a w' => w103 = w' ∧ Fr 70 [(0, bs a0), (4, v46), (10, .int .i64 r88.1), (12, .int .i64 r99.1), (19, v19), (20, .int .i64 (r13.length : Int)), (21, .int .i64 (i25 : Int)), (49, .bool (r88.2 || r99.2))] a) ?_ ?_
              · refine G.byb (c := r88.2) (fun hc112 => ?_) (fun hc112 => ?_)
                · refine G.skip_s rfl rfl hc112 rfl ?_
                  refine G.skip_s rfl rfl hc112 rfl ?_
                  refine G.pick_yes (u := .bool true) rfl rfl hc112 rfl ?_
                  refine G.recast (or_yes (x := r99.2) hc112) ?_
                  refine G.nil ?_
                  refine G.keep_ (L' := [(0, bs a0), (4, v46), (10, .int .i64 r88.1), (12, .int .i64 r99.1), (19, v19), (20, .int .i64 (r13.length : Int)), (21, .int .i64 (i25 : Int)), (49, .bool (r88.2 || r99.2))]) (is := [0, 4, 10, 12, 19, 20, 21, 49]) rfl ?_
                  exact G.finE fun _ a ha => ⟨rfl, ha⟩
                · refine G.guard_yes rfl rfl hc112 ?_
                  refine G.move (v := v105) rfl rfl ?_
                  refine G.guard_yes rfl rfl hc112 ?_
                  refine G.bin (u := v105) (v := .nilIface) (r := .bool r99.2) rfl rfl rfl (b_eneq Tryd.underlying47 h106) ?_
                  refine G.pick_no (u := .bool r99.2) rfl rfl hc112 rfl ?_
                  refine G.recast (or_no (x := r99.2) hc112) ?_
                  refine G.nil ?_
                  refine G.keep_ (L' := [(0, bs a0), (4, v46), (10, .int .i64 r88.1), (12, .int .i64 r99.1), (19, v19), (20, .int .i64 (r13.length : Int)), (21, .int .i64 (i25 : Int)), (49, .bool (r88.2 || r99.2))]) (is := [0, 4, 10, 12, 19, 20, 21, 49]) rfl ?_
                  exact G.finE fun _ a ha => ⟨rfl, ha⟩
              · rintro a _ ⟨rfl, ha⟩ hF
                refine G.use hF ha ?_
                refine G.nil ?_
                refine G.keep_ (L' := [(0, bs a0), (4, v46), (10, .int .i64 r88.1), (12, .int .i64 r99.1), (19, v19), (20, .int .i64 (r13.length : Int)), (21, .int .i64 (i25 : Int)), (49, .bool (r88.2 || r99.2))]) (is := [0, 4, 10, 12, 19, 20, 21, 49]) rfl ?_
                refine G.next_ hK111 ?_
                refine G.cond (b := (r88.2 || r99.2)) rfl (fun hc113 => ?_) (fun hc113 => ?_)
                · refine G.keep_ (L' := []) (is := []) rfl ?_
                  refine G.seq fun K114 hK115 => ?_
                  refine G.region ?_
                  refine G.assign (v := .slice none 0 0) rfl rfl ?_
                  refine G.assign (v := .int .i64 3) rfl rfl ?_
                  refine G.nil ?_
                  refine G.keep_ (L' := [(2, .slice none 0 0), (3, .int .i64 3)]) (is := [2, 3]) rfl ?_
                  refine G.next_ hK115 ?_
                  refine G.ret ?_
                  refine G.thn_ret ?_
                  refine G.inB_ret ?_
                  refine G.thn_ret ?_
                  refine G.thn_ret ?_
                  refine G.inB_ret ?_
                  refine G.thn_ret ?_
                  refine G.thn_ret ?_
                  refine G.thn_ret ?_
                  refine G.ret2 (v := .slice none 0 0) (v' := .int .i64 3) Tryd.results7 rfl rfl (fun hF116 => ?_)
                  have hb117 := Option.some.inj hF116
                  subst hb117
                  have hF118 : some (Sum.inl ((([] : List T_Range), 3) : (List T_Range) × Int)) = some _ := hF22
                  have hb119 := Option.some.inj hF118
                  subst hb119
                  have hF120 : (some (([] : List T_Range), 3) : Option ((List T_Range) × Int)) = some _ := hF9
                  obtain rfl := Option.some.inj hF120
                  exact ⟨_, hU107, .slice none 0 0, rfl, RdL.nil⟩
                · refine G.keep_ (L' := [(0, bs a0), (4, v46), (10, .int .i64 r88.1), (12, .int .i64 r99.1), (19, v19), (20, .int .i64 (r13.length : Int)), (21, .int .i64 (i25 : Int))]) (is := [0, 4, 10, 12, 19, 20, 21]) rfl ?_
                  refine G.skip ?_
                  refine G.next_ hK109 ?_
                  refine G.region ?_
                  refine G.move (v := v46) rfl rfl ?_
                  refine G.move (v := .int .i64 r88.1) rfl rfl ?_
                  refine G.move (v := .int .i64 r99.1) rfl rfl ?_
                  refine G.build (pv := [(0, .int .i64 r88.1), (1, .int .i64 r99.1)]) (v := .agg [.int .i64 r88.1, .int .i64 r99.1].toArray) rfl rfl (fun w => run_build w 27 _ _ (by kernel_rfl)) ?_
                  refine G.buildSlice (ys := ([(T_Range.mk r88.1 r99.1)] : List T_Range)) (xs := [.tmp 53]) (vs := [.agg [.int .i64 r88.1, .int .i64 r99.1].toArray]) (cs := [.int .i64 r88.1, .int .i64 r99.1]) rfl elt22 rfl rfl rfl (by decide) rfl (List.forall_mem_cons.2 ⟨rfl, List.forall_mem_nil _⟩) (rfl) (RdX.one (enc := e_T_Range) (x := (T_Range.mk r88.1 r99.1)) (m_T_Range (T_Range.mk r88.1 r99.1)) rfl) hU107.le.size hU107.live ?_
                  intro v121 w122 u123 h124 hw125
                  have hU126 := hU107.trans0 u123
                  have h127 := h78.up0 u93
                  have h128 := h127.up0 u104
                  have h129 := h128.up0 u123
                  refine G.append (xs := x24) (ys := ([(T_Range.mk r88.1 r99.1)] : List T_Range)) (lim := 8796093022208) rfl elt22 rfl rfl (by decide) (by decide) one_T_Range h129 h124.src hU126.le.size hU126.live ?_
                  intro l130 v131 w132 hz133 u134 h135 ho136
                  have hU137 := hU126.trans u134 (fun m hm => .inr (h129.born m hm))
                  refine G.assign (v := v131) rfl rfl ?_
                  refine G.nil ?_
                  refine G.keep_ (L' := [(0, bs a0), (4, v131), (19, v19), (20, .int .i64 (r13.length : Int)), (21, .int .i64 (i25 : Int))]) (is := [0, 4, 19, 20, 21]) rfl ?_
                  refine G.inB ?_
                  refine G.next_ hK55 ?_
                  refine G.region ?_
                  refine G.incr (i := i25) (N := r13.length) rfl rfl rfl (rng_lt hd28) (h20.length_le) ?_
                  refine G.move (v := .int .i64 ((i25 + 1 : Nat) : Int)) rfl rfl ?_
                  refine G.nil ?_
                  refine G.keep_ (L' := [(0, bs a0), (4, v131), (19, v19), (20, .int .i64 (r13.length : Int)), (21, .int .i64 ((i25 + 1 : Nat) : Int))]) (is := [0, 4, 19, 20, 21]) rfl ?_
                  refine G.keep_ (L' := [(0, bs a0), (4, v131), (19, v19), (20, .int .i64 (r13.length : Int)), (21, .int .i64 ((i25 + 1 : Nat) : Int))]) (is := [0, 4, 19, 20, 21]) rfl ?_
                  refine G.again ?_
                  intro hl138 a ha
                  exact ⟨_, Nat.lt_succ_self _, rest27, i25 + 1, l130, rfl, hl138, rng_next hd28, v131, _, ha, (((((((Up.refl' hU21.live (in_nil)).trans0 u45).trans0 u72).trans0 u93).trans0 u104).trans0 u123).trans u134 (fun k hk => .inr ((org0_step ho48 (fun k hk => absurd hk (by simp [ob_nil])) (by omega)) k hk))), h135, fun k hk => .inr ((org0_step ho136 (org0_step ho48 (fun k hk => absurd hk (by simp [ob_nil])) (by omega)) (by have := u45.le.size; have := u72.le.size; have := u93.le.size; have := u104.le.size; have := u123.le.size; omega)) k hk)⟩
      · rintro _ hb151 a w144 ⟨b142, rfl, v147, S145, ha143, u146, h148, ho149⟩ hF152
        refine G.use hF152 ha143 ?_
        refine G.inr2 ?_
        have hU150 := hU21.trans0 u146
        refine G.keep_ (L' := [(0, bs a0), (4, v147)]) (is := [0, 4]) rfl ?_
        refine G.finE ?_
        rintro rfl a ha
        exact ⟨_, rfl, ⟨v147, _, ha, (((Up.refl' hU0.live (in_nil)).trans0 u18).trans0 u146), h148, fun k hk => .inr ((org0_step ho149 (fun k hk => absurd hk (by simp [ob_nil])) (by have := u18.le.size; omega)) k hk)⟩⟩
    · refine G.keep_ (L' := [(0, bs a0), (4, .slice none 0 0)]) (is := [0, 4]) rfl ?_
      refine G.skip ?_
      refine G.keep_ (L' := [(0, bs a0), (4, .slice none 0 0)]) (is := [0, 4]) rfl ?_
      refine G.finE ?_
      rintro rfl a ha
      exact ⟨_, rfl, ⟨.slice none 0 0, _, ha, (Up.refl' hU0.live (in_nil)), OwnL.nil, fun k hk => .inr ((fun k hk => absurd hk (by simp [ob_nil])) k hk)⟩⟩
  · rintro _ hb187 a w155 ⟨b153, rfl, v158, S156, ha154, u157, h159, ho160⟩ hF188
    refine G.use hF188 ha154 ?_
    refine G.inr ?_
    have hU161 := hU0.trans0 u157
    refine G.next_ hK6 ?_
    refine G.seq fun K162 hK163 => ?_
    refine G.seq fun K164 hK165 => ?_
    refine G.region ?_
    refine G.move (v := v158) rfl rfl ?_
    obtain ⟨S166, hS166⟩ : ∃ X : Nat → Prop, X = fun b => S156 b ∨ b ∈ ob v158 := ⟨_, rfl⟩
    have hU167 : Up [] S0 w0 S166 w155 := by rw [hS166]; exact Up.freeze hU161 h159.born h159.lt
    have h168 : RdL _ _ S166 _ _ _ := h159.read (by rw [hS166]; exact fun _ h => .inl h) (by rw [hS166]; exact fun _ h => .inr h)
    refine G.bind fun r169 hr170 => ?_
    have hc171 := version_Text_ok hU167.live (hV0.up hU167) b153 v158 h168 hr170
    refine G.call (R := version_Text.Post S166 w155 r169) (vs := [v158]) rfl rfl Tryd.call4 ?_ ?_
    · exact hc171
    rintro _ w173 ⟨S172, u174, rfl⟩
    have hU175 := hU167.trans0 u174
    refine G.move (v := .tuple [bs r169.1, .int .i64 r169.2].toArray) rfl rfl ?_
    refine G.extract (vs := [bs r169.1, .int .i64 r169.2]) (v := bs r169.1) rfl rfl rfl ?_
    refine G.extract (vs := [bs r169.1, .int .i64 r169.2]) (v := .int .i64 r169.2) rfl rfl rfl ?_
    refine G.assign (v := bs r169.1) rfl rfl ?_
    refine G.assign (v := .int .i64 r169.2) rfl rfl ?_
    refine G.nil ?_
    refine G.keep_ (L' := [(0, bs a0), (4, v158), (14, bs r169.1), (15, .int .i64 r169.2)]) (is := [0, 4, 14, 15]) rfl ?_
    refine G.next_ hK165 ?_
    refine G.seq fun K176 hK177 => ?_
    refine G.region ?_
    refine G.move (v := .int .i64 r169.2) rfl rfl ?_
    refine G.bin (u := .int .i64 r169.2) (v := .int .i64 0) (r := .bool (r169.2 != 0)) rfl rfl rfl b_neq ?_
    refine G.move (v := .bool (r169.2 != 0)) rfl rfl ?_
    refine G.cut 4 (fun a w' => w173 = w' ∧ Fr 70 [(4, v158), (68, .bool ((r169.2 != 0) || (r169.1 != a0)))] a) ?_ ?_
    · refine G.byb (c := (r169.2 != 0)) (fun hc178 => ?_) (fun hc178 => ?_)
      · refine G.skip_s rfl rfl hc178 rfl ?_
        refine G.skip_s rfl rfl hc178 rfl ?_
        refine G.skip_s rfl rfl hc178 rfl ?_
        refine G.pick_yes (u := .bool true) rfl rfl hc178 rfl ?_
        refine G.recast (or_yes (x := (r169.1 != a0)) hc178) ?_
        refine G.nil ?_
        refine G.keep_ (L' := [(4, v158), (68, .bool ((r169.2 != 0) || (r169.1 != a0)))]) (is := [4, 68]) rfl ?_
        exact G.finE fun _ a ha => ⟨rfl, ha⟩
      · refine G.guard_yes rfl rfl hc178 ?_
        refine G.move (v := bs r169.1) rfl rfl ?_
        refine G.guard_yes rfl rfl hc178 ?_
        refine G.move (v := bs a0) rfl rfl ?_
        refine G.guard_yes rfl rfl hc178 ?_
        refine G.bin (u := bs r169.1) (v := bs a0) (r := .bool (r169.1 != a0)) rfl rfl rfl b_sneq ?_
        refine G.pick_no (u := .bool (r169.1 != a0)) rfl rfl hc178 rfl ?_
        refine G.recast (or_no (x := (r169.1 != a0)) hc178) ?_
        refine G.nil ?_
        refine G.keep_ (L' := [(4, v158), (68, .bool ((r169.2 != 0) || (r169.1 != a0)))]) (is := [4, 68]) rfl ?_
        exact G.finE fun _ a ha => ⟨rfl, ha⟩
    · rintro a _ ⟨rfl, ha⟩ hF
      refine G.use hF ha ?_
      refine G.nil ?_
      refine G.keep_ (L' := [(4, v158), (68, .bool ((r169.2 != 0) || (r169.1 != a0)))]) (is := [4, 68]) rfl ?_
      refine G.next_ hK177 ?_
      refine G.cond (b := ((r169.2 != 0) || (r169.1 != a0))) rfl (fun hc179 => ?_) (fun hc179 => ?_)
      · refine G.keep_ (L' := []) (is := []) rfl ?_
        refine G.seq fun K180 hK181 => ?_
        refine G.region ?_
        refine G.assign (v := .slice none 0 0) rfl rfl ?_
        refine G.assign (v := .int .i64 3) rfl rfl ?_
        refine G.nil ?_
        refine G.keep_ (L' := [(2, .slice none 0 0), (3, .int .i64 3)]) (is := [2, 3]) rfl ?_
        refine G.next_ hK181 ?_
        refine G.ret ?_
        refine G.thn_ret ?_
        refine G.ret2 (v := .slice none 0 0) (v' := .int .i64 3) Tryd.results7 rfl rfl (fun hF182 => ?_)
        obtain rfl := Option.some.inj hF182
        exact ⟨_, hU175, .slice none 0 0, rfl, RdL.nil⟩
      · refine G.keep_ (L' := [(4, v158)]) (is := [4]) rfl ?_
        refine G.skip ?_
        refine G.next_ hK163 ?_
        refine G.seq fun K183 hK184 => ?_
        refine G.region ?_
        refine G.move (v := v158) rfl rfl ?_
        refine G.assign (v := v158) rfl rfl ?_
        refine G.assign (v := .int .i64 0) rfl rfl ?_
        refine G.nil ?_
        refine G.keep_ (L' := [(2, v158), (3, .int .i64 0)]) (is := [2, 3]) rfl ?_
        refine G.next_ hK184 ?_
        refine G.ret ?_
        have h185 := h168.up u174
        refine G.ret2 (v := v158) (v' := .int .i64 0) Tryd.results7 rfl rfl (fun hF186 => ?_)
        obtain rfl := Option.some.inj hF186
        exact ⟨_, hU175, v158, rfl, h185⟩
/-! roadstead/roadref5.VersionOf -/
def roadref5_VersionOf.l1  : List (Str) → (List A2_Int) → Option (((List A2_Int) × Int) ⊕ (List A2_Int))
  | [], x28 => some (.inr x28)
  | y30 :: rest31, x28 => (strings_Split y30 [45]).bind fun r71 => (nth r71 0).bind fun y88 => (strconv_Atoi y88).bind fun r90 => (nth r71 (subI (r71.length : Int) 1)).bind fun y108 => (strconv_Atoi y108).bind fun r110 => (if (((decide ((r71.length : Int) > 2)) || r90.2) || r110.2) = true then some (.inl (([] : List A2_Int), 3)) else (app 8796093022208 x28 ([(A2_Int.mk r90.1 r110.1)] : List A2_Int)).bind fun l142 => roadref5_VersionOf.l1 rest31 l142)

theorem roadref5_VersionOf.l1_nil  {x28 : List A2_Int} : roadref5_VersionOf.l1  [] x28 = some (.inr x28) := rfl
theorem roadref5_VersionOf.l1_cons  {y30 : Str} {rest31 : List (Str)} {x28 : List A2_Int} : roadref5_VersionOf.l1  (y30 :: rest31) x28 = (strings_Split y30 [45]).bind fun r71 => (nth r71 0).bind fun y88 => (strconv_Atoi y88).bind fun r90 => (nth r71 (subI (r71.length : Int) 1)).bind fun y108 => (strconv_Atoi y108).bind fun r110 => (if (((decide ((r71.length : Int) > 2)) || r90.2) || r110.2) = true then some (.inl (([] : List A2_Int), 3)) else (app 8796093022208 x28 ([(A2_Int.mk r90.1 r110.1)] : List A2_Int)).bind fun l142 => roadref5_VersionOf.l1 rest31 l142) := rfl
def roadref5_VersionOf.Post (S : Nat → Prop) (w : World) (out : (List A2_Int) × Int) (v : Value) (w' : World) : Prop := ∃ S', Up [] S w S' w' ∧ ∃ r0_0, v = .tuple [r0_0, .int .i64 out.2].toArray ∧ RdL e_A2_Int 2 S' w' r0_0 out.1
def roadref5_VersionOf.Spec (F : Str → Option ((List A2_Int) × Int)) : Prop := ∀ {S : Nat → Prop} {w : World} (_ : ∀ b, S b → b < w.heap.size) (_ : Vars Tryd.prog S w) (a0 : Str) {out : (List A2_Int) × Int}, F a0 = some out → Calls Tryd.prog 8 [bs a0].toArray w (Rets (roadref5_VersionOf.Post S w out))
def roadref5_VersionOf (a0 : Str) : Option ((List A2_Int) × Int) := (if (a0 == ([] : Str)) = true then some (([] : List A2_Int), 0) else (strings_Split a0 [44]).bind fun r17 => (roadref5_VersionOf.l1 r17 ([] : List A2_Int)).bind (retOr fun b152 => (roadref5_VersionText b152).bind fun r168 => (if ((r168.2 != 0) || (r168.1 != a0)) = true then some (([] : List A2_Int), 3) else some (b152, 0))))
set_option maxRecDepth 100000 in
theorem roadref5_VersionOf_ok : roadref5_VersionOf.Spec (roadref5_VersionOf ) := by
  intro S0 w0 hS0 hV0 a0 out hp
  have hU0 := Up.refl hS0
  refine calls_of_G (nt := 73) Tryd.func8 rfl Tryd.ntmps8 rfl ?_ hp
  unfold roadref5_VersionOf
  refine G.seq fun K1 hK2 => ?_
  refine G.region ?_
  refine G.assign (v := .slice none 0 0) rfl rfl ?_
  refine G.assign (v := .int .i64 0) rfl rfl ?_
  refine G.nil ?_
  refine G.keep_ (L' := [(0, bs a0)]) (is := [0]) rfl ?_
  refine G.next_ hK2 ?_
  refine G.seq fun K3 hK4 => ?_
  refine G.seq fun K5 hK6 => ?_
  refine G.region ?_
  refine G.move (v := bs a0) rfl rfl ?_
  refine G.bin (u := bs a0) (v := bs ([] : Str)) (r := .bool (a0 == ([] : Str))) rfl rfl rfl b_seql ?_
  refine G.nil ?_
  refine G.keep_ (L' := [(0, bs a0), (15, .bool (a0 == ([] : Str)))]) (is := [0, 15]) rfl ?_
  refine G.next_ hK6 ?_
  refine G.cond (b := (a0 == ([] : Str))) rfl (fun hc7 => ?_) (fun hc7 => ?_)
  · refine G.keep_ (L' := []) (is := []) rfl ?_
    refine G.seq fun K8 hK9 => ?_
    refine G.region ?_
    refine G.assign (v := .slice none 0 0) rfl rfl ?_
    refine G.assign (v := .int .i64 0) rfl rfl ?_
    refine G.nil ?_
    refine G.keep_ (L' := [(2, .slice none 0 0), (3, .int .i64 0)]) (is := [2, 3]) rfl ?_
    refine G.next_ hK9 ?_
    refine G.ret ?_
    refine G.thn_ret ?_
    refine G.ret2 (v := .slice none 0 0) (v' := .int .i64 0) Tryd.results8 rfl rfl (fun hF10 => ?_)
    obtain rfl := Option.some.inj hF10
    exact ⟨_, hU0, .slice none 0 0, rfl, RdL.nil⟩
  · refine G.keep_ (L' := [(0, bs a0)]) (is := [0]) rfl ?_
    refine G.skip ?_
    refine G.next_ hK4 ?_
    refine G.seq fun K11 hK12 => ?_
    refine G.region ?_
    refine G.assign (v := .slice none 0 0) rfl rfl ?_
    refine G.nil ?_
    refine G.keep_ (L' := [(0, bs a0), (4, .slice none 0 0)]) (is := [0, 4]) rfl ?_
    refine G.next_ hK12 ?_
    refine G.seq fun K13 hK14 => ?_
    refine G.seq fun K15 hK16 => ?_
    refine G.region ?_
    refine G.move (v := bs a0) rfl rfl ?_
    refine G.bind fun r17 hr18 => ?_
    have hc19 := strings_Split_ok hU0.live a0 [44] hr18
    refine G.call (R := strings_Split.Post S0 w0 r17) (vs := [bs a0, bs [44]]) rfl rfl Tryd.call14 ?_ ?_
    · exact hc19
    rintro v23 w21 ⟨S20, u22, _, rfl, h24⟩
    have hU25 := hU0.trans0 u22
    refine G.len_rd rfl rfl Tryd.runUnderlying38 h24 ?_
    refine G.move (v := .int .i64 0) rfl rfl ?_
    refine G.nil ?_
    refine G.keep_ (L' := [(0, bs a0), (4, .slice none 0 0), (17, v23), (18, .int .i64 (r17.length : Int)), (19, .int .i64 0)]) (is := [0, 4, 17, 18, 19]) rfl ?_
    refine G.next_ hK16 ?_
    refine G.join (E := fun o a w' => ∃ b, o = .inr b ∧ ∃ (v_slot_4 : Value) (S_ : Nat → Prop), Fr 73 [(0, bs a0), (4, v_slot_4)] a ∧ Up [] S20 w21 S_ w' ∧ OwnL e_A2_Int 42 2 w0.heap.size S_ w' v_slot_4 b ∧ (∀ k ∈ ob v_slot_4, k ∈ ob (.slice none 0 0) ∨ w21.heap.size ≤ k)) ?_ ?_
    · intro b hF26
      refine G.block ?_
      refine G.keep_ (L' := [(0, bs a0), (4, .slice none 0 0), (17, v23), (18, .int .i64 (r17.length : Int)), (19, .int .i64 ((0 : Nat) : Int))]) (is := [0, 4, 17, 18, 19]) rfl ?_
      refine G.loop (fun k a w => ∃ (rest31 : List (Str)) (i29 : Nat) (x28 : List A2_Int), k = rest31.length ∧ roadref5_VersionOf.l1 rest31 x28 = some b ∧ r17.drop i29 = rest31 ∧ ∃ (v_slot_4 : Value) (S_ : Nat → Prop), Fr 73 [(0, bs a0), (4, v_slot_4), (17, v23), (18, .int .i64 (r17.length : Int)), (19, .int .i64 (i29 : Int))] a ∧ Up [] S20 w21 S_ w ∧ OwnL e_A2_Int 42 2 w0.heap.size S_ w v_slot_4 x28 ∧ (∀ k ∈ ob v_slot_4, k ∈ ob (.slice none 0 0) ∨ w21.heap.size ≤ k)) (r17.length) ?_ ?_
      · intro hl151 a ha
        exact ⟨r17, 0, ([] : List A2_Int), rfl, hl151, rfl, .slice none 0 0, _, ha, (Up.refl' hU25.live (in_nil)), OwnL.nil, fun k hk => .inr ((fun k hk => absurd hk (by simp [ob_nil])) k hk)⟩
      · rintro _ a ww ⟨rest31, i29, x28, rfl, hl27, hd32, hJ⟩
        rcases rest31 with _ | ⟨y30, rest31⟩
        · rw [roadref5_VersionOf.l1_nil] at hl27
          obtain ⟨w35, rfl⟩ : ∃ x : World, x = ww := ⟨ww, rfl⟩
          obtain ⟨v38, S36, ha34, u37, h39, ho40⟩ := hJ
          refine G.use hl27 ha34 ?_
          have hU41 := hU25.trans0 u37
          refine G.seq fun K42 hK43 => ?_
          refine G.region ?_
          refine G.bin (u := .int .i64 (i29 : Int)) (v := .int .i64 (r17.length : Int)) (r := .bool (decide ((i29 : Int) < (r17.length : Int)))) rfl rfl rfl b_lss ?_
          refine G.nil ?_
          refine G.keep_ (L' := [(0, bs a0), (4, v38), (17, v23), (18, .int .i64 (r17.length : Int)), (19, .int .i64 (i29 : Int)), (20, .bool (decide ((i29 : Int) < (r17.length : Int))))]) (is := [0, 4, 17, 18, 19, 20]) rfl ?_
          refine G.next_ hK43 ?_
          refine G.seq fun K44 hK45 => ?_
          refine G.no rfl (rng_end hd32) ?_
          refine G.exit ?_
          refine G.thn_exit ?_
          refine G.thn_exit ?_
          refine G.inB_eq ?_
          refine G.keep_ (L' := [(0, bs a0), (4, v38)]) (is := [0, 4]) rfl ?_
          refine G.finE ?_
          rintro rfl a ha
          exact ⟨_, rfl, ⟨v38, _, ha, ((Up.refl' hU25.live (in_nil)).trans0 u37), h39, fun k hk => .inr ((org0_step ho40 (fun k hk => absurd hk (by simp [ob_nil])) (by omega)) k hk)⟩⟩
        · rw [roadref5_VersionOf.l1_cons] at hl27
          obtain ⟨w47, rfl⟩ : ∃ x : World, x = ww := ⟨ww, rfl⟩
          obtain ⟨v50, S48, ha46, u49, h51, ho52⟩ := hJ
          refine G.use hl27 ha46 ?_
          have hU53 := hU25.trans0 u49
          refine G.seq fun K54 hK55 => ?_
          refine G.region ?_
          refine G.bin (u := .int .i64 (i29 : Int)) (v := .int .i64 (r17.length : Int)) (r := .bool (decide ((i29 : Int) < (r17.length : Int)))) rfl rfl rfl b_lss ?_
          refine G.nil ?_
          refine G.keep_ (L' := [(0, bs a0), (4, v50), (17, v23), (18, .int .i64 (r17.length : Int)), (19, .int .i64 (i29 : Int)), (20, .bool (decide ((i29 : Int) < (r17.length : Int))))]) (is := [0, 4, 17, 18, 19, 20]) rfl ?_
          refine G.next_ hK55 ?_
          refine G.seq fun K56 hK57 => ?_
          refine G.yes rfl (rng_more hd32) ?_
          refine G.skip ?_
          refine G.next_ hK57 ?_
          refine G.seq fun K58 hK59 => ?_
          refine G.block ?_
          refine G.seq fun K60 hK61 => ?_
          refine G.region ?_
          have h62 := h24.up u49
          refine G.at_rd (i := i29) (y := y30) rfl rfl rfl Tryd.runUnderlying38 Tryd.sizeOf9 h62 (rng_at hd32) ?_
          intro b63 o64 cs65 hC66 hl67 hR68
          have hR68_ := Rd.val_iff.1 hR68; subst hR68_
          refine G.load1 (o := o64) (j := 0) (cs := [bs y30]) (v := bs y30) rfl rfl Tryd.isAgg9 hC66 rfl rfl ?_
          refine G.assign (v := bs y30) rfl rfl ?_
          refine G.nil ?_
          refine G.keep_ (L' := [(0, bs a0), (4, v50), (6, bs y30), (17, v23), (18, .int .i64 (r17.length : Int)), (19, .int .i64 (i29 : Int))]) (is := [0, 4, 6, 17, 18, 19]) rfl ?_
          refine G.next_ hK61 ?_
          refine G.seq fun K69 hK70 => ?_
          refine G.region ?_
          refine G.move (v := bs y30) rfl rfl ?_
          refine G.bind fun r71 hr72 => ?_
          have hc73 := strings_Split_ok hU53.live y30 [45] hr72
          refine G.call (R := strings_Split.Post S48 w47 r71) (vs := [bs y30, bs [45]]) rfl rfl Tryd.call14 ?_ ?_
          · exact hc73
          rintro v77 w75 ⟨S74, u76, _, rfl, h78⟩
          have hU79 := hU53.trans0 u76
          refine G.assign (v := v77) rfl rfl ?_
          refine G.nil ?_
          refine G.keep_ (L' := [(0, bs a0), (4, v50), (7, v77), (17, v23), (18, .int .i64 (r17.length : Int)), (19, .int .i64 (i29 : Int))]) (is := [0, 4, 7, 17, 18, 19]) rfl ?_
          refine G.next_ hK70 ?_
          refine G.seq fun K80 hK81 => ?_
          refine G.region ?_
          refine G.move (v := v77) rfl rfl ?_
          refine G.nth_rd (i := 0) rfl rfl rfl Tryd.runUnderlying38 Tryd.sizeOf9 h78 ?_
          intro y88 b82 o83 cs84 hy89 hC85 hl86 hR87
          have hR87_ := Rd.val_iff.1 hR87; subst hR87_
          refine G.load1 (o := o83) (j := 0) (cs := [bs y88]) (v := bs y88) rfl rfl Tryd.isAgg9 hC85 rfl rfl ?_
          refine G.bind fun r90 hr91 => ?_
          have hc92 := strconv_Atoi_ok hU79.live (hV0.up hU79) y88 hr91
          refine G.call (R := strconv_Atoi.Post S74 w75 r90) (vs := [bs y88]) rfl rfl Tryd.call16 ?_ ?_
          · exact hc92
          rintro _ w94 ⟨S93, u95, v96, rfl, h97⟩
          have hU98 := hU79.trans0 u95
          refine G.move (v := .tuple [.int .i64 r90.1, v96].toArray) rfl rfl ?_
          refine G.extract (vs := [.int .i64 r90.1, v96]) (v := .int .i64 r90.1) rfl rfl rfl ?_
          refine G.extract (vs := [.int .i64 r90.1, v96]) (v := v96) rfl rfl rfl ?_
          refine G.assign (v := .int .i64 r90.1) rfl rfl ?_
          refine G.assign (v := v96) rfl rfl ?_
          refine G.nil ?_
          refine G.keep_ (L' := [(0, bs a0), (4, v50), (7, v77), (8, .int .i64 r90.1), (9, v96), (17, v23), (18, .int .i64 (r17.length : Int)), (19, .int .i64 (i29 : Int))]) (is := [0, 4, 7, 8, 9, 17, 18, 19]) rfl ?_
          refine G.next_ hK81 ?_
          refine G.seq fun K99 hK100 => ?_
          refine G.region ?_
          refine G.move (v := v77) rfl rfl ?_
          refine G.move (v := v77) rfl rfl ?_
          have h101 := h78.up u95
          refine G.len_rd rfl rfl Tryd.runUnderlying38 h101 ?_
          refine G.bin (u := .int .i64 (r71.length : Int)) (v := .int .i64 1) (r := .int .i64 (subI (r71.length : Int) 1)) rfl rfl rfl b_sub ?_
          refine G.nth_rd (i := (subI (r71.length : Int) 1)) rfl rfl rfl Tryd.runUnderlying38 Tryd.sizeOf9 h101 ?_
          intro y108 b102 o103 cs104 hy109 hC105 hl106 hR107
          have hR107_ := Rd.val_iff.1 hR107; subst hR107_
          refine G.load1 (o := o103) (j := 0) (cs := [bs y108]) (v := bs y108) rfl rfl Tryd.isAgg9 hC105 rfl rfl ?_
          refine G.bind fun r110 hr111 => ?_
          have hc112 := strconv_Atoi_ok hU98.live (hV0.up hU98) y108 hr111
          refine G.call (R := strconv_Atoi.Post S93 w94 r110) (vs := [bs y108]) rfl rfl Tryd.call16 ?_ ?_
          · exact hc112
          rintro _ w114 ⟨S113, u115, v116, rfl, h117⟩
          have hU118 := hU98.trans0 u115
          refine G.move (v := .tuple [.int .i64 r110.1, v116].toArray) rfl rfl ?_
          refine G.extract (vs := [.int .i64 r110.1, v116]) (v := .int .i64 r110.1) rfl rfl rfl ?_
          refine G.extract (vs := [.int .i64 r110.1, v116]) (v := v116) rfl rfl rfl ?_
          refine G.assign (v := .int .i64 r110.1) rfl rfl ?_
          refine G.assign (v := v116) rfl rfl ?_
          refine G.nil ?_
          refine G.keep_ (L' := [(0, bs a0), (4, v50), (7, v77), (8, .int .i64 r90.1), (9, v96), (10, .int .i64 r110.1), (11, v116), (17, v23), (18, .int .i64 (r17.length : Int)), (19, .int .i64 (i29 : Int))]) (is := [0, 4, 7, 8, 9, 10, 11, 17, 18, 19]) rfl ?_
          refine G.next_ hK100 ?_
          refine G.seq fun K119 hK120 => ?_
          refine G.seq fun K121 hK122 => ?_
          refine G.region ?_
          refine G.move (v := v77) rfl rfl ?_
          have h123 := h101.up u115
          refine G.len_rd rfl rfl Tryd.runUnderlying38 h123 ?_
          refine G.bin (u := .int .i64 (r71.length : Int)) (v := .int .i64 2) (r := .bool (decide ((r71.length : Int) > 2))) rfl rfl rfl b_gtr ?_
          refine G.move (v := .bool (decide ((r71.length : Int) > 2))) rfl rfl ?_
          refine G.cut 3 (fun a w' => w114 = w' ∧ Fr 73 [(0, bs a0), (4, v50), (8, .int .i64 r90.1), (10, .int .i64 r110.1), (11, v116), (17, v23), (18, .int .i64 (r17.length : Int)), (19, .int .i64 (i29 : Int)), (48, .bool ((decide ((r71.length : Int) > 2)) || r90.2))] a) ?_ ?_
          · refine G.byb (c := (decide ((r71.length : Int) > 2))) (fun hc124 => ?_) (fun hc124 => ?_)
            · refine G.skip_s rfl rfl hc124 rfl ?_
              refine G.skip_s rfl rfl hc124 rfl ?_
              refine G.pick_yes (u := .bool true) rfl rfl hc124 rfl ?_
              refine G.recast (or_yes (x := r90.2) hc124) ?_
              refine G.nil ?_
              refine G.keep_ (L' := [(0, bs a0), (4, v50), (8, .int .i64 r90.1), (10, .int .i64 r110.1), (11, v116), (17, v23), (18, .int .i64 (r17.length : Int)), (19, .int .i64 (i29 : Int)), (48, .bool ((decide ((r71.length : Int) > 2)) || r90.2))]) (is := [0, 4, 8, 10, 11, 17, 18, 19, 48]) rfl ?_
              exact G.finE fun _ a ha => ⟨rfl, ha⟩
            · refine G.guard_yes rfl rfl hc124 ?_
              refine G.move (v := v96) rfl rfl ?_
              refine G.guard_yes rfl rfl hc124 ?_
              refine G.bin (u := v96) (v := .nilIface) (r := .bool r90.2) rfl rfl rfl (b_eneq Tryd.underlying47 h97) ?_
              refine G.pick_no (u := .bool r90.2) rfl rfl hc124 rfl ?_
              refine G.recast (or_no (x := r90.2) hc124) ?_
              refine G.nil ?_
              refine G.keep_ (L' := [(0, bs a0), (4, v50), (8, .int .i64 r90.1), (10, .int .i64 r110.1), (11, v116), (17, v23), (18, .int .i64 (r17.length : Int)), (19, .int .i64 (i29 : Int)), (48, .bool ((decide ((r71.length : Int) > 2)) || r90.2))]) (is := [0, 4, 8, 10, 11, 17, 18, 19, 48]) rfl ?_
              exact G.finE fun _ a ha => ⟨rfl, ha⟩
          · rintro a _ ⟨rfl, ha⟩ hF
            refine G.use hF ha ?_
            refine G.move (v := .bool ((decide ((r71.length : Int) > 2)) || r90.2)) rfl rfl ?_
            refine G.cut 3 (fun a w' => w114 = w' ∧ Fr 73 [(0, bs a0), (4, v50), (8, .int .i64 r90.1), (10, .int .i64 r110.1), (17, v23), (18, .int .i64 (r17.length : Int)), (19, .int .i64 (i29 : Int)), (52, .bool (((decide ((r71.length : Int) > 2)) || r90.2) || r110.2))] a) ?_ ?_
            · refine G.byb (c := ((decide ((r71.length : Int) > 2)) || r90.2)) (fun hc125 => ?_) (fun hc125 => ?_)
              · refine G.skip_s rfl rfl hc125 rfl ?_
                refine G.skip_s rfl rfl hc125 rfl ?_
                refine G.pick_yes (u := .bool true) rfl rfl hc125 rfl ?_
                refine G.recast (or_yes (x := r110.2) hc125) ?_
                refine G.nil ?_
                refine G.keep_ (L' := [(0, bs a0), (4, v50), (8, .int .i64 r90.1), (10, .int .i64 r110.1), (17, v23), (18, .int .i64 (r17.length : Int)), (19, .int .i64 (i29 : Int)), (52, .bool (((decide ((r71.length : Int) > 2)) || r90.2) || r110.2))]) (is := [0, 4, 8, 10, 17, 18, 19, 52]) rfl ?_
                exact G.finE fun _ a ha => ⟨rfl, ha⟩
              · refine G.guard_yes rfl rfl hc125 ?_
                refine G.move (v := v116) rfl rfl ?_
                refine G.guard_yes rfl rfl hc125 ?_
                refine G.bin (u := v116) (v := .nilIface) (r := .bool r110.2) rfl rfl rfl (b_eneq Tryd.underlying47 h117) ?_
                refine G.pick_no (u := .bool r110.2) rfl rfl hc125 rfl ?_
                refine G.recast (or_no (x := r110.2) hc125) ?_
                refine G.nil ?_
                refine G.keep_ (L' := [(0, bs a0), (4, v50), (8, .int .i64 r90.1), (10, .int .i64 r110.1), (17, v23), (18, .int .i64 (r17.length : Int)), (19, .int .i64 (i29 : Int)), (52, .bool (((decide ((r71.length : Int) > 2)) || r90.2) || r110.2))]) (is := [0, 4, 8, 10, 17, 18, 19, 52]) rfl ?_
                exact G.finE fun _ a ha => ⟨rfl, ha⟩
            · rintro a _ ⟨rfl, ha⟩ hF
              refine G.use hF ha ?_
              refine G.nil ?_
              refine G.keep_ (L' := [(0, bs a0), (4, v50), (8, .int .i64 r90.1), (10, .int .i64 r110.1), (17, v23), (18, .int .i64 (r17.length : Int)), (19, .int .i64 (i29 : Int)), (52, .bool (((decide ((r71.length : Int) > 2)) || r90.2) || r110.2))]) (is := [0, 4, 8, 10, 17, 18, 19, 52]) rfl ?_
              refine G.next_ hK122 ?_
              refine G.cond (b := (((decide ((r71.length : Int) > 2)) || r90.2) || r110.2)) rfl (fun hc126 => ?_) (fun hc126 => ?_)
              · refine G.keep_ (L' := []) (is := []) rfl ?_
                refine G.seq fun K127 hK128 => ?_
                refine G.region ?_
                refine G.assign (v := .slice none 0 0) rfl rfl ?_
                refine G.assign (v := .int .i64 3) rfl rfl ?_
                refine G.nil ?_
                refine G.keep_ (L' := [(2, .slice none 0 0), (3, .int .i64 3)]) (is := [2, 3]) rfl ?_
                refine G.next_ hK128 ?_
                refine G.ret ?_
                refine G.thn_ret ?_
                refine G.inB_ret ?_
                refine G.thn_ret ?_
                refine G.thn_ret ?_
                refine G.inB_ret ?_
                refine G.thn_ret ?_
                refine G.thn_ret ?_
                refine G.ret2 (v := .slice none 0 0) (v' := .int .i64 3) Tryd.results8 rfl rfl (fun hF129 => ?_)
                have hb130 := Option.some.inj hF129
                subst hb130
                have hF131 : (some (([] : List A2_Int), 3) : Option ((List A2_Int) × Int)) = some _ := hF26
                obtain rfl := Option.some.inj hF131
                exact ⟨_, hU118, .slice none 0 0, rfl, RdL.nil⟩
              · refine G.keep_ (L' := [(0, bs a0), (4, v50), (8, .int .i64 r90.1), (10, .int .i64 r110.1), (17, v23), (18, .int .i64 (r17.length : Int)), (19, .int .i64 (i29 : Int))]) (is := [0, 4, 8, 10, 17, 18, 19]) rfl ?_
                refine G.skip ?_
                refine G.next_ hK120 ?_
                refine G.region ?_
                refine G.move (v := v50) rfl rfl ?_
                refine G.move (v := .int .i64 r90.1) rfl rfl ?_
                refine G.move (v := .int .i64 r110.1) rfl rfl ?_
                refine G.build (pv := [(0, .int .i64 r90.1), (1, .int .i64 r110.1)]) (v := .agg [.int .i64 r90.1, .int .i64 r110.1].toArray) rfl rfl (fun w => run_build w 42 _ _ (by kernel_rfl)) ?_
                refine G.buildSlice (ys := ([(A2_Int.mk r90.1 r110.1)] : List A2_Int)) (xs := [.tmp 56]) (vs := [.agg [.int .i64 r90.1, .int .i64 r110.1].toArray]) (cs := [.int .i64 r90.1, .int .i64 r110.1]) rfl elt29 rfl rfl rfl (by decide) rfl (List.forall_mem_cons.2 ⟨rfl, List.forall_mem_nil _⟩) (rfl) (RdX.one (enc := e_A2_Int) (x := (A2_Int.mk r90.1 r110.1)) (m_A2_Int (A2_Int.mk r90.1 r110.1)) rfl) hU118.le.size hU118.live ?_
                intro v132 w133 u134 h135 hw136
                have hU137 := hU118.trans0 u134
                have h138 := h51.up0 u76
                have h139 := h138.up0 u95
                have h140 := h139.up0 u115
                have h141 := h140.up0 u134
                refine G.append (xs := x28) (ys := ([(A2_Int.mk r90.1 r110.1)] : List A2_Int)) (lim := 8796093022208) rfl elt29 rfl rfl (by decide) (by decide) one_A2_Int h141 h135.src hU137.le.size hU137.live ?_
                intro l142 v143 w144 hz145 u146 h147 ho148
                have hU149 := hU137.trans u146 (fun m hm => .inr (h141.born m hm))
                refine G.assign (v := v143) rfl rfl ?_
                refine G.nil ?_
                refine G.keep_ (L' := [(0, bs a0), (4, v143), (17, v23), (18, .int .i64 (r17.length : Int)), (19, .int .i64 (i29 : Int))]) (is := [0, 4, 17, 18, 19]) rfl ?_
                refine G.inB ?_
                refine G.next_ hK59 ?_
                refine G.region ?_
                refine G.incr (i := i29) (N := r17.length) rfl rfl rfl (rng_lt hd32) (h24.length_le) ?_
                refine G.move (v := .int .i64 ((i29 + 1 : Nat) : Int)) rfl rfl ?_
                refine G.nil ?_
                refine G.keep_ (L' := [(0, bs a0), (4, v143), (17, v23), (18, .int .i64 (r17.length : Int)), (19, .int .i64 ((i29 + 1 : Nat) : Int))]) (is := [0, 4, 17, 18, 19]) rfl ?_
                refine G.keep_ (L' := [(0, bs a0), (4, v143), (17, v23), (18, .int .i64 (r17.length : Int)), (19, .int .i64 ((i29 + 1 : Nat) : Int))]) (is := [0, 4, 17, 18, 19]) rfl ?_
                refine G.again ?_
                intro hl150 a ha
                exact ⟨_, Nat.lt_succ_self _, rest31, i29 + 1, l142, rfl, hl150, rng_next hd32, v143, _, ha, (((((((Up.refl' hU25.live (in_nil)).trans0 u49).trans0 u76).trans0 u95).trans0 u115).trans0 u134).trans u146 (fun k hk => .inr ((org0_step ho52 (fun k hk => absurd hk (by simp [ob_nil])) (by omega)) k hk))), h147, fun k hk => .inr ((org0_step ho148 (org0_step ho52 (fun k hk => absurd hk (by simp [ob_nil])) (by omega)) (by have := u49.le.size; have := u76.le.size; have := u95.le.size; have := u115.le.size; have := u134.le.size; omega)) k hk)⟩
    · rintro _ hb186 a w154 ⟨b152, rfl, v157, S155, ha153, u156, h158, ho159⟩ hF187
      refine G.use hF187 ha153 ?_
      refine G.inr ?_
      have hU160 := hU25.trans0 u156
      refine G.next_ hK14 ?_
      refine G.seq fun K161 hK162 => ?_
      refine G.seq fun K163 hK164 => ?_
      refine G.region ?_
      refine G.move (v := v157) rfl rfl ?_
      obtain ⟨S165, hS165⟩ : ∃ X : Nat → Prop, X = fun b => S155 b ∨ b ∈ ob v157 := ⟨_, rfl⟩
      have hU166 : Up [] S0 w0 S165 w154 := by rw [hS165]; exact Up.freeze hU160 h158.born h158.lt
      have h167 : RdL _ _ S165 _ _ _ := h158.read (by rw [hS165]; exact fun _ h => .inl h) (by rw [hS165]; exact fun _ h => .inr h)
      refine G.bind fun r168 hr169 => ?_
      have hc170 := roadref5_VersionText_ok hU166.live (hV0.up hU166) b152 v157 h167 hr169
      refine G.call (R := roadref5_VersionText.Post S165 w154 r168) (vs := [v157]) rfl rfl Tryd.call5 ?_ ?_
      · exact hc170
      rintro _ w172 ⟨S171, u173, rfl⟩
      have hU174 := hU166.trans0 u173
      refine G.move (v := .tuple [bs r168.1, .int .i64 r168.2].toArray) rfl rfl ?_
      refine G.extract (vs := [bs r168.1, .int .i64 r168.2]) (v := bs r168.1) rfl rfl rfl ?_
      refine G.extract (vs := [bs r168.1, .int .i64 r168.2]) (v := .int .i64 r168.2) rfl rfl rfl ?_
      refine G.assign (v := bs r168.1) rfl rfl ?_
      refine G.assign (v := .int .i64 r168.2) rfl rfl ?_
      refine G.nil ?_
      refine G.keep_ (L' := [(0, bs a0), (4, v157), (12, bs r168.1), (13, .int .i64 r168.2)]) (is := [0, 4, 12, 13]) rfl ?_
      refine G.next_ hK164 ?_
      refine G.seq fun K175 hK176 => ?_
      refine G.region ?_
      refine G.move (v := .int .i64 r168.2) rfl rfl ?_
      refine G.bin (u := .int .i64 r168.2) (v := .int .i64 0) (r := .bool (r168.2 != 0)) rfl rfl rfl b_neq ?_
      refine G.move (v := .bool (r168.2 != 0)) rfl rfl ?_
      refine G.cut 4 (fun a w' => w172 = w' ∧ Fr 73 [(4, v157), (71, .bool ((r168.2 != 0) || (r168.1 != a0)))] a) ?_ ?_
      · refine G.byb (c := (r168.2 != 0)) (fun hc177 => ?_) (fun hc177 => ?_)
        · refine G.skip_s rfl rfl hc177 rfl ?_
          refine G.skip_s rfl rfl hc177 rfl ?_
          refine G.skip_s rfl rfl hc177 rfl ?_
          refine G.pick_yes (u := .bool true) rfl rfl hc177 rfl ?_
          refine G.recast (or_yes (x := (r168.1 != a0)) hc177) ?_
          refine G.nil ?_
          refine G.keep_ (L' := [(4, v157), (71, .bool ((r168.2 != 0) || (r168.1 != a0)))]) (is := [4, 71]) rfl ?_
          exact G.finE fun _ a ha => ⟨rfl, ha⟩
        · refine G.guard_yes rfl rfl hc177 ?_
          refine G.move (v := bs r168.1) rfl rfl ?_
          refine G.guard_yes rfl rfl hc177 ?_
          refine G.move (v := bs a0) rfl rfl ?_
          refine G.guard_yes rfl rfl hc177 ?_
          refine G.bin (u := bs r168.1) (v := bs a0) (r := .bool (r168.1 != a0)) rfl rfl rfl b_sneq ?_
          refine G.pick_no (u := .bool (r168.1 != a0)) rfl rfl hc177 rfl ?_
          refine G.recast (or_no (x := (r168.1 != a0)) hc177) ?_
          refine G.nil ?_
          refine G.keep_ (L' := [(4, v157), (71, .bool ((r168.2 != 0) || (r168.1 != a0)))]) (is := [4, 71]) rfl ?_
          exact G.finE fun _ a ha => ⟨rfl, ha⟩
      · rintro a _ ⟨rfl, ha⟩ hF
        refine G.use hF ha ?_
        refine G.nil ?_
        refine G.keep_ (L' := [(4, v157), (71, .bool ((r168.2 != 0) || (r168.1 != a0)))]) (is := [4, 71]) rfl ?_
        refine G.next_ hK176 ?_
        refine G.cond (b := ((r168.2 != 0) || (r168.1 != a0))) rfl (fun hc178 => ?_) (fun hc178 => ?_)
        · refine G.keep_ (L' := []) (is := []) rfl ?_
          refine G.seq fun K179 hK180 => ?_
          refine G.region ?_
          refine G.assign (v := .slice none 0 0) rfl rfl ?_
          refine G.assign (v := .int .i64 3) rfl rfl ?_
          refine G.nil ?_
          refine G.keep_ (L' := [(2, .slice none 0 0), (3, .int .i64 3)]) (is := [2, 3]) rfl ?_
          refine G.next_ hK180 ?_
          refine G.ret ?_
          refine G.thn_ret ?_
          refine G.ret2 (v := .slice none 0 0) (v' := .int .i64 3) Tryd.results8 rfl rfl (fun hF181 => ?_)
          obtain rfl := Option.some.inj hF181
          exact ⟨_, hU174, .slice none 0 0, rfl, RdL.nil⟩
        · refine G.keep_ (L' := [(4, v157)]) (is := [4]) rfl ?_
          refine G.skip ?_
          refine G.next_ hK162 ?_
          refine G.seq fun K182 hK183 => ?_
          refine G.region ?_
          refine G.move (v := v157) rfl rfl ?_
          refine G.assign (v := v157) rfl rfl ?_
          refine G.assign (v := .int .i64 0) rfl rfl ?_
          refine G.nil ?_
          refine G.keep_ (L' := [(2, v157), (3, .int .i64 0)]) (is := [2, 3]) rfl ?_
          refine G.next_ hK183 ?_
          refine G.ret ?_
          have h184 := h167.up u173
          refine G.ret2 (v := v157) (v' := .int .i64 0) Tryd.results8 rfl rfl (fun hF185 => ?_)
          obtain rfl := Option.some.inj hF185
          exact ⟨_, hU174, v157, rfl, h184⟩
/-! slices.Equal[[][2]int,[2]int] -/
def slices_Equal_2_int_2_int.l1 (a1 : List A2_Int) : List (A2_Int) → Nat → Option (Bool ⊕ (Unit))
  | [], i17 => some (.inr ())
  | y18 :: rest19, i17 => (nth a1 (i17 : Int)).bind fun y60 => (if (!(y18.e0 == y60.e0 && y18.e1 == y60.e1)) = true then some (.inl false) else slices_Equal_2_int_2_int.l1 a1 rest19 (i17 + 1))

theorem slices_Equal_2_int_2_int.l1_nil (a1 : List A2_Int) {i17 : Nat} : slices_Equal_2_int_2_int.l1 a1 [] i17 = some (.inr ()) := rfl
theorem slices_Equal_2_int_2_int.l1_cons (a1 : List A2_Int) {y18 : A2_Int} {rest19 : List (A2_Int)} {i17 : Nat} : slices_Equal_2_int_2_int.l1 a1 (y18 :: rest19) i17 = (nth a1 (i17 : Int)).bind fun y60 => (if (!(y18.e0 == y60.e0 && y18.e1 == y60.e1)) = true then some (.inl false) else slices_Equal_2_int_2_int.l1 a1 rest19 (i17 + 1)) := rfl
def slices_Equal_2_int_2_int.Post (S : Nat → Prop) (w : World) (out : Bool) (v : Value) (w' : World) : Prop := ∃ S', Up [] S w S' w' ∧ v = .bool out
def slices_Equal_2_int_2_int.Spec (F : (List A2_Int) → (List A2_Int) → Option (Bool)) : Prop := ∀ {S : Nat → Prop} {w : World} (_ : ∀ b, S b → b < w.heap.size) (a0 : List A2_Int) (a1 : List A2_Int) (v0_0 : Value) (v1_0 : Value) (_ : RdL e_A2_Int 2 S w v0_0 a0) (_ : RdL e_A2_Int 2 S w v1_0 a1) {out : Bool}, F a0 a1 = some out → Calls Tryd.prog 17 [v0_0, v1_0].toArray w (Rets (slices_Equal_2_int_2_int.Post S w out))
def slices_Equal_2_int_2_int (a0 : List A2_Int) (a1 : List A2_Int) : Option (Bool) := (if ((a0.length : Int) != (a1.length : Int)) = true then some false else (slices_Equal_2_int_2_int.l1 a1 a0 0).bind (retOr fun b119 => some true))
set_option maxRecDepth 100000 in
theorem slices_Equal_2_int_2_int_ok : slices_Equal_2_int_2_int.Spec (slices_Equal_2_int_2_int ) := by
  intro S0 w0 hS0 a0 a1 v0_0 v1_0 h0_0 h1_0 out hp
  have hU0 := Up.refl hS0
  refine calls_of_G (nt := 26) Tryd.func17 rfl Tryd.ntmps17 rfl ?_ hp
  unfold slices_Equal_2_int_2_int
  refine G.seq fun K1 hK2 => ?_
  refine G.region ?_
  refine G.assign (v := .bool false) rfl rfl ?_
  refine G.nil ?_
  refine G.keep_ (L' := [(0, v0_0), (1, v1_0)]) (is := [0, 1]) rfl ?_
  refine G.next_ hK2 ?_
  refine G.seq fun K3 hK4 => ?_
  refine G.seq fun K5 hK6 => ?_
  refine G.region ?_
  refine G.move (v := v0_0) rfl rfl ?_
  refine G.len_rd rfl rfl Tryd.runUnderlying29 h0_0 ?_
  refine G.move (v := v1_0) rfl rfl ?_
  refine G.len_rd rfl rfl Tryd.runUnderlying29 h1_0 ?_
  refine G.bin (u := .int .i64 (a0.length : Int)) (v := .int .i64 (a1.length : Int)) (r := .bool ((a0.length : Int) != (a1.length : Int))) rfl rfl rfl b_neq ?_
  refine G.nil ?_
  refine G.keep_ (L' := [(0, v0_0), (1, v1_0), (10, .bool ((a0.length : Int) != (a1.length : Int)))]) (is := [0, 1, 10]) rfl ?_
  refine G.next_ hK6 ?_
  refine G.cond (b := ((a0.length : Int) != (a1.length : Int))) rfl (fun hc7 => ?_) (fun hc7 => ?_)
  · refine G.keep_ (L' := []) (is := []) rfl ?_
    refine G.seq fun K8 hK9 => ?_
    refine G.region ?_
    refine G.assign (v := .bool false) rfl rfl ?_
    refine G.nil ?_
    refine G.keep_ (L' := [(4, .bool false)]) (is := [4]) rfl ?_
    refine G.next_ hK9 ?_
    refine G.ret ?_
    refine G.thn_ret ?_
    refine G.ret1 (v := .bool false) Tryd.results17 rfl (fun hF10 => ?_)
    obtain rfl := Option.some.inj hF10
    exact ⟨_, hU0, rfl⟩
  · refine G.keep_ (L' := [(0, v0_0), (1, v1_0)]) (is := [0, 1]) rfl ?_
    refine G.skip ?_
    refine G.next_ hK4 ?_
    refine G.seq fun K11 hK12 => ?_
    refine G.seq fun K13 hK14 => ?_
    refine G.region ?_
    refine G.move (v := v0_0) rfl rfl ?_
    refine G.len_rd rfl rfl Tryd.runUnderlying29 h0_0 ?_
    refine G.move (v := .int .i64 0) rfl rfl ?_
    refine G.nil ?_
    refine G.keep_ (L' := [(0, v0_0), (1, v1_0), (12, .int .i64 (a0.length : Int)), (13, .int .i64 0)]) (is := [0, 1, 12, 13]) rfl ?_
    refine G.next_ hK14 ?_
    refine G.join (E := fun o a w' => ∃ b, o = .inr b ∧ ∃ (S_ : Nat → Prop), Fr 26 [] a ∧ Up [] S0 w0 S_ w') ?_ ?_
    · intro b hF15
      refine G.block ?_
      refine G.keep_ (L' := [(0, v0_0), (1, v1_0), (12, .int .i64 (a0.length : Int)), (13, .int .i64 ((0 : Nat) : Int))]) (is := [0, 1, 12, 13]) rfl ?_
      refine G.loop (fun k a w => ∃ (rest19 : List (A2_Int)) (i17 : Nat), k = rest19.length ∧ slices_Equal_2_int_2_int.l1 a1 rest19 i17 = some b ∧ a0.drop i17 = rest19 ∧ ∃ (S_ : Nat → Prop), Fr 26 [(0, v0_0), (1, v1_0), (12, .int .i64 (a0.length : Int)), (13, .int .i64 (i17 : Int))] a ∧ Up [] S0 w0 S_ w) (a0.length) ?_ ?_
      · intro hl118 a ha
        exact ⟨a0, 0, rfl, hl118, rfl, _, ha, (Up.refl' hU0.live (in_nil))⟩
      · rintro _ a ww ⟨rest19, i17, rfl, hl16, hd20, hJ⟩
        rcases rest19 with _ | ⟨y18, rest19⟩
        · rw [slices_Equal_2_int_2_int.l1_nil] at hl16
          obtain ⟨w23, rfl⟩ : ∃ x : World, x = ww := ⟨ww, rfl⟩
          obtain ⟨S24, ha22, u25⟩ := hJ
          refine G.use hl16 ha22 ?_
          have hU26 := hU0.trans0 u25
          refine G.seq fun K27 hK28 => ?_
          refine G.region ?_
          refine G.bin (u := .int .i64 (i17 : Int)) (v := .int .i64 (a0.length : Int)) (r := .bool (decide ((i17 : Int) < (a0.length : Int)))) rfl rfl rfl b_lss ?_
          refine G.nil ?_
          refine G.keep_ (L' := [(0, v0_0), (1, v1_0), (12, .int .i64 (a0.length : Int)), (13, .int .i64 (i17 : Int)), (14, .bool (decide ((i17 : Int) < (a0.length : Int))))]) (is := [0, 1, 12, 13, 14]) rfl ?_
          refine G.next_ hK28 ?_
          refine G.seq fun K29 hK30 => ?_
          refine G.no rfl (rng_end hd20) ?_
          refine G.exit ?_
          refine G.thn_exit ?_
          refine G.thn_exit ?_
          refine G.inB_eq ?_
          refine G.keep_ (L' := []) (is := []) rfl ?_
          refine G.finE ?_
          rintro rfl a ha
          exact ⟨_, rfl, ⟨_, ha, ((Up.refl' hU0.live (in_nil)).trans0 u25)⟩⟩
        · rw [slices_Equal_2_int_2_int.l1_cons] at hl16
          obtain ⟨w32, rfl⟩ : ∃ x : World, x = ww := ⟨ww, rfl⟩
          obtain ⟨S33, ha31, u34⟩ := hJ
          refine G.use hl16 ha31 ?_
          have hU35 := hU0.trans0 u34
          refine G.seq fun K36 hK37 => ?_
          refine G.region ?_
          refine G.bin (u := .int .i64 (i17 : Int)) (v := .int .i64 (a0.length : Int)) (r := .bool (decide ((i17 : Int) < (a0.length : Int)))) rfl rfl rfl b_lss ?_
          refine G.nil ?_
          refine G.keep_ (L' := [(0, v0_0), (1, v1_0), (12, .int .i64 (a0.length : Int)), (13, .int .i64 (i17 : Int)), (14, .bool (decide ((i17 : Int) < (a0.length : Int))))]) (is := [0, 1, 12, 13, 14]) rfl ?_
          refine G.next_ hK37 ?_
          refine G.seq fun K38 hK39 => ?_
          refine G.yes rfl (rng_more hd20) ?_
          refine G.skip ?_
          refine G.next_ hK39 ?_
          refine G.seq fun K40 hK41 => ?_
          refine G.block ?_
          refine G.seq fun K42 hK43 => ?_
          refine G.region ?_
          refine G.move (v := .int .i64 (i17 : Int)) rfl rfl ?_
          refine G.assign (v := .int .i64 (i17 : Int)) rfl rfl ?_
          refine G.nil ?_
          refine G.keep_ (L' := [(0, v0_0), (1, v1_0), (5, .int .i64 (i17 : Int)), (12, .int .i64 (a0.length : Int)), (13, .int .i64 (i17 : Int))]) (is := [0, 1, 5, 12, 13]) rfl ?_
          refine G.next_ hK43 ?_
          refine G.seq fun K44 hK45 => ?_
          refine G.bind fun y60 hq62 => ?_
          refine G.draw [] mixed 9 rfl ?_
          intro w87 le88
          have u89 := Up.of_le hU35.live le88
          have hU90 := hU35.trans0 u89
          have h91 := h0_0.up u34
          have h92 := h91.up u89
          have h93 := h1_0.up u34
          have h94 := h93.up u89
          refine GH.take 0 rfl rfl (by kernel_rfl) (by kernel_rfl) (by kernel_rfl) (Q.move rfl) (Le.refl [] _) (fun _ _ _ h => h) ?_
          refine GH.take 1 rfl rfl (by kernel_rfl) (by kernel_rfl) (by kernel_rfl) (Q.move rfl) (Le.refl [] _) (fun _ _ _ h => h) ?_
          refine Q.at_rd (P := Tryd.prog) (w := w87) (x := .tmp 16) (ix := .tmp 17) (t := 29) (W := []) (i := i17) (y := y18) rfl rfl Tryd.runUnderlying29 Tryd.sizeOf42 h92 (rng_at hd20) ?_
          intro b95 o96 cs97 hs98 hC99 hl100 hR101 hq102
          have hR101_ := o_A2_Int hR101; subst hR101_
          refine GH.take 2 rfl rfl (by kernel_rfl) (by kernel_rfl) (by kernel_rfl) (hq102 _ _ _ _ _) (Le.refl [] _) (fun _ _ _ h => h) ?_
          refine GH.take 3 rfl rfl (by kernel_rfl) (by kernel_rfl) (by kernel_rfl) (Q.loadN (o := o96) (j := 0) (cs := [.int .i64 y18.e0, .int .i64 y18.e1]) (c1 := [.int .i64 y18.e0, .int .i64 y18.e1]) rfl Tryd.isAgg42 Tryd.sizeOf42 hC99 List.not_mem_nil rfl rfl rfl (Nat.le_of_ble_eq_true rfl)) (Le.refl [] _) (fun _ _ _ h => h) ?_
          refine GH.take 4 rfl rfl (by kernel_rfl) (by kernel_rfl) (by kernel_rfl) (Q.move rfl) (Le.refl [] _) (fun _ _ _ h => h) ?_
          refine GH.take 5 rfl rfl (by kernel_rfl) (by kernel_rfl) (by kernel_rfl) (Q.move rfl) (Le.refl [] _) (fun _ _ _ h => h) ?_
          refine Q.nth_rd (P := Tryd.prog) (w := w87) (x := .tmp 20) (ix := .tmp 21) (t := 29) (W := []) (i := (i17 : Int)) (y := y60) rfl rfl Tryd.runUnderlying29 Tryd.sizeOf42 h94 hq62 ?_
          intro b103 o104 cs105 hs106 hC107 hl108 hR109 hq110
          have hR109_ := o_A2_Int hR109; subst hR109_
          refine GH.take 6 rfl rfl (by kernel_rfl) (by kernel_rfl) (by kernel_rfl) (hq110 _ _ _ _ _) (Le.refl [] _) (fun _ _ _ h => h) ?_
          refine GH.take 7 rfl rfl (by kernel_rfl) (by kernel_rfl) (by kernel_rfl) (Q.loadN (o := o104) (j := 0) (cs := [.int .i64 y60.e0, .int .i64 y60.e1]) (c1 := [.int .i64 y60.e0, .int .i64 y60.e1]) rfl Tryd.isAgg42 Tryd.sizeOf42 hC107 List.not_mem_nil rfl rfl rfl (Nat.le_of_ble_eq_true rfl)) (Le.refl [] _) (fun _ _ _ h => h) ?_
          refine GH.take 8 rfl rfl (by kernel_rfl) (by kernel_rfl) (by kernel_rfl) (Q.bin (u := .agg [.int .i64 y18.e0, .int .i64 y18.e1].toArray) (v := .agg [.int .i64 y60.e0, .int .i64 y60.e1].toArray) (r := .bool (!(y18.e0 == y60.e0 && y18.e1 == y60.e1))) rfl rfl (by exact neqa42 (a := y18.e0) (b := y18.e1) (c := y60.e0) (d := y60.e1))) (Le.refl [] _) (fun _ _ _ h => h) ?_
          refine GH.done (by kernel_rfl) ?_
          refine G.keep_ (L' := [(0, v0_0), (1, v1_0), (12, .int .i64 (a0.length : Int)), (13, .int .i64 (i17 : Int)), (24, .bool (!(y18.e0 == y60.e0 && y18.e1 == y60.e1)))]) (is := [0, 1, 12, 13, 24]) rfl ?_
          refine G.next_ hK45 ?_
          refine G.cond (b := (!(y18.e0 == y60.e0 && y18.e1 == y60.e1))) rfl (fun hc111 => ?_) (fun hc111 => ?_)
          · refine G.keep_ (L' := []) (is := []) rfl ?_
            refine G.seq fun K112 hK113 => ?_
            refine G.region ?_
            refine G.assign (v := .bool false) rfl rfl ?_
            refine G.nil ?_
            refine G.keep_ (L' := [(4, .bool false)]) (is := [4]) rfl ?_
            refine G.next_ hK113 ?_
            refine G.ret ?_
            refine G.inB_ret ?_
            refine G.thn_ret ?_
            refine G.thn_ret ?_
            refine G.inB_ret ?_
            refine G.thn_ret ?_
            refine G.thn_ret ?_
            refine G.ret1 (v := .bool false) Tryd.results17 rfl (fun hF114 => ?_)
            have hb115 := Option.some.inj hF114
            subst hb115
            have hF116 : (some false : Option (Bool)) = some _ := hF15
            obtain rfl := Option.some.inj hF116
            exact ⟨_, hU90, rfl⟩
          · refine G.keep_ (L' := [(0, v0_0), (1, v1_0), (12, .int .i64 (a0.length : Int)), (13, .int .i64 (i17 : Int))]) (is := [0, 1, 12, 13]) rfl ?_
            refine G.skip ?_
            refine G.inB ?_
            refine G.next_ hK41 ?_
            refine G.region ?_
            refine G.incr (i := i17) (N := a0.length) rfl rfl rfl (rng_lt hd20) (h0_0.length_le) ?_
            refine G.move (v := .int .i64 ((i17 + 1 : Nat) : Int)) rfl rfl ?_
            refine G.nil ?_
            refine G.keep_ (L' := [(0, v0_0), (1, v1_0), (12, .int .i64 (a0.length : Int)), (13, .int .i64 ((i17 + 1 : Nat) : Int))]) (is := [0, 1, 12, 13]) rfl ?_
            refine G.keep_ (L' := [(0, v0_0), (1, v1_0), (12, .int .i64 (a0.length : Int)), (13, .int .i64 ((i17 + 1 : Nat) : Int))]) (is := [0, 1, 12, 13]) rfl ?_
            refine G.again ?_
            intro hl117 a ha
            exact ⟨_, Nat.lt_succ_self _, rest19, i17 + 1, rfl, hl117, rng_next hd20, _, ha, (((Up.refl' hU0.live (in_nil)).trans0 u34).trans0 u89)⟩
    · rintro _ hb128 a w121 ⟨b119, rfl, S122, ha120, u123⟩ hF129
      refine G.use hF129 ha120 ?_
      refine G.inr ?_
      have hU124 := hU0.trans0 u123
      refine G.next_ hK12 ?_
      refine G.seq fun K125 hK126 => ?_
      refine G.region ?_
      refine G.assign (v := .bool true) rfl rfl ?_
      refine G.nil ?_
      refine G.keep_ (L' := [(4, .bool true)]) (is := [4]) rfl ?_
      refine G.next_ hK126 ?_
      refine G.ret ?_
      refine G.ret1 (v := .bool true) Tryd.results17 rfl (fun hF127 => ?_)
      obtain rfl := Option.some.inj hF127
      exact ⟨_, hU124, rfl⟩
/-! roadstead/roadlaw5.sameRanges -/
def roadlaw5_sameRanges.Post (S : Nat → Prop) (w : World) (out : Bool) (v : Value) (w' : World) : Prop := ∃ S', Up [] S w S' w' ∧ v = .bool out
def roadlaw5_sameRanges.Spec (F : (List T_Range) → (List A2_Int) → Option (Bool)) : Prop := ∀ {S : Nat → Prop} {w : World} (_ : ∀ b, S b → b < w.heap.size) (a0 : List T_Range) (a1 : List A2_Int) (v0_0 : Value) (v1_0 : Value) (_ : RdL e_T_Range 2 S w v0_0 a0) (_ : RdL e_A2_Int 2 S w v1_0 a1) {out : Bool}, F a0 a1 = some out → Calls Tryd.prog 9 [v0_0, v1_0].toArray w (Rets (roadlaw5_sameRanges.Post S w out))
def roadlaw5_sameRanges (a0 : List T_Range) (a1 : List A2_Int) : Option (Bool) := (roadlaw5_pairs a0).bind fun r5 => (slices_Equal_2_int_2_int r5 a1).bind fun r20 => some r20
set_option maxRecDepth 100000 in
theorem roadlaw5_sameRanges_ok : roadlaw5_sameRanges.Spec (roadlaw5_sameRanges ) := by
  intro S0 w0 hS0 a0 a1 v0_0 v1_0 h0_0 h1_0 out hp
  have hU0 := Up.refl hS0
  refine calls_of_G (nt := 9) Tryd.func9 rfl Tryd.ntmps9 rfl ?_ hp
  unfold roadlaw5_sameRanges
  refine G.seq fun K1 hK2 => ?_
  refine G.region ?_
  refine G.assign (v := .bool false) rfl rfl ?_
  refine G.nil ?_
  refine G.keep_ (L' := [(0, v0_0), (1, v1_0)]) (is := [0, 1]) rfl ?_
  refine G.next_ hK2 ?_
  refine G.seq fun K3 hK4 => ?_
  refine G.region ?_
  refine G.move (v := v0_0) rfl rfl ?_
  refine G.bind fun r5 hr6 => ?_
  have hc7 := roadlaw5_pairs_ok hU0.live a0 v0_0 h0_0 hr6
  refine G.call (R := roadlaw5_pairs.Post S0 w0 r5) (vs := [v0_0]) rfl rfl Tryd.call6 ?_ ?_
  · exact hc7
  rintro v11 w9 ⟨S8, u10, _, rfl, h12⟩
  have hU13 := hU0.trans0 u10
  have h14 := OwnL.low (B' := w0.heap.size) h12 hU0.le.size
  refine G.move (v := v1_0) rfl rfl ?_
  obtain ⟨S15, hS15⟩ : ∃ X : Nat → Prop, X = fun b => S8 b ∨ b ∈ ob v11 := ⟨_, rfl⟩
  have hU16 : Up [] S0 w0 S15 w9 := by rw [hS15]; exact Up.freeze hU13 h14.born h14.lt
  have h17 : RdL _ _ S15 _ _ _ := h14.read (by rw [hS15]; exact fun _ h => .inl h) (by rw [hS15]; exact fun _ h => .inr h)
  have h18 := h1_0.up u10
  have h19 : RdL _ _ S15 _ _ _ := h18.more (by rw [hS15]; exact fun _ h => .inl h)
  refine G.bind fun r20 hr21 => ?_
  have hc22 := slices_Equal_2_int_2_int_ok hU16.live r5 a1 v11 v1_0 h17 h19 hr21
  refine G.call (R := slices_Equal_2_int_2_int.Post S15 w9 r20) (vs := [v11, v1_0]) rfl rfl Tryd.call17 ?_ ?_
  · exact hc22
  rintro _ w24 ⟨S23, u25, rfl⟩
  have hU26 := hU16.trans0 u25
  refine G.assign (v := .bool r20) rfl rfl ?_
  refine G.nil ?_
  refine G.keep_ (L' := [(4, .bool r20)]) (is := [4]) rfl ?_
  refine G.next_ hK4 ?_
  refine G.ret ?_
  refine G.ret1 (v := .bool r20) Tryd.results9 rfl (fun hF27 => ?_)
  obtain rfl := Option.some.inj hF27
  exact ⟨_, hU26, rfl⟩
/-! roadstead/roadlaw5.VersionTexts -/
def roadlaw5_VersionTexts.Post (S : Nat → Prop) (w : World) (out : Bool) (v : Value) (w' : World) : Prop := ∃ S', Up [] S w S' w' ∧ v = .bool out
def roadlaw5_VersionTexts.Spec (F : (List T_Range) → Str → Option (Bool)) : Prop := ∀ {S : Nat → Prop} {w : World} (_ : ∀ b, S b → b < w.heap.size) (_ : Vars Tryd.prog S w) (a0 : List T_Range) (a1 : Str) (v0_0 : Value) (_ : RdL e_T_Range 2 S w v0_0 a0) {out : Bool}, F a0 a1 = some out → Calls Tryd.prog 3 [v0_0, bs a1].toArray w (Rets (roadlaw5_VersionTexts.Post S w out))
def roadlaw5_VersionTexts (a0 : List T_Range) (a1 : Str) : Option (Bool) := (version_Text ([(T_Range.mk 1 3)] : List T_Range)).bind fun r16 => (if ((r16.2 != 0) || (r16.1 != ([49, 45, 51] : Str))) = true then some false else (version_Text a0).bind fun r35 => (roadlaw5_pairs a0).bind fun r48 => (roadref5_VersionText r48).bind fun r61 => (version_Read a1).bind fun r70 => (roadref5_VersionOf a1).bind fun r81 => (if ((r35.1 == r61.1) && (r35.2 == r61.2)) = true then (roadlaw5_sameRanges r70.1 r81.1).bind fun r99 => some r99 else some false).bind fun t94 => some (t94 && (r70.2 == r81.2)))
set_option maxRecDepth 100000 in
theorem roadlaw5_VersionTexts_ok : roadlaw5_VersionTexts.Spec (roadlaw5_VersionTexts ) := by
  intro S0 w0 hS0 hV0 a0 a1 v0_0 h0_0 out hp
  have hU0 := Up.refl hS0
  refine calls_of_G (nt := 66) Tryd.func3 rfl Tryd.ntmps3 rfl ?_ hp
  unfold roadlaw5_VersionTexts
  refine G.seq fun K1 hK2 => ?_
  refine G.region ?_
  refine G.assign (v := .bool false) rfl rfl ?_
  refine G.nil ?_
  refine G.keep_ (L' := [(0, v0_0), (1, bs a1)]) (is := [0, 1]) rfl ?_
  refine G.next_ hK2 ?_
  refine G.seq fun K3 hK4 => ?_
  refine G.seq fun K5 hK6 => ?_
  refine G.region ?_
  refine G.build (pv := [(0, .int .i64 1), (1, .int .i64 3)]) (v := .agg [.int .i64 1, .int .i64 3].toArray) rfl rfl (fun w => run_build w 27 _ _ (by kernel_rfl)) ?_
  refine G.buildSlice (ys := ([(T_Range.mk 1 3)] : List T_Range)) (xs := [.tmp 16]) (vs := [.agg [.int .i64 1, .int .i64 3].toArray]) (cs := [.int .i64 1, .int .i64 3]) rfl elt22 rfl rfl rfl (by decide) rfl (List.forall_mem_cons.2 ⟨rfl, List.forall_mem_nil _⟩) (rfl) (RdX.one (enc := e_T_Range) (x := (T_Range.mk 1 3)) (m_T_Range (T_Range.mk 1 3)) rfl) hU0.le.size hU0.live ?_
  intro v7 w8 u9 h10 hw11
  have hU12 := hU0.trans0 u9
  obtain ⟨S13, hS13⟩ : ∃ X : Nat → Prop, X = fun b => S0 b ∨ b ∈ ob v7 := ⟨_, rfl⟩
  have hU14 : Up [] S0 w0 S13 w8 := by rw [hS13]; exact Up.freeze hU12 h10.born h10.lt
  have h15 : RdL _ _ S13 _ _ _ := h10.read (by rw [hS13]; exact fun _ h => .inl h) (by rw [hS13]; exact fun _ h => .inr h)
  refine G.bind fun r16 hr17 => ?_
  have hc18 := version_Text_ok hU14.live (hV0.up hU14) ([(T_Range.mk 1 3)] : List T_Range) v7 h15 hr17
  refine G.call (R := version_Text.Post S13 w8 r16) (vs := [v7]) rfl rfl Tryd.call4 ?_ ?_
  · exact hc18
  rintro _ w20 ⟨S19, u21, rfl⟩
  have hU22 := hU14.trans0 u21
  refine G.move (v := .tuple [bs r16.1, .int .i64 r16.2].toArray) rfl rfl ?_
  refine G.extract (vs := [bs r16.1, .int .i64 r16.2]) (v := bs r16.1) rfl rfl rfl ?_
  refine G.extract (vs := [bs r16.1, .int .i64 r16.2]) (v := .int .i64 r16.2) rfl rfl rfl ?_
  refine G.assign (v := bs r16.1) rfl rfl ?_
  refine G.assign (v := .int .i64 r16.2) rfl rfl ?_
  refine G.nil ?_
  refine G.keep_ (L' := [(0, v0_0), (1, bs a1), (5, bs r16.1), (6, .int .i64 r16.2)]) (is := [0, 1, 5, 6]) rfl ?_
  refine G.next_ hK6 ?_
  refine G.seq fun K23 hK24 => ?_
  refine G.region ?_
  refine G.move (v := .int .i64 r16.2) rfl rfl ?_
  refine G.bin (u := .int .i64 r16.2) (v := .int .i64 0) (r := .bool (r16.2 != 0)) rfl rfl rfl b_neq ?_
  refine G.move (v := .bool (r16.2 != 0)) rfl rfl ?_
  refine G.cut 3 (fun a w' => w20 = w' ∧ Fr 66 [(0, v0_0), (1, bs a1), (26, .bool ((r16.2 != 0) || (r16.1 != ([49, 45, 51] : Str))))] a) ?_ ?_
  · refine G.byb (c := (r16.2 != 0)) (fun hc25 => ?_) (fun hc25 => ?_)
    · refine G.skip_s rfl rfl hc25 rfl ?_
      refine G.skip_s rfl rfl hc25 rfl ?_
      refine G.pick_yes (u := .bool true) rfl rfl hc25 rfl ?_
      refine G.recast (or_yes (x := (r16.1 != ([49, 45, 51] : Str))) hc25) ?_
      refine G.nil ?_
      refine G.keep_ (L' := [(0, v0_0), (1, bs a1), (26, .bool ((r16.2 != 0) || (r16.1 != ([49, 45, 51] : Str))))]) (is := [0, 1, 26]) rfl ?_
      exact G.finE fun _ a ha => ⟨rfl, ha⟩
    · refine G.guard_yes rfl rfl hc25 ?_
      refine G.move (v := bs r16.1) rfl rfl ?_
      refine G.guard_yes rfl rfl hc25 ?_
      refine G.bin (u := bs r16.1) (v := bs ([49, 45, 51] : Str)) (r := .bool (r16.1 != ([49, 45, 51] : Str))) rfl rfl rfl b_sneq ?_
      refine G.pick_no (u := .bool (r16.1 != ([49, 45, 51] : Str))) rfl rfl hc25 rfl ?_
      refine G.recast (or_no (x := (r16.1 != ([49, 45, 51] : Str))) hc25) ?_
      refine G.nil ?_
      refine G.keep_ (L' := [(0, v0_0), (1, bs a1), (26, .bool ((r16.2 != 0) || (r16.1 != ([49, 45, 51] : Str))))]) (is := [0, 1, 26]) rfl ?_
      exact G.finE fun _ a ha => ⟨rfl, ha⟩
  · rintro a _ ⟨rfl, ha⟩ hF
    refine G.use hF ha ?_
    refine G.nil ?_
    refine G.keep_ (L' := [(0, v0_0), (1, bs a1), (26, .bool ((r16.2 != 0) || (r16.1 != ([49, 45, 51] : Str))))]) (is := [0, 1, 26]) rfl ?_
    refine G.next_ hK24 ?_
    refine G.cond (b := ((r16.2 != 0) || (r16.1 != ([49, 45, 51] : Str)))) rfl (fun hc26 => ?_) (fun hc26 => ?_)
    · refine G.keep_ (L' := []) (is := []) rfl ?_
      refine G.seq fun K27 hK28 => ?_
      refine G.region ?_
      refine G.assign (v := .bool false) rfl rfl ?_
      refine G.nil ?_
      refine G.keep_ (L' := [(4, .bool false)]) (is := [4]) rfl ?_
      refine G.next_ hK28 ?_
      refine G.ret ?_
      refine G.thn_ret ?_
      refine G.ret1 (v := .bool false) Tryd.results3 rfl (fun hF29 => ?_)
      obtain rfl := Option.some.inj hF29
      exact ⟨_, hU22, rfl⟩
    · refine G.keep_ (L' := [(0, v0_0), (1, bs a1)]) (is := [0, 1]) rfl ?_
      refine G.skip ?_
      refine G.next_ hK4 ?_
      refine G.seq fun K30 hK31 => ?_
      refine G.region ?_
      refine G.move (v := v0_0) rfl rfl ?_
      have h32 := h0_0.up u9
      have h33 : RdL _ _ S13 _ _ _ := h32.more (by rw [hS13]; exact fun _ h => .inl h)
      have h34 := h33.up u21
      refine G.bind fun r35 hr36 => ?_
      have hc37 := version_Text_ok hU22.live (hV0.up hU22) a0 v0_0 h34 hr36
      refine G.call (R := version_Text.Post S19 w20 r35) (vs := [v0_0]) rfl rfl Tryd.call4 ?_ ?_
      · exact hc37
      rintro _ w39 ⟨S38, u40, rfl⟩
      have hU41 := hU22.trans0 u40
      refine G.move (v := .tuple [bs r35.1, .int .i64 r35.2].toArray) rfl rfl ?_
      refine G.extract (vs := [bs r35.1, .int .i64 r35.2]) (v := bs r35.1) rfl rfl rfl ?_
      refine G.extract (vs := [bs r35.1, .int .i64 r35.2]) (v := .int .i64 r35.2) rfl rfl rfl ?_
      refine G.assign (v := bs r35.1) rfl rfl ?_
      refine G.assign (v := .int .i64 r35.2) rfl rfl ?_
      refine G.nil ?_
      refine G.keep_ (L' := [(0, v0_0), (1, bs a1), (7, bs r35.1), (8, .int .i64 r35.2)]) (is := [0, 1, 7, 8]) rfl ?_
      refine G.next_ hK31 ?_
      refine G.seq fun K42 hK43 => ?_
      refine G.region ?_
      refine G.move (v := v0_0) rfl rfl ?_
      have h44 := h0_0.up u9
      have h45 : RdL _ _ S13 _ _ _ := h44.more (by rw [hS13]; exact fun _ h => .inl h)
      have h46 := h45.up u21
      have h47 := h46.up u40
      refine G.bind fun r48 hr49 => ?_
      have hc50 := roadlaw5_pairs_ok hU41.live a0 v0_0 h47 hr49
      refine G.call (R := roadlaw5_pairs.Post S38 w39 r48) (vs := [v0_0]) rfl rfl Tryd.call6 ?_ ?_
      · exact hc50
      rintro v54 w52 ⟨S51, u53, _, rfl, h55⟩
      have hU56 := hU41.trans0 u53
      have h57 := OwnL.low (B' := w0.heap.size) h55 hU41.le.size
      obtain ⟨S58, hS58⟩ : ∃ X : Nat → Prop, X = fun b => S51 b ∨ b ∈ ob v54 := ⟨_, rfl⟩
      have hU59 : Up [] S0 w0 S58 w52 := by rw [hS58]; exact Up.freeze hU56 h57.born h57.lt
      have h60 : RdL _ _ S58 _ _ _ := h57.read (by rw [hS58]; exact fun _ h => .inl h) (by rw [hS58]; exact fun _ h => .inr h)
      refine G.bind fun r61 hr62 => ?_
      have hc63 := roadref5_VersionText_ok hU59.live (hV0.up hU59) r48 v54 h60 hr62
      refine G.call (R := roadref5_VersionText.Post S58 w52 r61) (vs := [v54]) rfl rfl Tryd.call5 ?_ ?_
      · exact hc63
      rintro _ w65 ⟨S64, u66, rfl⟩
      have hU67 := hU59.trans0 u66
      refine G.move (v := .tuple [bs r61.1, .int .i64 r61.2].toArray) rfl rfl ?_
      refine G.extract (vs := [bs r61.1, .int .i64 r61.2]) (v := bs r61.1) rfl rfl rfl ?_
      refine G.extract (vs := [bs r61.1, .int .i64 r61.2]) (v := .int .i64 r61.2) rfl rfl rfl ?_
      refine G.assign (v := bs r61.1) rfl rfl ?_
      refine G.assign (v := .int .i64 r61.2) rfl rfl ?_
      refine G.nil ?_
      refine G.keep_ (L' := [(1, bs a1), (7, bs r35.1), (8, .int .i64 r35.2), (9, bs r61.1), (10, .int .i64 r61.2)]) (is := [1, 7, 8, 9, 10]) rfl ?_
      refine G.next_ hK43 ?_
      refine G.seq fun K68 hK69 => ?_
      refine G.region ?_
      refine G.move (v := bs a1) rfl rfl ?_
      refine G.bind fun r70 hr71 => ?_
      have hc72 := version_Read_ok hU67.live (hV0.up hU67) a1 hr71
      refine G.call (R := version_Read.Post S64 w65 r70) (vs := [bs a1]) rfl rfl Tryd.call7 ?_ ?_
      · exact hc72
      rintro _ w74 ⟨S73, u75, v76, rfl, h77⟩
      have hU78 := hU67.trans0 u75
      refine G.move (v := .tuple [v76, .int .i64 r70.2].toArray) rfl rfl ?_
      refine G.extract (vs := [v76, .int .i64 r70.2]) (v := v76) rfl rfl rfl ?_
      refine G.extract (vs := [v76, .int .i64 r70.2]) (v := .int .i64 r70.2) rfl rfl rfl ?_
      refine G.assign (v := v76) rfl rfl ?_
      refine G.assign (v := .int .i64 r70.2) rfl rfl ?_
      refine G.nil ?_
      refine G.keep_ (L' := [(1, bs a1), (7, bs r35.1), (8, .int .i64 r35.2), (9, bs r61.1), (10, .int .i64 r61.2), (11, v76), (12, .int .i64 r70.2)]) (is := [1, 7, 8, 9, 10, 11, 12]) rfl ?_
      refine G.next_ hK69 ?_
      refine G.seq fun K79 hK80 => ?_
      refine G.region ?_
      refine G.move (v := bs a1) rfl rfl ?_
      refine G.bind fun r81 hr82 => ?_
      have hc83 := roadref5_VersionOf_ok hU78.live (hV0.up hU78) a1 hr82
      refine G.call (R := roadref5_VersionOf.Post S73 w74 r81) (vs := [bs a1]) rfl rfl Tryd.call8 ?_ ?_
      · exact hc83
      rintro _ w85 ⟨S84, u86, v87, rfl, h88⟩
      have hU89 := hU78.trans0 u86
      refine G.move (v := .tuple [v87, .int .i64 r81.2].toArray) rfl rfl ?_
      refine G.extract (vs := [v87, .int .i64 r81.2]) (v := v87) rfl rfl rfl ?_
      refine G.extract (vs := [v87, .int .i64 r81.2]) (v := .int .i64 r81.2) rfl rfl rfl ?_
      refine G.assign (v := v87) rfl rfl ?_
      refine G.assign (v := .int .i64 r81.2) rfl rfl ?_
      refine G.nil ?_
      refine G.keep_ (L' := [(7, bs r35.1), (8, .int .i64 r35.2), (9, bs r61.1), (10, .int .i64 r61.2), (11, v76), (12, .int .i64 r70.2), (13, v87), (14, .int .i64 r81.2)]) (is := [7, 8, 9, 10, 11, 12, 13, 14]) rfl ?_
      refine G.next_ hK80 ?_
      refine G.seq fun K90 hK91 => ?_
      refine G.region ?_
      refine G.move (v := bs r35.1) rfl rfl ?_
      refine G.move (v := bs r61.1) rfl rfl ?_
      refine G.bin (u := bs r35.1) (v := bs r61.1) (r := .bool (r35.1 == r61.1)) rfl rfl rfl b_seql ?_
      refine G.move (v := .bool (r35.1 == r61.1)) rfl rfl ?_
      refine G.cut 4 (fun a w' => w85 = w' ∧ Fr 66 [(11, v76), (12, .int .i64 r70.2), (13, v87), (14, .int .i64 r81.2), (55, .bool ((r35.1 == r61.1) && (r35.2 == r61.2)))] a) ?_ ?_
      · refine G.byb (c := (r35.1 == r61.1)) (fun hc92 => ?_) (fun hc92 => ?_)
        · refine G.guard_yes rfl rfl hc92 ?_
          refine G.move (v := .int .i64 r35.2) rfl rfl ?_
          refine G.guard_yes rfl rfl hc92 ?_
          refine G.move (v := .int .i64 r61.2) rfl rfl ?_
          refine G.guard_yes rfl rfl hc92 ?_
          refine G.bin (u := .int .i64 r35.2) (v := .int .i64 r61.2) (r := .bool (r35.2 == r61.2)) rfl rfl rfl b_eql ?_
          refine G.pick_yes (u := .bool (r35.2 == r61.2)) rfl rfl hc92 rfl ?_
          refine G.recast (and_yes (x := (r35.2 == r61.2)) hc92) ?_
          refine G.nil ?_
          refine G.keep_ (L' := [(11, v76), (12, .int .i64 r70.2), (13, v87), (14, .int .i64 r81.2), (55, .bool ((r35.1 == r61.1) && (r35.2 == r61.2)))]) (is := [11, 12, 13, 14, 55]) rfl ?_
          exact G.finE fun _ a ha => ⟨rfl, ha⟩
        · refine G.skip_s rfl rfl hc92 rfl ?_
          refine G.skip_s rfl rfl hc92 rfl ?_
          refine G.skip_s rfl rfl hc92 rfl ?_
          refine G.pick_no (u := .bool false) rfl rfl hc92 rfl ?_
          refine G.recast (and_no (x := (r35.2 == r61.2)) hc92) ?_
          refine G.nil ?_
          refine G.keep_ (L' := [(11, v76), (12, .int .i64 r70.2), (13, v87), (14, .int .i64 r81.2), (55, .bool ((r35.1 == r61.1) && (r35.2 == r61.2)))]) (is := [11, 12, 13, 14, 55]) rfl ?_
          exact G.finE fun _ a ha => ⟨rfl, ha⟩
      · rintro a _ ⟨rfl, ha⟩ hF
        refine G.use hF ha ?_
        refine G.move (v := .bool ((r35.1 == r61.1) && (r35.2 == r61.2))) rfl rfl ?_
        refine G.part 4 (fun b a w' => ∃ S', Up [] S84 w85 S' w' ∧ Fr 66 [(12, .int .i64 r70.2), (14, .int .i64 r81.2), (60, .bool b)] a) ?_ ?_
        · intro b
          refine G.ifb (fun hc93 => ?_) (fun hc93 => ?_)
          · refine G.guard_yes rfl rfl hc93 ?_
            refine G.move (v := v76) rfl rfl ?_
            refine G.guard_yes rfl rfl hc93 ?_
            refine G.move (v := v87) rfl rfl ?_
            refine G.guard_yes rfl rfl hc93 ?_
            have h98 := h77.up u86
            refine G.bind fun r99 hr100 => ?_
            have hc101 := roadlaw5_sameRanges_ok hU89.live r70.1 r81.1 v76 v87 h98 h88 hr100
            refine G.call (R := roadlaw5_sameRanges.Post S84 w85 r99) (vs := [v76, v87]) rfl rfl Tryd.call9 ?_ ?_
            · exact hc101
            rintro _ w103 ⟨S102, u104, rfl⟩
            have hU105 := hU89.trans0 u104
            refine G.pick_yes (u := .bool r99) rfl rfl hc93 rfl ?_
            refine G.nil ?_
            refine G.keep_ (L' := [(12, .int .i64 r70.2), (14, .int .i64 r81.2), (60, .bool r99)]) (is := [12, 14, 60]) rfl ?_
            refine G.finE ?_
            rintro rfl a ha
            exact ⟨_, u104, ha⟩
          · refine G.skip_s rfl rfl hc93 rfl ?_
            refine G.skip_s rfl rfl hc93 rfl ?_
            refine G.skip_s rfl rfl hc93 rfl ?_
            refine G.pick_no (u := .bool false) rfl rfl hc93 rfl ?_
            refine G.nil ?_
            refine G.keep_ (L' := [(12, .int .i64 r70.2), (14, .int .i64 r81.2), (60, .bool false)]) (is := [12, 14, 60]) rfl ?_
            refine G.finE ?_
            rintro rfl a ha
            exact ⟨_, (Up.refl hU89.live), ha⟩
        · rintro t94 a w96 hb106 ⟨S95, u97, ha107⟩ hF108
          refine G.use hF108 ha107 ?_
          have hU109 := hU89.trans0 u97
          refine G.move (v := .bool t94) rfl rfl ?_
          refine G.cut 4 (fun a w' => w96 = w' ∧ Fr 66 [(65, .bool (t94 && (r70.2 == r81.2)))] a) ?_ ?_
          · refine G.byb (c := t94) (fun hc110 => ?_) (fun hc110 => ?_)
            · refine G.guard_yes rfl rfl hc110 ?_
              refine G.move (v := .int .i64 r70.2) rfl rfl ?_
              refine G.guard_yes rfl rfl hc110 ?_
              refine G.move (v := .int .i64 r81.2) rfl rfl ?_
              refine G.guard_yes rfl rfl hc110 ?_
              refine G.bin (u := .int .i64 r70.2) (v := .int .i64 r81.2) (r := .bool (r70.2 == r81.2)) rfl rfl rfl b_eql ?_
              refine G.pick_yes (u := .bool (r70.2 == r81.2)) rfl rfl hc110 rfl ?_
              refine G.recast (and_yes (x := (r70.2 == r81.2)) hc110) ?_
              refine G.nil ?_
              refine G.keep_ (L' := [(65, .bool (t94 && (r70.2 == r81.2)))]) (is := [65]) rfl ?_
              exact G.finE fun _ a ha => ⟨rfl, ha⟩
            · refine G.skip_s rfl rfl hc110 rfl ?_
              refine G.skip_s rfl rfl hc110 rfl ?_
              refine G.skip_s rfl rfl hc110 rfl ?_
              refine G.pick_no (u := .bool false) rfl rfl hc110 rfl ?_
              refine G.recast (and_no (x := (r70.2 == r81.2)) hc110) ?_
              refine G.nil ?_
              refine G.keep_ (L' := [(65, .bool (t94 && (r70.2 == r81.2)))]) (is := [65]) rfl ?_
              exact G.finE fun _ a ha => ⟨rfl, ha⟩
          · rintro a _ ⟨rfl, ha⟩ hF
            refine G.use hF ha ?_
            refine G.assign (v := .bool (t94 && (r70.2 == r81.2))) rfl rfl ?_
            refine G.nil ?_
            refine G.keep_ (L' := [(4, .bool (t94 && (r70.2 == r81.2)))]) (is := [4]) rfl ?_
            refine G.next_ hK91 ?_
            refine G.ret ?_
            refine G.ret1 (v := .bool (t94 && (r70.2 == r81.2))) Tryd.results3 rfl (fun hF111 => ?_)
            obtain rfl := Option.some.inj hF111
            exact ⟨_, hU109, rfl⟩
end Go.Proofs.YtbaaojaoadjnmafDoor.Gx
