/- ReplayTexts: Text and Read of package replay give what the reference gives, for every list of choices and text of bulk at most 1048576. This text: each function that the law reaches does what its plain Lean function says. Conditions: none beyond those that the statement itself names. -/
import Derived.Test.YtbaaojaoadjnmaeDoorELib
import Derived.Test.YtbaaojaoadjnmaeDoorProg
namespace Go.Proofs.YtbaaojaoadjnmaeDoor.Gx
open Go Go.Proofs.YtbaaojaoadjnmaeDoor.Gx Go.RowKit Go.Proofs
structure T_Choice where
  fKind : Int
  fA : Int
  fB : Int
  deriving DecidableEq
def e_T_Choice (x : T_Choice) : D := .agg [(eI .i64) x.fKind, (eI .i64) x.fA, (eI .i64) x.fB]
theorem e_T_Choice_eq (x : T_Choice) : e_T_Choice x = .agg [(eI .i64) x.fKind, (eI .i64) x.fA, (eI .i64) x.fB] := rfl
theorem o_T_Choice {S : Nat → Prop} {w : World} {x : T_Choice} {cs : List Value} (h : Rd S w (e_T_Choice x) cs) : cs = [.int .i64 x.fKind, .int .i64 x.fA, .int .i64 x.fB] := by
  simp only [e_T_Choice_eq, eI, eB, eS, eL, Rd.agg_iff, RdAll.agg, List.cons_append, List.nil_append, RdAll.val, RdAll.slice, RdAll.nil] at h
  obtain ⟨_, rfl, _, rfl, _, rfl, rfl⟩ := h
  exact rfl
theorem m_T_Choice {S : Nat → Prop} {w : World} (x : T_Choice) : Rd S w (e_T_Choice x) [.int .i64 x.fKind, .int .i64 x.fA, .int .i64 x.fB] := by
  simp only [e_T_Choice_eq, eI, eB, eS, eL, Rd.agg_iff, RdAll.agg, List.cons_append, List.nil_append, RdAll.val, RdAll.slice, RdAll.nil]
  exact ⟨_, rfl, _, rfl, _, rfl, rfl⟩
theorem one_T_Choice (x : T_Choice) : Gx.One (e_T_Choice x) := by
  simp [e_T_Choice_eq, Gx.One, eI, eB, eS, eL, bs, Value.oneCell']
theorem inf22 : (Tryd.prog.info? 27).map (fun i => (i.zero, i.size, i.bytes)) = some (some (.agg [.int .i64 0, .int .i64 0, .int .i64 0].toArray), 3, 24) := by kernel_rfl
theorem elt22 : Elt Tryd.prog 22 27 3 24 [.int .i64 0, .int .i64 0, .int .i64 0] := Elt.of Tryd.underlying22 inf22 rfl (by decide) rfl
theorem inf32 : (Tryd.prog.info? 9).map (fun i => (i.zero, i.size, i.bytes)) = some (some (bs []), 1, 16) := by kernel_rfl
theorem elt32 : Elt Tryd.prog 32 9 1 16 [bs []] := Elt.of Tryd.underlying32 inf32 rfl (by decide) rfl
theorem neqs27 {x y : Operand} {a0 b0 : Int} {a1 b1 : Int} {a2 b2 : Int} : ∀ w, (do eqGuard .neq 27 x y (.agg [.int .i64 a0, .int .i64 a1, .int .i64 a2].toArray) (.agg [.int .i64 b0, .int .i64 b1, .int .i64 b2].toArray); binOp .neq 27 (.agg [.int .i64 a0, .int .i64 a1, .int .i64 a2].toArray) (.agg [.int .i64 b0, .int .i64 b1, .int .i64 b2].toArray) : Sem Value).run Tryd.prog w = .ok (.bool (!(a0 == b0 && a1 == b1 && a2 == b2))) w := fun w => by
  have u3 := Tryd.underlying3
  have g3 := Tryd.isAgg3
  have z3 := Tryd.sizeOf3
  have hS : Tryd.prog.underlying 27 = some (.struct (Tryd.prog.fieldsOf 27)) := by kernel_rfl
  have hp : Tryd.prog.stoodInHeld 27 = false := by kernel_rfl
  have hg : Tryd.prog.eqGuardType Tryd.prog.depth 27 = false := by kernel_rfl
  have h1 : (Op.equalIn 10000 27 (.agg [.int .i64 a0, .int .i64 a1, .int .i64 a2].toArray) (.agg [.int .i64 b0, .int .i64 b1, .int .i64 b2].toArray)).run Tryd.prog w = .ok (a0 == b0 && a1 == b1 && a2 == b2) w := by
    rw [show (10000 : Nat) = 9999 + 1 from rfl, run_equalIn_agg w 9999 27 _ _ hS hp]
    simp only [Program.fieldsOf, Tryd.underlying27]
    go_simp
    by_cases q0 : a0 = b0 <;> by_cases q1 : a1 = b1 <;> by_cases q2 : a2 = b2 <;> simp [q0, q1, q2]
  rw [Sem.run_bind, run_eqGuard_agg (hm := hg)]
  simp only [Result.andThen_ok, run_neq_struct, h1]
theorem mixed : Tryd.prog.follows .mixedOrders = true := by kernel_rfl
/-! roadstead/replay.Text -/
def replay_Text.l1  : List (T_Choice) → (List Str) → Option ((Str × Int) ⊕ (List Str))
  | [], x11 => some (.inr x11)
  | y13 :: rest14, x11 => (if (((((decide (y13.fKind < 1)) || (decide (y13.fKind > 3))) || (decide (y13.fA < 0))) || (decide (y13.fB < 0))) || ((y13.fB != 0) && (y13.fKind != 2))) = true then some (.inl ([], 3)) else (sub [103, 99, 108] (subI y13.fKind 1) y13.fKind).bind fun s84 => (strconv_Itoa y13.fA).bind fun r86 => (catl s84 r86).bind fun s93 => ((if (y13.fKind == 2) = true then (strconv_Itoa y13.fB).bind fun r146 => (catl ([45] : Str) r146).bind fun s153 => (catl s93 s153).bind fun s155 => some s155 else some s93)).bind fun b157 => (app 8796093022208 x11 ([b157] : List Str)).bind fun l171 => replay_Text.l1 rest14 l171)

theorem replay_Text.l1_nil  {x11 : List Str} : replay_Text.l1  [] x11 = some (.inr x11) := rfl
theorem replay_Text.l1_cons  {y13 : T_Choice} {rest14 : List (T_Choice)} {x11 : List Str} : replay_Text.l1  (y13 :: rest14) x11 = (if (((((decide (y13.fKind < 1)) || (decide (y13.fKind > 3))) || (decide (y13.fA < 0))) || (decide (y13.fB < 0))) || ((y13.fB != 0) && (y13.fKind != 2))) = true then some (.inl ([], 3)) else (sub [103, 99, 108] (subI y13.fKind 1) y13.fKind).bind fun s84 => (strconv_Itoa y13.fA).bind fun r86 => (catl s84 r86).bind fun s93 => ((if (y13.fKind == 2) = true then (strconv_Itoa y13.fB).bind fun r146 => (catl ([45] : Str) r146).bind fun s153 => (catl s93 s153).bind fun s155 => some s155 else some s93)).bind fun b157 => (app 8796093022208 x11 ([b157] : List Str)).bind fun l171 => replay_Text.l1 rest14 l171) := rfl
def replay_Text.Post (S : Nat → Prop) (w : World) (out : Str × Int) (v : Value) (w' : World) : Prop := ∃ S', Up [] S w S' w' ∧ v = .tuple [bs out.1, .int .i64 out.2].toArray
def replay_Text.Spec (F : (List T_Choice) → Option (Str × Int)) : Prop := ∀ {S : Nat → Prop} {w : World} (_ : ∀ b, S b → b < w.heap.size) (_ : Vars Tryd.prog S w) (a0 : List T_Choice) (v0_0 : Value) (_ : RdL e_T_Choice 3 S w v0_0 a0) {out : Str × Int}, F a0 = some out → Calls Tryd.prog 4 [v0_0].toArray w (Rets (replay_Text.Post S w out))
def replay_Text (a0 : List T_Choice) : Option (Str × Int) := (replay_Text.l1 a0 ([] : List Str)).bind (retOr fun b183 => (strings_Join b183 [32]).bind fun r197 => some (r197, 0))
set_option maxRecDepth 100000 in
theorem replay_Text_ok : replay_Text.Spec (replay_Text ) := by
  intro S0 w0 hS0 hV0 a0 v0_0 h0_0 out hp
  have hU0 := Up.refl hS0
  refine calls_of_G (nt := 68) Tryd.func4 rfl Tryd.ntmps4 rfl ?_ hp
  unfold replay_Text
  refine G.seq fun K1 hK2 => ?_
  refine G.region ?_
  refine G.assign (v := bs []) rfl rfl ?_
  refine G.assign (v := .int .i64 0) rfl rfl ?_
  refine G.nil ?_
  refine G.keep_ (L' := [(0, v0_0)]) (is := [0]) rfl ?_
  refine G.next_ hK2 ?_
  refine G.seq fun K3 hK4 => ?_
  refine G.region ?_
  refine G.assign (v := .slice none 0 0) rfl rfl ?_
  refine G.nil ?_
  refine G.keep_ (L' := [(0, v0_0), (4, .slice none 0 0)]) (is := [0, 4]) rfl ?_
  refine G.next_ hK4 ?_
  refine G.seq fun K5 hK6 => ?_
  refine G.seq fun K7 hK8 => ?_
  refine G.region ?_
  refine G.move (v := v0_0) rfl rfl ?_
  refine G.len_rd rfl rfl Tryd.runUnderlying22 h0_0 ?_
  refine G.move (v := .int .i64 0) rfl rfl ?_
  refine G.nil ?_
  refine G.keep_ (L' := [(4, .slice none 0 0), (8, v0_0), (9, .int .i64 (a0.length : Int)), (10, .int .i64 0)]) (is := [4, 8, 9, 10]) rfl ?_
  refine G.next_ hK8 ?_
  refine G.join (E := fun o a w' => ∃ b, o = .inr b ∧ ∃ (v_slot_4 : Value) (S_ : Nat → Prop), Fr 68 [(4, v_slot_4)] a ∧ Up [] S0 w0 S_ w' ∧ OwnL eS 9 1 w0.heap.size S_ w' v_slot_4 b ∧ (∀ k ∈ ob v_slot_4, k ∈ ob (.slice none 0 0) ∨ w0.heap.size ≤ k)) ?_ ?_
  · intro b hF9
    refine G.block ?_
    refine G.keep_ (L' := [(4, .slice none 0 0), (8, v0_0), (9, .int .i64 (a0.length : Int)), (10, .int .i64 ((0 : Nat) : Int))]) (is := [4, 8, 9, 10]) rfl ?_
    refine G.loop (fun k a w => ∃ (rest14 : List (T_Choice)) (i12 : Nat) (x11 : List Str), k = rest14.length ∧ replay_Text.l1 rest14 x11 = some b ∧ a0.drop i12 = rest14 ∧ ∃ (v_slot_4 : Value) (S_ : Nat → Prop), Fr 68 [(4, v_slot_4), (8, v0_0), (9, .int .i64 (a0.length : Int)), (10, .int .i64 (i12 : Int))] a ∧ Up [] S0 w0 S_ w ∧ OwnL eS 9 1 w0.heap.size S_ w v_slot_4 x11 ∧ (∀ k ∈ ob v_slot_4, k ∈ ob (.slice none 0 0) ∨ w0.heap.size ≤ k)) (a0.length) ?_ ?_
    · intro hl182 a ha
      exact ⟨a0, 0, ([] : List Str), rfl, hl182, rfl, .slice none 0 0, _, ha, (Up.refl' hU0.live (in_nil)), OwnL.nil, fun k hk => .inr ((fun k hk => absurd hk (by simp [ob_nil])) k hk)⟩
    · rintro _ a ww ⟨rest14, i12, x11, rfl, hl10, hd15, hJ⟩
      rcases rest14 with _ | ⟨y13, rest14⟩
      · rw [replay_Text.l1_nil] at hl10
        obtain ⟨w18, rfl⟩ : ∃ x : World, x = ww := ⟨ww, rfl⟩
        obtain ⟨v21, S19, ha17, u20, h22, ho23⟩ := hJ
        refine G.use hl10 ha17 ?_
        have hU24 := hU0.trans0 u20
        refine G.seq fun K25 hK26 => ?_
        refine G.region ?_
        refine G.bin (u := .int .i64 (i12 : Int)) (v := .int .i64 (a0.length : Int)) (r := .bool (decide ((i12 : Int) < (a0.length : Int)))) rfl rfl rfl b_lss ?_
        refine G.nil ?_
        refine G.keep_ (L' := [(4, v21), (8, v0_0), (9, .int .i64 (a0.length : Int)), (10, .int .i64 (i12 : Int)), (11, .bool (decide ((i12 : Int) < (a0.length : Int))))]) (is := [4, 8, 9, 10, 11]) rfl ?_
        refine G.next_ hK26 ?_
        refine G.seq fun K27 hK28 => ?_
        refine G.no rfl (rng_end hd15) ?_
        refine G.exit ?_
        refine G.thn_exit ?_
        refine G.thn_exit ?_
        refine G.inB_eq ?_
        refine G.keep_ (L' := [(4, v21)]) (is := [4]) rfl ?_
        refine G.finE ?_
        rintro rfl a ha
        exact ⟨_, rfl, ⟨v21, _, ha, ((Up.refl' hU0.live (in_nil)).trans0 u20), h22, fun k hk => .inr ((org0_step ho23 (fun k hk => absurd hk (by simp [ob_nil])) (by omega)) k hk)⟩⟩
      · rw [replay_Text.l1_cons] at hl10
        obtain ⟨w30, rfl⟩ : ∃ x : World, x = ww := ⟨ww, rfl⟩
        obtain ⟨v33, S31, ha29, u32, h34, ho35⟩ := hJ
        refine G.use hl10 ha29 ?_
        have hU36 := hU0.trans0 u32
        refine G.seq fun K37 hK38 => ?_
        refine G.region ?_
        refine G.bin (u := .int .i64 (i12 : Int)) (v := .int .i64 (a0.length : Int)) (r := .bool (decide ((i12 : Int) < (a0.length : Int)))) rfl rfl rfl b_lss ?_
        refine G.nil ?_
        refine G.keep_ (L' := [(4, v33), (8, v0_0), (9, .int .i64 (a0.length : Int)), (10, .int .i64 (i12 : Int)), (11, .bool (decide ((i12 : Int) < (a0.length : Int))))]) (is := [4, 8, 9, 10, 11]) rfl ?_
        refine G.next_ hK38 ?_
        refine G.seq fun K39 hK40 => ?_
        refine G.yes rfl (rng_more hd15) ?_
        refine G.skip ?_
        refine G.next_ hK40 ?_
        refine G.seq fun K41 hK42 => ?_
        refine G.block ?_
        refine G.seq fun K43 hK44 => ?_
        refine G.region ?_
        have h45 := h0_0.up u32
        refine G.at_rd (i := i12) (y := y13) rfl rfl rfl Tryd.runUnderlying22 Tryd.sizeOf27 h45 (rng_at hd15) ?_
        intro b46 o47 cs48 hC49 hl50 hR51
        have hR51_ := o_T_Choice hR51; subst hR51_
        refine G.loadN (o := o47) (j := 0) (cs := [.int .i64 y13.fKind, .int .i64 y13.fA, .int .i64 y13.fB]) (c1 := [.int .i64 y13.fKind, .int .i64 y13.fA, .int .i64 y13.fB]) rfl rfl Tryd.isAgg27 Tryd.sizeOf27 hC49 rfl rfl rfl (Nat.le_of_ble_eq_true rfl) ?_
        refine G.alloc (z := .agg [.int .i64 0, .int .i64 0, .int .i64 0].toArray) (cs := [.int .i64 0, .int .i64 0, .int .i64 0]) rfl Tryd.zeroValue27 rfl ?_
        intro g52 w53 hg55 le56 hB57
        have u54 := Up.of_le hU36.live le56
        have hU58 := hU36.trans0 u54
        have lt59 := lt_of_block hB57
        have hn61 : ¬ S31 g52 := fun hs => by have := hU36.live _ hs; omega
        refine G.store (g := g52) (o := 0) (cs := [.int .i64 0, .int .i64 0, .int .i64 0]) (c1 := [.int .i64 y13.fKind, .int .i64 y13.fA, .int .i64 y13.fB]) (cs' := [.int .i64 y13.fKind, .int .i64 y13.fA, .int .i64 y13.fB]) (v := .agg [.int .i64 y13.fKind, .int .i64 y13.fA, .int .i64 y13.fB].toArray) rfl rfl rfl Tryd.sizeOf27 hB57 (List.forall_mem_cons.2 ⟨rfl, List.forall_mem_cons.2 ⟨rfl, List.forall_mem_cons.2 ⟨rfl, List.forall_mem_nil _⟩⟩⟩) (Nat.le_of_ble_eq_true rfl) rfl ?_
        intro w62 le63 hB64
        have u65 := Up.store hU58.live hn61 le63
        have hU66 := hU58.trans u65 (in_one (.inr (by have := hU36.le.size; have := hg55; omega)))
        refine G.nil ?_
        refine G.keep_ (L' := [(4, v33), (6, .pointer (some ⟨g52, 0, none⟩)), (8, v0_0), (9, .int .i64 (a0.length : Int)), (10, .int .i64 (i12 : Int))]) (is := [4, 6, 8, 9, 10]) rfl ?_
        refine G.next_ hK44 ?_
        refine G.seq fun K67 hK68 => ?_
        refine G.seq fun K69 hK70 => ?_
        refine G.region ?_
        refine G.fieldAddr (o' := 0) rfl rfl Tryd.runUnderlying27 rfl Tryd.sizeOf3 rfl ?_
        refine G.load1 (o := 0) (j := 0) (cs := [.int .i64 y13.fKind, .int .i64 y13.fA, .int .i64 y13.fB]) (v := .int .i64 y13.fKind) rfl rfl Tryd.isAgg3 (Cs.of_block hB64) rfl rfl ?_
        refine G.bin (u := .int .i64 y13.fKind) (v := .int .i64 1) (r := .bool (decide (y13.fKind < 1))) rfl rfl rfl b_lss ?_
        refine G.move (v := .bool (decide (y13.fKind < 1))) rfl rfl ?_
        refine G.cut 4 (fun a w' => w62 = w' ∧ Fr 68 [(4, v33), (6, .pointer (some ⟨g52, 0, none⟩)), (8, v0_0), (9, .int .i64 (a0.length : Int)), (10, .int .i64 (i12 : Int)), (21, .bool ((decide (y13.fKind < 1)) || (decide (y13.fKind > 3))))] a) ?_ ?_
        · refine G.byb (c := (decide (y13.fKind < 1))) (fun hc71 => ?_) (fun hc71 => ?_)
          · refine G.skip_s rfl rfl hc71 rfl ?_
            refine G.skip_s rfl rfl hc71 rfl ?_
            refine G.skip_s rfl rfl hc71 rfl ?_
            refine G.pick_yes (u := .bool true) rfl rfl hc71 rfl ?_
            refine G.recast (or_yes (x := (decide (y13.fKind > 3))) hc71) ?_
            refine G.nil ?_
            refine G.keep_ (L' := [(4, v33), (6, .pointer (some ⟨g52, 0, none⟩)), (8, v0_0), (9, .int .i64 (a0.length : Int)), (10, .int .i64 (i12 : Int)), (21, .bool ((decide (y13.fKind < 1)) || (decide (y13.fKind > 3))))]) (is := [4, 6, 8, 9, 10, 21]) rfl ?_
            exact G.finE fun _ a ha => ⟨rfl, ha⟩
          · refine G.guard_yes rfl rfl hc71 ?_
            refine G.fieldAddr (o' := 0) rfl rfl Tryd.runUnderlying27 rfl Tryd.sizeOf3 rfl ?_
            refine G.guard_yes rfl rfl hc71 ?_
            refine G.load1 (o := 0) (j := 0) (cs := [.int .i64 y13.fKind, .int .i64 y13.fA, .int .i64 y13.fB]) (v := .int .i64 y13.fKind) rfl rfl Tryd.isAgg3 (Cs.of_block hB64) rfl rfl ?_
            refine G.guard_yes rfl rfl hc71 ?_
            refine G.bin (u := .int .i64 y13.fKind) (v := .int .i64 3) (r := .bool (decide (y13.fKind > 3))) rfl rfl rfl b_gtr ?_
            refine G.pick_no (u := .bool (decide (y13.fKind > 3))) rfl rfl hc71 rfl ?_
            refine G.recast (or_no (x := (decide (y13.fKind > 3))) hc71) ?_
            refine G.nil ?_
            refine G.keep_ (L' := [(4, v33), (6, .pointer (some ⟨g52, 0, none⟩)), (8, v0_0), (9, .int .i64 (a0.length : Int)), (10, .int .i64 (i12 : Int)), (21, .bool ((decide (y13.fKind < 1)) || (decide (y13.fKind > 3))))]) (is := [4, 6, 8, 9, 10, 21]) rfl ?_
            exact G.finE fun _ a ha => ⟨rfl, ha⟩
        · rintro a _ ⟨rfl, ha⟩ hF
          refine G.use hF ha ?_
          refine G.move (v := .bool ((decide (y13.fKind < 1)) || (decide (y13.fKind > 3)))) rfl rfl ?_
          refine G.cut 4 (fun a w' => w62 = w' ∧ Fr 68 [(4, v33), (6, .pointer (some ⟨g52, 0, none⟩)), (8, v0_0), (9, .int .i64 (a0.length : Int)), (10, .int .i64 (i12 : Int)), (26, .bool (((decide (y13.fKind < 1)) || (decide (y13.fKind > 3))) || (decide (y13.fA < 0))))] a) ?_ ?_
          · refine G.byb (c := ((decide (y13.fKind < 1)) || (decide (y13.fKind > 3)))) (fun hc72 => ?_) (fun hc72 => ?_)
            · refine G.skip_s rfl rfl hc72 rfl ?_
              refine G.skip_s rfl rfl hc72 rfl ?_
              refine G.skip_s rfl rfl hc72 rfl ?_
              refine G.pick_yes (u := .bool true) rfl rfl hc72 rfl ?_
              refine G.recast (or_yes (x := (decide (y13.fA < 0))) hc72) ?_
              refine G.nil ?_
              refine G.keep_ (L' := [(4, v33), (6, .pointer (some ⟨g52, 0, none⟩)), (8, v0_0), (9, .int .i64 (a0.length : Int)), (10, .int .i64 (i12 : Int)), (26, .bool (((decide (y13.fKind < 1)) || (decide (y13.fKind > 3))) || (decide (y13.fA < 0))))]) (is := [4, 6, 8, 9, 10, 26]) rfl ?_
              exact G.finE fun _ a ha => ⟨rfl, ha⟩
            · refine G.guard_yes rfl rfl hc72 ?_
              refine G.fieldAddr (o' := 1) rfl rfl Tryd.runUnderlying27 rfl Tryd.sizeOf3 rfl ?_
              refine G.guard_yes rfl rfl hc72 ?_
              refine G.load1 (o := 0) (j := 1) (cs := [.int .i64 y13.fKind, .int .i64 y13.fA, .int .i64 y13.fB]) (v := .int .i64 y13.fA) rfl rfl Tryd.isAgg3 (Cs.of_block hB64) rfl rfl ?_
              refine G.guard_yes rfl rfl hc72 ?_
              refine G.bin (u := .int .i64 y13.fA) (v := .int .i64 0) (r := .bool (decide (y13.fA < 0))) rfl rfl rfl b_lss ?_
              refine G.pick_no (u := .bool (decide (y13.fA < 0))) rfl rfl hc72 rfl ?_
              refine G.recast (or_no (x := (decide (y13.fA < 0))) hc72) ?_
              refine G.nil ?_
              refine G.keep_ (L' := [(4, v33), (6, .pointer (some ⟨g52, 0, none⟩)), (8, v0_0), (9, .int .i64 (a0.length : Int)), (10, .int .i64 (i12 : Int)), (26, .bool (((decide (y13.fKind < 1)) || (decide (y13.fKind > 3))) || (decide (y13.fA < 0))))]) (is := [4, 6, 8, 9, 10, 26]) rfl ?_
              exact G.finE fun _ a ha => ⟨rfl, ha⟩
          · rintro a _ ⟨rfl, ha⟩ hF
            refine G.use hF ha ?_
            refine G.move (v := .bool (((decide (y13.fKind < 1)) || (decide (y13.fKind > 3))) || (decide (y13.fA < 0)))) rfl rfl ?_
            refine G.cut 4 (fun a w' => w62 = w' ∧ Fr 68 [(4, v33), (6, .pointer (some ⟨g52, 0, none⟩)), (8, v0_0), (9, .int .i64 (a0.length : Int)), (10, .int .i64 (i12 : Int)), (31, .bool ((((decide (y13.fKind < 1)) || (decide (y13.fKind > 3))) || (decide (y13.fA < 0))) || (decide (y13.fB < 0))))] a) ?_ ?_
            · refine G.byb (c := (((decide (y13.fKind < 1)) || (decide (y13.fKind > 3))) || (decide (y13.fA < 0)))) (fun hc73 => ?_) (fun hc73 => ?_)
              · refine G.skip_s rfl rfl hc73 rfl ?_
                refine G.skip_s rfl rfl hc73 rfl ?_
                refine G.skip_s rfl rfl hc73 rfl ?_
                refine G.pick_yes (u := .bool true) rfl rfl hc73 rfl ?_
                refine G.recast (or_yes (x := (decide (y13.fB < 0))) hc73) ?_
                refine G.nil ?_
                refine G.keep_ (L' := [(4, v33), (6, .pointer (some ⟨g52, 0, none⟩)), (8, v0_0), (9, .int .i64 (a0.length : Int)), (10, .int .i64 (i12 : Int)), (31, .bool ((((decide (y13.fKind < 1)) || (decide (y13.fKind > 3))) || (decide (y13.fA < 0))) || (decide (y13.fB < 0))))]) (is := [4, 6, 8, 9, 10, 31]) rfl ?_
                exact G.finE fun _ a ha => ⟨rfl, ha⟩
              · refine G.guard_yes rfl rfl hc73 ?_
                refine G.fieldAddr (o' := 2) rfl rfl Tryd.runUnderlying27 rfl Tryd.sizeOf3 rfl ?_
                refine G.guard_yes rfl rfl hc73 ?_
                refine G.load1 (o := 0) (j := 2) (cs := [.int .i64 y13.fKind, .int .i64 y13.fA, .int .i64 y13.fB]) (v := .int .i64 y13.fB) rfl rfl Tryd.isAgg3 (Cs.of_block hB64) rfl rfl ?_
                refine G.guard_yes rfl rfl hc73 ?_
                refine G.bin (u := .int .i64 y13.fB) (v := .int .i64 0) (r := .bool (decide (y13.fB < 0))) rfl rfl rfl b_lss ?_
                refine G.pick_no (u := .bool (decide (y13.fB < 0))) rfl rfl hc73 rfl ?_
                refine G.recast (or_no (x := (decide (y13.fB < 0))) hc73) ?_
                refine G.nil ?_
                refine G.keep_ (L' := [(4, v33), (6, .pointer (some ⟨g52, 0, none⟩)), (8, v0_0), (9, .int .i64 (a0.length : Int)), (10, .int .i64 (i12 : Int)), (31, .bool ((((decide (y13.fKind < 1)) || (decide (y13.fKind > 3))) || (decide (y13.fA < 0))) || (decide (y13.fB < 0))))]) (is := [4, 6, 8, 9, 10, 31]) rfl ?_
                exact G.finE fun _ a ha => ⟨rfl, ha⟩
            · rintro a _ ⟨rfl, ha⟩ hF
              refine G.use hF ha ?_
              refine G.move (v := .bool ((((decide (y13.fKind < 1)) || (decide (y13.fKind > 3))) || (decide (y13.fA < 0))) || (decide (y13.fB < 0)))) rfl rfl ?_
              refine G.cut 9 (fun a w' => w62 = w' ∧ Fr 68 [(4, v33), (6, .pointer (some ⟨g52, 0, none⟩)), (8, v0_0), (9, .int .i64 (a0.length : Int)), (10, .int .i64 (i12 : Int)), (41, .bool (((((decide (y13.fKind < 1)) || (decide (y13.fKind > 3))) || (decide (y13.fA < 0))) || (decide (y13.fB < 0))) || ((y13.fB != 0) && (y13.fKind != 2))))] a) ?_ ?_
              · refine G.byb (c := ((((decide (y13.fKind < 1)) || (decide (y13.fKind > 3))) || (decide (y13.fA < 0))) || (decide (y13.fB < 0)))) (fun hc74 => ?_) (fun hc74 => ?_)
                · refine G.skip_s rfl rfl hc74 rfl ?_
                  refine G.skip_s rfl rfl hc74 rfl ?_
                  refine G.skip_s rfl rfl hc74 rfl ?_
                  refine G.skip_s rfl rfl hc74 rfl ?_
                  refine G.skip_u rfl rfl rfl ?_
                  refine G.skip_u rfl rfl rfl ?_
                  refine G.skip_u rfl rfl rfl ?_
                  refine G.skip_s rfl rfl hc74 rfl ?_
                  refine G.pick_yes (u := .bool true) rfl rfl hc74 rfl ?_
                  refine G.recast (or_yes (x := ((y13.fB != 0) && (y13.fKind != 2))) hc74) ?_
                  refine G.nil ?_
                  refine G.keep_ (L' := [(4, v33), (6, .pointer (some ⟨g52, 0, none⟩)), (8, v0_0), (9, .int .i64 (a0.length : Int)), (10, .int .i64 (i12 : Int)), (41, .bool (((((decide (y13.fKind < 1)) || (decide (y13.fKind > 3))) || (decide (y13.fA < 0))) || (decide (y13.fB < 0))) || ((y13.fB != 0) && (y13.fKind != 2))))]) (is := [4, 6, 8, 9, 10, 41]) rfl ?_
                  exact G.finE fun _ a ha => ⟨rfl, ha⟩
                · refine G.guard_yes rfl rfl hc74 ?_
                  refine G.fieldAddr (o' := 2) rfl rfl Tryd.runUnderlying27 rfl Tryd.sizeOf3 rfl ?_
                  refine G.guard_yes rfl rfl hc74 ?_
                  refine G.load1 (o := 0) (j := 2) (cs := [.int .i64 y13.fKind, .int .i64 y13.fA, .int .i64 y13.fB]) (v := .int .i64 y13.fB) rfl rfl Tryd.isAgg3 (Cs.of_block hB64) rfl rfl ?_
                  refine G.guard_yes rfl rfl hc74 ?_
                  refine G.bin (u := .int .i64 y13.fB) (v := .int .i64 0) (r := .bool (y13.fB != 0)) rfl rfl rfl b_neq ?_
                  refine G.guard_yes rfl rfl hc74 ?_
                  refine G.move (v := .bool (y13.fB != 0)) rfl rfl ?_
                  refine G.cut 4 (fun a w' => w62 = w' ∧ Fr 68 [(4, v33), (6, .pointer (some ⟨g52, 0, none⟩)), (8, v0_0), (9, .int .i64 (a0.length : Int)), (10, .int .i64 (i12 : Int)), (32, .bool ((((decide (y13.fKind < 1)) || (decide (y13.fKind > 3))) || (decide (y13.fA < 0))) || (decide (y13.fB < 0)))), (40, .bool ((y13.fB != 0) && (y13.fKind != 2)))] a) ?_ ?_
                  · refine G.byb (c := (y13.fB != 0)) (fun hc75 => ?_) (fun hc75 => ?_)
                    · refine G.guard_yes rfl rfl hc75 ?_
                      refine G.fieldAddr (o' := 0) rfl rfl Tryd.runUnderlying27 rfl Tryd.sizeOf3 rfl ?_
                      refine G.guard_yes rfl rfl hc75 ?_
                      refine G.load1 (o := 0) (j := 0) (cs := [.int .i64 y13.fKind, .int .i64 y13.fA, .int .i64 y13.fB]) (v := .int .i64 y13.fKind) rfl rfl Tryd.isAgg3 (Cs.of_block hB64) rfl rfl ?_
                      refine G.guard_yes rfl rfl hc75 ?_
                      refine G.bin (u := .int .i64 y13.fKind) (v := .int .i64 2) (r := .bool (y13.fKind != 2)) rfl rfl rfl b_neq ?_
                      refine G.guard_yes rfl rfl hc74 ?_
                      refine G.pick_yes (u := .bool (y13.fKind != 2)) rfl rfl hc75 rfl ?_
                      refine G.recast (and_yes (x := (y13.fKind != 2)) hc75) ?_
                      refine G.nil ?_
                      refine G.keep_ (L' := [(4, v33), (6, .pointer (some ⟨g52, 0, none⟩)), (8, v0_0), (9, .int .i64 (a0.length : Int)), (10, .int .i64 (i12 : Int)), (32, .bool ((((decide (y13.fKind < 1)) || (decide (y13.fKind > 3))) || (decide (y13.fA < 0))) || (decide (y13.fB < 0)))), (40, .bool ((y13.fB != 0) && (y13.fKind != 2)))]) (is := [4, 6, 8, 9, 10, 32, 40]) rfl ?_
                      exact G.finE fun _ a ha => ⟨rfl, ha⟩
                    · refine G.skip_s rfl rfl hc75 rfl ?_
                      refine G.skip_s rfl rfl hc75 rfl ?_
                      refine G.skip_s rfl rfl hc75 rfl ?_
                      refine G.guard_yes rfl rfl hc74 ?_
                      refine G.pick_no (u := .bool false) rfl rfl hc75 rfl ?_
                      refine G.recast (and_no (x := (y13.fKind != 2)) hc75) ?_
                      refine G.nil ?_
                      refine G.keep_ (L' := [(4, v33), (6, .pointer (some ⟨g52, 0, none⟩)), (8, v0_0), (9, .int .i64 (a0.length : Int)), (10, .int .i64 (i12 : Int)), (32, .bool ((((decide (y13.fKind < 1)) || (decide (y13.fKind > 3))) || (decide (y13.fA < 0))) || (decide (y13.fB < 0)))), (40, .bool ((y13.fB != 0) && (y13.fKind != 2)))]) (is := [4, 6, 8, 9, 10, 32, 40]) rfl ?_
                      exact G.finE fun _ a ha => ⟨rfl, ha⟩
                  · rintro a _ ⟨rfl, ha⟩ hF
                    refine G.use hF ha ?_
                    refine G.pick_no (u := .bool ((y13.fB != 0) && (y13.fKind != 2))) rfl rfl hc74 rfl ?_
                    refine G.recast (or_no (x := ((y13.fB != 0) && (y13.fKind != 2))) hc74) ?_
                    refine G.nil ?_
                    refine G.keep_ (L' := [(4, v33), (6, .pointer (some ⟨g52, 0, none⟩)), (8, v0_0), (9, .int .i64 (a0.length : Int)), (10, .int .i64 (i12 : Int)), (41, .bool (((((decide (y13.fKind < 1)) || (decide (y13.fKind > 3))) || (decide (y13.fA < 0))) || (decide (y13.fB < 0))) || ((y13.fB != 0) && (y13.fKind != 2))))]) (is := [4, 6, 8, 9, 10, 41]) rfl ?_
                    exact G.finE fun _ a ha => ⟨rfl, ha⟩
              · rintro a _ ⟨rfl, ha⟩ hF
                refine G.use hF ha ?_
                refine G.nil ?_
                refine G.keep_ (L' := [(4, v33), (6, .pointer (some ⟨g52, 0, none⟩)), (8, v0_0), (9, .int .i64 (a0.length : Int)), (10, .int .i64 (i12 : Int)), (41, .bool (((((decide (y13.fKind < 1)) || (decide (y13.fKind > 3))) || (decide (y13.fA < 0))) || (decide (y13.fB < 0))) || ((y13.fB != 0) && (y13.fKind != 2))))]) (is := [4, 6, 8, 9, 10, 41]) rfl ?_
                refine G.next_ hK70 ?_
                refine G.cond (b := (((((decide (y13.fKind < 1)) || (decide (y13.fKind > 3))) || (decide (y13.fA < 0))) || (decide (y13.fB < 0))) || ((y13.fB != 0) && (y13.fKind != 2)))) rfl (fun hc76 => ?_) (fun hc76 => ?_)
                · refine G.keep_ (L' := []) (is := []) rfl ?_
                  refine G.seq fun K77 hK78 => ?_
                  refine G.region ?_
                  refine G.assign (v := bs []) rfl rfl ?_
                  refine G.assign (v := .int .i64 3) rfl rfl ?_
                  refine G.nil ?_
                  refine G.keep_ (L' := [(2, bs []), (3, .int .i64 3)]) (is := [2, 3]) rfl ?_
                  refine G.next_ hK78 ?_
                  refine G.ret ?_
                  refine G.thn_ret ?_
                  refine G.inB_ret ?_
                  refine G.thn_ret ?_
                  refine G.thn_ret ?_
                  refine G.inB_ret ?_
                  refine G.thn_ret ?_
                  refine G.thn_ret ?_
                  refine G.ret2 (v := bs []) (v' := .int .i64 3) Tryd.results4 rfl rfl (fun hF79 => ?_)
                  have hb80 := Option.some.inj hF79
                  subst hb80
                  have hF81 : (some ([], 3) : Option (Str × Int)) = some _ := hF9
                  obtain rfl := Option.some.inj hF81
                  exact ⟨_, hU66, rfl⟩
                · refine G.keep_ (L' := [(4, v33), (6, .pointer (some ⟨g52, 0, none⟩)), (8, v0_0), (9, .int .i64 (a0.length : Int)), (10, .int .i64 (i12 : Int))]) (is := [4, 6, 8, 9, 10]) rfl ?_
                  refine G.skip ?_
                  refine G.next_ hK68 ?_
                  refine G.seq fun K82 hK83 => ?_
                  refine G.bind fun s84 hq95 => ?_
                  refine G.bind fun r86 hq96 => ?_
                  refine G.bind fun s93 hq97 => ?_
                  have h98 := h34.up0 u54
                  have nb100 : g52 ∉ ob v33 := fun hm => by have := h34.lt _ hm; have := hg55; omega
                  have h99 := h98.up u65 (fun k hk => nm_one (fun e => nb100 (e ▸ hk)))
                  have hn101 := fun hs => hn61 (u65.old g52 (by have := lt59; omega) hs)
                  refine G.draw [] mixed 11 rfl ?_
                  intro w119 le120
                  have u121 := Up.of_le hU66.live le120
                  have hU122 := hU66.trans0 u121
                  have h123 := h99.up0 u121
                  have h124 := h45.up u54
                  have h125 := h124.up u65
                  have h126 := h125.up u121
                  have hB127 := u121.le.kept0 hB64
                  refine GH.take 0 rfl rfl (by kernel_rfl) (by kernel_rfl) (by kernel_rfl) (Q.fieldAddr (o' := 0) rfl Tryd.runUnderlying27 rfl Tryd.sizeOf3 rfl) (Le.refl [] _) (fun _ _ _ h => h) ?_
                  refine GH.take 1 rfl rfl (by kernel_rfl) (by kernel_rfl) (by kernel_rfl) (Q.load1 (o := 0) (j := 0) (cs := [.int .i64 y13.fKind, .int .i64 y13.fA, .int .i64 y13.fB]) (v := .int .i64 y13.fKind) rfl Tryd.isAgg3 (Cs.of_block hB127) List.not_mem_nil rfl rfl) (Le.refl [] _) (fun _ _ _ h => h) ?_
                  refine GH.take 2 rfl rfl (by kernel_rfl) (by kernel_rfl) (by kernel_rfl) (Q.bin (u := .int .i64 y13.fKind) (v := .int .i64 1) (r := .int .i64 (subI y13.fKind 1)) rfl rfl b_sub) (Le.refl [] _) (fun _ _ _ h => h) ?_
                  refine GH.take 3 rfl rfl (by kernel_rfl) (by kernel_rfl) (by kernel_rfl) (Q.fieldAddr (o' := 0) rfl Tryd.runUnderlying27 rfl Tryd.sizeOf3 rfl) (Le.refl [] _) (fun _ _ _ h => h) ?_
                  refine GH.take 4 rfl rfl (by kernel_rfl) (by kernel_rfl) (by kernel_rfl) (Q.load1 (o := 0) (j := 0) (cs := [.int .i64 y13.fKind, .int .i64 y13.fA, .int .i64 y13.fB]) (v := .int .i64 y13.fKind) rfl Tryd.isAgg3 (Cs.of_block hB127) List.not_mem_nil rfl rfl) (Le.refl [] _) (fun _ _ _ h => h) ?_
                  refine GH.take 5 rfl rfl (by kernel_rfl) (by kernel_rfl) (by kernel_rfl) (Q.sub_str (s := [103, 99, 108]) (l := (subI y13.fKind 1)) (h := y13.fKind) rfl Tryd.runUnderlying9 rfl rfl hq95) (Le.refl [] _) (fun _ _ _ h => h) ?_
                  refine GH.take 6 rfl rfl (by kernel_rfl) (by kernel_rfl) (by kernel_rfl) (Q.fieldAddr (o' := 1) rfl Tryd.runUnderlying27 rfl Tryd.sizeOf3 rfl) (Le.refl [] _) (fun _ _ _ h => h) ?_
                  refine GH.take 7 rfl rfl (by kernel_rfl) (by kernel_rfl) (by kernel_rfl) (Q.load1 (o := 0) (j := 1) (cs := [.int .i64 y13.fKind, .int .i64 y13.fA, .int .i64 y13.fB]) (v := .int .i64 y13.fA) rfl Tryd.isAgg3 (Cs.of_block hB127) List.not_mem_nil rfl rfl) (Le.refl [] _) (fun _ _ _ h => h) ?_
                  refine GH.all [8] (by kernel_rfl) (by decide) ?_
                  refine all_cons ?_ (List.forall_mem_nil _)
                  refine GH.run rfl rfl ?_
                  have hc130 := strconv_Itoa_ok hU122.live (hV0.up hU122) y13.fA hq96
                  refine W.call (R := strconv_Itoa.Post S31 w119 r86) (vs := [.int .i64 y13.fA]) rfl rfl Tryd.call9 ?_ ?_
                  · exact hc130
                  rintro _ w132 ⟨S131, u133, rfl⟩
                  have hU134 := hU122.trans0 u133
                  have le135 := ((Le.refl [] _).trans0 u133.le)
                  refine GH.and le135 ?_
                  refine GH.take 9 rfl rfl (by kernel_rfl) (by kernel_rfl) (by kernel_rfl) (Q.cat rfl rfl hq97) le135 (fun _ _ _ h => h) ?_
                  refine GH.take 10 rfl rfl (by kernel_rfl) (by kernel_rfl) (by kernel_rfl) (Q.assign rfl) le135 (fun _ _ _ h => h) ?_
                  refine GH.done (by kernel_rfl) ?_
                  refine G.keep_ (L' := [(4, v33), (6, .pointer (some ⟨g52, 0, none⟩)), (7, bs s93), (8, v0_0), (9, .int .i64 (a0.length : Int)), (10, .int .i64 (i12 : Int))]) (is := [4, 6, 7, 8, 9, 10]) rfl ?_
                  refine G.next_ hK83 ?_
                  refine G.seq fun K136 hK137 => ?_
                  refine G.seq fun K138 hK139 => ?_
                  refine G.region ?_
                  refine G.fieldAddr (o' := 0) rfl rfl Tryd.runUnderlying27 rfl Tryd.sizeOf3 rfl ?_
                  have hB140 := u133.le.kept0 hB127
                  refine G.load1 (o := 0) (j := 0) (cs := [.int .i64 y13.fKind, .int .i64 y13.fA, .int .i64 y13.fB]) (v := .int .i64 y13.fKind) rfl rfl Tryd.isAgg3 (Cs.of_block hB140) rfl rfl ?_
                  refine G.bin (u := .int .i64 y13.fKind) (v := .int .i64 2) (r := .bool (y13.fKind == 2)) rfl rfl rfl b_eql ?_
                  refine G.nil ?_
                  refine G.keep_ (L' := [(4, v33), (6, .pointer (some ⟨g52, 0, none⟩)), (7, bs s93), (8, v0_0), (9, .int .i64 (a0.length : Int)), (10, .int .i64 (i12 : Int)), (54, .bool (y13.fKind == 2))]) (is := [4, 6, 7, 8, 9, 10, 54]) rfl ?_
                  refine G.next_ hK139 ?_
                  have h141 := h123.up0 u133
                  have hn142 := fun hs => hn101 (u121.old g52 (by have := u65.le.size; have := lt59; omega) hs)
                  have hn143 := fun hs => hn142 (u133.old g52 (by have := u65.le.size; have := u121.le.size; have := lt59; omega) hs)
                  refine G.join (E := fun b a w' => ∃ (S_ : Nat → Prop), Fr 68 [(4, v33), (7, bs b), (8, v0_0), (9, .int .i64 (a0.length : Int)), (10, .int .i64 (i12 : Int))] a ∧ Up [] S131 w132 S_ w') ?_ ?_
                  · intro b hF144
                    refine G.cond (b := (y13.fKind == 2)) rfl (fun hc145 => ?_) (fun hc145 => ?_)
                    · refine G.keep_ (L' := [(4, v33), (6, .pointer (some ⟨g52, 0, none⟩)), (7, bs s93), (8, v0_0), (9, .int .i64 (a0.length : Int)), (10, .int .i64 (i12 : Int))]) (is := [4, 6, 7, 8, 9, 10]) rfl ?_
                      refine G.region ?_
                      refine G.move (v := bs s93) rfl rfl ?_
                      refine G.fieldAddr (o' := 2) rfl rfl Tryd.runUnderlying27 rfl Tryd.sizeOf3 rfl ?_
                      refine G.load1 (o := 0) (j := 2) (cs := [.int .i64 y13.fKind, .int .i64 y13.fA, .int .i64 y13.fB]) (v := .int .i64 y13.fB) rfl rfl Tryd.isAgg3 (Cs.of_block hB140) rfl rfl ?_
                      refine G.bind fun r146 hr147 => ?_
                      have hc148 := strconv_Itoa_ok hU134.live (hV0.up hU134) y13.fB hr147
                      refine G.call (R := strconv_Itoa.Post S131 w132 r146) (vs := [.int .i64 y13.fB]) rfl rfl Tryd.call9 ?_ ?_
                      · exact hc148
                      rintro _ w150 ⟨S149, u151, rfl⟩
                      have hU152 := hU134.trans0 u151
                      refine G.cat (a := ([45] : Str)) (b := r146) rfl rfl rfl ?_
                      intro s153 hs154
                      refine G.cat (a := s93) (b := s153) rfl rfl rfl ?_
                      intro s155 hs156
                      refine G.assign (v := bs s155) rfl rfl ?_
                      refine G.nil ?_
                      refine G.keep_ (L' := [(4, v33), (7, bs s155), (8, v0_0), (9, .int .i64 (a0.length : Int)), (10, .int .i64 (i12 : Int))]) (is := [4, 7, 8, 9, 10]) rfl ?_
                      refine G.keep_ (L' := [(4, v33), (7, bs s155), (8, v0_0), (9, .int .i64 (a0.length : Int)), (10, .int .i64 (i12 : Int))]) (is := [4, 7, 8, 9, 10]) rfl ?_
                      refine G.finE ?_
                      rintro rfl a ha
                      exact ⟨_, ha, ((Up.refl' hU134.live (in_nil)).trans0 u151)⟩
                    · refine G.keep_ (L' := [(4, v33), (7, bs s93), (8, v0_0), (9, .int .i64 (a0.length : Int)), (10, .int .i64 (i12 : Int))]) (is := [4, 7, 8, 9, 10]) rfl ?_
                      refine G.skip ?_
                      refine G.keep_ (L' := [(4, v33), (7, bs s93), (8, v0_0), (9, .int .i64 (a0.length : Int)), (10, .int .i64 (i12 : Int))]) (is := [4, 7, 8, 9, 10]) rfl ?_
                      refine G.finE ?_
                      rintro rfl a ha
                      exact ⟨_, ha, (Up.refl' hU134.live (in_nil))⟩
                  · rintro b157 hb180 a w159 ⟨S160, ha158, u161⟩ hF181
                    refine G.use hF181 ha158 ?_
                    have hU162 := hU134.trans0 u161
                    refine G.next_ hK137 ?_
                    refine G.region ?_
                    refine G.move (v := v33) rfl rfl ?_
                    refine G.move (v := bs b157) rfl rfl ?_
                    refine G.buildSlice (ys := ([b157] : List Str)) (xs := [.tmp 62]) (vs := [bs b157]) (cs := [bs b157]) rfl elt32 rfl rfl rfl (by decide) rfl (List.forall_mem_cons.2 ⟨rfl, List.forall_mem_nil _⟩) (rfl) (RdX.one (enc := eS) (x := b157) (Rd.val_iff.2 rfl) rfl) hU162.le.size hU162.live ?_
                    intro v163 w164 u165 h166 hw167
                    have hU168 := hU162.trans0 u165
                    have h169 := h141.up0 u161
                    have h170 := h169.up0 u165
                    refine G.append (xs := x11) (ys := ([b157] : List Str)) (lim := 8796093022208) rfl elt32 rfl rfl (by decide) (by decide) (fun _ => one_S) h170 h166.src hU168.le.size hU168.live ?_
                    intro l171 v172 w173 hz174 u175 h176 ho177
                    have hU178 := hU168.trans u175 (fun m hm => .inr (h170.born m hm))
                    refine G.assign (v := v172) rfl rfl ?_
                    refine G.nil ?_
                    refine G.keep_ (L' := [(4, v172), (8, v0_0), (9, .int .i64 (a0.length : Int)), (10, .int .i64 (i12 : Int))]) (is := [4, 8, 9, 10]) rfl ?_
                    refine G.inB ?_
                    refine G.next_ hK42 ?_
                    refine G.region ?_
                    refine G.incr (i := i12) (N := a0.length) rfl rfl rfl (rng_lt hd15) (h0_0.length_le) ?_
                    refine G.move (v := .int .i64 ((i12 + 1 : Nat) : Int)) rfl rfl ?_
                    refine G.nil ?_
                    refine G.keep_ (L' := [(4, v172), (8, v0_0), (9, .int .i64 (a0.length : Int)), (10, .int .i64 ((i12 + 1 : Nat) : Int))]) (is := [4, 8, 9, 10]) rfl ?_
                    refine G.keep_ (L' := [(4, v172), (8, v0_0), (9, .int .i64 (a0.length : Int)), (10, .int .i64 ((i12 + 1 : Nat) : Int))]) (is := [4, 8, 9, 10]) rfl ?_
                    refine G.again ?_
                    intro hl179 a ha
                    exact ⟨_, Nat.lt_succ_self _, rest14, i12 + 1, l171, rfl, hl179, rng_next hd15, v172, _, ha, (((((((((Up.refl' hU0.live (in_nil)).trans0 u32).trans0 u54).trans u65 (in_one (.inr (by have := u32.le.size; have := hg55; omega)))).trans0 u121).trans0 u133).trans0 u161).trans0 u165).trans u175 (fun k hk => .inr ((org0_step ho35 (fun k hk => absurd hk (by simp [ob_nil])) (by omega)) k hk))), h176, fun k hk => .inr ((org0_step ho177 (org0_step ho35 (fun k hk => absurd hk (by simp [ob_nil])) (by omega)) (by have := u32.le.size; have := u54.le.size; have := u65.le.size; have := u121.le.size; have := u133.le.size; have := u161.le.size; have := u165.le.size; omega)) k hk)⟩
  · rintro _ hb205 a w185 ⟨b183, rfl, v188, S186, ha184, u187, h189, ho190⟩ hF206
    refine G.use hF206 ha184 ?_
    refine G.inr ?_
    have hU191 := hU0.trans0 u187
    refine G.next_ hK6 ?_
    refine G.seq fun K192 hK193 => ?_
    refine G.region ?_
    refine G.move (v := v188) rfl rfl ?_
    obtain ⟨S194, hS194⟩ : ∃ X : Nat → Prop, X = fun b => S186 b ∨ b ∈ ob v188 := ⟨_, rfl⟩
    have hU195 : Up [] S0 w0 S194 w185 := by rw [hS194]; exact Up.freeze hU191 h189.born h189.lt
    have h196 : RdL _ _ S194 _ _ _ := h189.read (by rw [hS194]; exact fun _ h => .inl h) (by rw [hS194]; exact fun _ h => .inr h)
    refine G.bind fun r197 hr198 => ?_
    have hc199 := strings_Join_ok hU195.live b183 [32] v188 h196 hr198
    refine G.call (R := strings_Join.Post S194 w185 r197) (vs := [v188, bs [32]]) rfl rfl Tryd.call10 ?_ ?_
    · exact hc199
    rintro _ w201 ⟨S200, u202, rfl⟩
    have hU203 := hU195.trans0 u202
    refine G.assign (v := bs r197) rfl rfl ?_
    refine G.assign (v := .int .i64 0) rfl rfl ?_
    refine G.nil ?_
    refine G.keep_ (L' := [(2, bs r197), (3, .int .i64 0)]) (is := [2, 3]) rfl ?_
    refine G.next_ hK193 ?_
    refine G.ret ?_
    refine G.ret2 (v := bs r197) (v' := .int .i64 0) Tryd.results4 rfl rfl (fun hF204 => ?_)
    obtain rfl := Option.some.inj hF204
    exact ⟨_, hU203, rfl⟩
/-! roadstead/roadref5.ChoiceText -/
def roadref5_ChoiceText.l1  : List (T_Choice) → Nat → Str → Option ((Str × Int) ⊕ (Str))
  | [], i12, x11 => some (.inr x11)
  | y13 :: rest14, i12, x11 => (if (((((decide (y13.fKind < 1)) || (decide (y13.fKind > 3))) || (decide (y13.fA < 0))) || (decide (y13.fB < 0))) || ((y13.fB != 0) && (y13.fKind != 2))) = true then some (.inl ([], 3)) else ((if (decide ((i12 : Int) > 0)) = true then (catl x11 ([32] : Str)).bind fun s83 => some s83 else some x11)).bind fun b85 => (nth ([[], [103], [99], [108]] : List Str) y13.fKind).bind fun y105 => (strconv_Itoa y13.fA).bind fun r107 => (catl y105 r107).bind fun s114 => (catl b85 s114).bind fun s116 => (if (y13.fKind == 2) = true then (strconv_Itoa y13.fB).bind fun r305 => (catl ([45] : Str) r305).bind fun s312 => (catl s116 s312).bind fun s314 => roadref5_ChoiceText.l1 rest14 (i12 + 1) s314 else roadref5_ChoiceText.l1 rest14 (i12 + 1) s116))

theorem roadref5_ChoiceText.l1_nil  {i12 : Nat} {x11 : Str} : roadref5_ChoiceText.l1  [] i12 x11 = some (.inr x11) := rfl
theorem roadref5_ChoiceText.l1_cons  {y13 : T_Choice} {rest14 : List (T_Choice)} {i12 : Nat} {x11 : Str} : roadref5_ChoiceText.l1  (y13 :: rest14) i12 x11 = (if (((((decide (y13.fKind < 1)) || (decide (y13.fKind > 3))) || (decide (y13.fA < 0))) || (decide (y13.fB < 0))) || ((y13.fB != 0) && (y13.fKind != 2))) = true then some (.inl ([], 3)) else ((if (decide ((i12 : Int) > 0)) = true then (catl x11 ([32] : Str)).bind fun s83 => some s83 else some x11)).bind fun b85 => (nth ([[], [103], [99], [108]] : List Str) y13.fKind).bind fun y105 => (strconv_Itoa y13.fA).bind fun r107 => (catl y105 r107).bind fun s114 => (catl b85 s114).bind fun s116 => (if (y13.fKind == 2) = true then (strconv_Itoa y13.fB).bind fun r305 => (catl ([45] : Str) r305).bind fun s312 => (catl s116 s312).bind fun s314 => roadref5_ChoiceText.l1 rest14 (i12 + 1) s314 else roadref5_ChoiceText.l1 rest14 (i12 + 1) s116)) := rfl
def roadref5_ChoiceText.Post (S : Nat → Prop) (w : World) (out : Str × Int) (v : Value) (w' : World) : Prop := ∃ S', Up [] S w S' w' ∧ v = .tuple [bs out.1, .int .i64 out.2].toArray
def roadref5_ChoiceText.Spec (F : (List T_Choice) → Option (Str × Int)) : Prop := ∀ {S : Nat → Prop} {w : World} (_ : ∀ b, S b → b < w.heap.size) (_ : Vars Tryd.prog S w) (a0 : List T_Choice) (v0_0 : Value) (_ : RdL e_T_Choice 3 S w v0_0 a0) {out : Str × Int}, F a0 = some out → Calls Tryd.prog 5 [v0_0].toArray w (Rets (roadref5_ChoiceText.Post S w out))
def roadref5_ChoiceText (a0 : List T_Choice) : Option (Str × Int) := (roadref5_ChoiceText.l1 a0 0 []).bind (retOr fun b322 => some (b322, 0))
set_option maxRecDepth 100000 in
theorem roadref5_ChoiceText_ok : roadref5_ChoiceText.Spec (roadref5_ChoiceText ) := by
  intro S0 w0 hS0 hV0 a0 v0_0 h0_0 out hp
  have hU0 := Up.refl hS0
  refine calls_of_G (nt := 68) Tryd.func5 rfl Tryd.ntmps5 rfl ?_ hp
  unfold roadref5_ChoiceText
  refine G.seq fun K1 hK2 => ?_
  refine G.region ?_
  refine G.assign (v := bs []) rfl rfl ?_
  refine G.assign (v := .int .i64 0) rfl rfl ?_
  refine G.nil ?_
  refine G.keep_ (L' := [(0, v0_0)]) (is := [0]) rfl ?_
  refine G.next_ hK2 ?_
  refine G.seq fun K3 hK4 => ?_
  refine G.region ?_
  refine G.assign (v := bs []) rfl rfl ?_
  refine G.nil ?_
  refine G.keep_ (L' := [(0, v0_0), (4, bs [])]) (is := [0, 4]) rfl ?_
  refine G.next_ hK4 ?_
  refine G.seq fun K5 hK6 => ?_
  refine G.seq fun K7 hK8 => ?_
  refine G.region ?_
  refine G.move (v := v0_0) rfl rfl ?_
  refine G.len_rd rfl rfl Tryd.runUnderlying22 h0_0 ?_
  refine G.move (v := .int .i64 0) rfl rfl ?_
  refine G.nil ?_
  refine G.keep_ (L' := [(4, bs []), (7, v0_0), (8, .int .i64 (a0.length : Int)), (9, .int .i64 0)]) (is := [4, 7, 8, 9]) rfl ?_
  refine G.next_ hK8 ?_
  refine G.join (E := fun o a w' => ∃ b, o = .inr b ∧ ∃ (S_ : Nat → Prop), Fr 68 [(4, bs b)] a ∧ Up [] S0 w0 S_ w') ?_ ?_
  · intro b hF9
    refine G.block ?_
    refine G.keep_ (L' := [(4, bs []), (7, v0_0), (8, .int .i64 (a0.length : Int)), (9, .int .i64 ((0 : Nat) : Int))]) (is := [4, 7, 8, 9]) rfl ?_
    refine G.loop (fun k a w => ∃ (rest14 : List (T_Choice)) (i12 : Nat) (x11 : Str), k = rest14.length ∧ roadref5_ChoiceText.l1 rest14 i12 x11 = some b ∧ a0.drop i12 = rest14 ∧ ∃ (S_ : Nat → Prop), Fr 68 [(4, bs x11), (7, v0_0), (8, .int .i64 (a0.length : Int)), (9, .int .i64 (i12 : Int))] a ∧ Up [] S0 w0 S_ w) (a0.length) ?_ ?_
    · intro hl321 a ha
      exact ⟨a0, 0, [], rfl, hl321, rfl, _, ha, (Up.refl' hU0.live (in_nil))⟩
    · rintro _ a ww ⟨rest14, i12, x11, rfl, hl10, hd15, hJ⟩
      rcases rest14 with _ | ⟨y13, rest14⟩
      · rw [roadref5_ChoiceText.l1_nil] at hl10
        obtain ⟨w18, rfl⟩ : ∃ x : World, x = ww := ⟨ww, rfl⟩
        obtain ⟨S19, ha17, u20⟩ := hJ
        refine G.use hl10 ha17 ?_
        have hU21 := hU0.trans0 u20
        refine G.seq fun K22 hK23 => ?_
        refine G.region ?_
        refine G.bin (u := .int .i64 (i12 : Int)) (v := .int .i64 (a0.length : Int)) (r := .bool (decide ((i12 : Int) < (a0.length : Int)))) rfl rfl rfl b_lss ?_
        refine G.nil ?_
        refine G.keep_ (L' := [(4, bs x11), (7, v0_0), (8, .int .i64 (a0.length : Int)), (9, .int .i64 (i12 : Int)), (10, .bool (decide ((i12 : Int) < (a0.length : Int))))]) (is := [4, 7, 8, 9, 10]) rfl ?_
        refine G.next_ hK23 ?_
        refine G.seq fun K24 hK25 => ?_
        refine G.no rfl (rng_end hd15) ?_
        refine G.exit ?_
        refine G.thn_exit ?_
        refine G.thn_exit ?_
        refine G.inB_eq ?_
        refine G.keep_ (L' := [(4, bs x11)]) (is := [4]) rfl ?_
        refine G.finE ?_
        rintro rfl a ha
        exact ⟨_, rfl, ⟨_, ha, ((Up.refl' hU0.live (in_nil)).trans0 u20)⟩⟩
      · rw [roadref5_ChoiceText.l1_cons] at hl10
        obtain ⟨w27, rfl⟩ : ∃ x : World, x = ww := ⟨ww, rfl⟩
        obtain ⟨S28, ha26, u29⟩ := hJ
        refine G.use hl10 ha26 ?_
        have hU30 := hU0.trans0 u29
        refine G.seq fun K31 hK32 => ?_
        refine G.region ?_
        refine G.bin (u := .int .i64 (i12 : Int)) (v := .int .i64 (a0.length : Int)) (r := .bool (decide ((i12 : Int) < (a0.length : Int)))) rfl rfl rfl b_lss ?_
        refine G.nil ?_
        refine G.keep_ (L' := [(4, bs x11), (7, v0_0), (8, .int .i64 (a0.length : Int)), (9, .int .i64 (i12 : Int)), (10, .bool (decide ((i12 : Int) < (a0.length : Int))))]) (is := [4, 7, 8, 9, 10]) rfl ?_
        refine G.next_ hK32 ?_
        refine G.seq fun K33 hK34 => ?_
        refine G.yes rfl (rng_more hd15) ?_
        refine G.skip ?_
        refine G.next_ hK34 ?_
        refine G.seq fun K35 hK36 => ?_
        refine G.block ?_
        refine G.seq fun K37 hK38 => ?_
        refine G.region ?_
        refine G.move (v := .int .i64 (i12 : Int)) rfl rfl ?_
        have h39 := h0_0.up u29
        refine G.at_rd (i := i12) (y := y13) rfl rfl rfl Tryd.runUnderlying22 Tryd.sizeOf27 h39 (rng_at hd15) ?_
        intro b40 o41 cs42 hC43 hl44 hR45
        have hR45_ := o_T_Choice hR45; subst hR45_
        refine G.loadN (o := o41) (j := 0) (cs := [.int .i64 y13.fKind, .int .i64 y13.fA, .int .i64 y13.fB]) (c1 := [.int .i64 y13.fKind, .int .i64 y13.fA, .int .i64 y13.fB]) rfl rfl Tryd.isAgg27 Tryd.sizeOf27 hC43 rfl rfl rfl (Nat.le_of_ble_eq_true rfl) ?_
        refine G.alloc (z := .agg [.int .i64 0, .int .i64 0, .int .i64 0].toArray) (cs := [.int .i64 0, .int .i64 0, .int .i64 0]) rfl Tryd.zeroValue27 rfl ?_
        intro g46 w47 hg49 le50 hB51
        have u48 := Up.of_le hU30.live le50
        have hU52 := hU30.trans0 u48
        have lt53 := lt_of_block hB51
        have hn55 : ¬ S28 g46 := fun hs => by have := hU30.live _ hs; omega
        refine G.assign (v := .int .i64 (i12 : Int)) rfl rfl ?_
        refine G.store (g := g46) (o := 0) (cs := [.int .i64 0, .int .i64 0, .int .i64 0]) (c1 := [.int .i64 y13.fKind, .int .i64 y13.fA, .int .i64 y13.fB]) (cs' := [.int .i64 y13.fKind, .int .i64 y13.fA, .int .i64 y13.fB]) (v := .agg [.int .i64 y13.fKind, .int .i64 y13.fA, .int .i64 y13.fB].toArray) rfl rfl rfl Tryd.sizeOf27 hB51 (List.forall_mem_cons.2 ⟨rfl, List.forall_mem_cons.2 ⟨rfl, List.forall_mem_cons.2 ⟨rfl, List.forall_mem_nil _⟩⟩⟩) (Nat.le_of_ble_eq_true rfl) rfl ?_
        intro w56 le57 hB58
        have u59 := Up.store hU52.live hn55 le57
        have hU60 := hU52.trans u59 (in_one (.inr (by have := hU30.le.size; have := hg49; omega)))
        refine G.nil ?_
        refine G.keep_ (L' := [(4, bs x11), (5, .int .i64 (i12 : Int)), (6, .pointer (some ⟨g46, 0, none⟩)), (7, v0_0), (8, .int .i64 (a0.length : Int)), (9, .int .i64 (i12 : Int))]) (is := [4, 5, 6, 7, 8, 9]) rfl ?_
        refine G.next_ hK38 ?_
        refine G.seq fun K61 hK62 => ?_
        refine G.seq fun K63 hK64 => ?_
        refine G.region ?_
        refine G.fieldAddr (o' := 0) rfl rfl Tryd.runUnderlying27 rfl Tryd.sizeOf3 rfl ?_
        refine G.load1 (o := 0) (j := 0) (cs := [.int .i64 y13.fKind, .int .i64 y13.fA, .int .i64 y13.fB]) (v := .int .i64 y13.fKind) rfl rfl Tryd.isAgg3 (Cs.of_block hB58) rfl rfl ?_
        refine G.bin (u := .int .i64 y13.fKind) (v := .int .i64 1) (r := .bool (decide (y13.fKind < 1))) rfl rfl rfl b_lss ?_
        refine G.move (v := .bool (decide (y13.fKind < 1))) rfl rfl ?_
        refine G.cut 4 (fun a w' => w56 = w' ∧ Fr 68 [(4, bs x11), (5, .int .i64 (i12 : Int)), (6, .pointer (some ⟨g46, 0, none⟩)), (7, v0_0), (8, .int .i64 (a0.length : Int)), (9, .int .i64 (i12 : Int)), (21, .bool ((decide (y13.fKind < 1)) || (decide (y13.fKind > 3))))] a) ?_ ?_
        · refine G.byb (c := (decide (y13.fKind < 1))) (fun hc65 => ?_) (fun hc65 => ?_)
          · refine G.skip_s rfl rfl hc65 rfl ?_
            refine G.skip_s rfl rfl hc65 rfl ?_
            refine G.skip_s rfl rfl hc65 rfl ?_
            refine G.pick_yes (u := .bool true) rfl rfl hc65 rfl ?_
            refine G.recast (or_yes (x := (decide (y13.fKind > 3))) hc65) ?_
            refine G.nil ?_
            refine G.keep_ (L' := [(4, bs x11), (5, .int .i64 (i12 : Int)), (6, .pointer (some ⟨g46, 0, none⟩)), (7, v0_0), (8, .int .i64 (a0.length : Int)), (9, .int .i64 (i12 : Int)), (21, .bool ((decide (y13.fKind < 1)) || (decide (y13.fKind > 3))))]) (is := [4, 5, 6, 7, 8, 9, 21]) rfl ?_
            exact G.finE fun _ a ha => ⟨rfl, ha⟩
          · refine G.guard_yes rfl rfl hc65 ?_
            refine G.fieldAddr (o' := 0) rfl rfl Tryd.runUnderlying27 rfl Tryd.sizeOf3 rfl ?_
            refine G.guard_yes rfl rfl hc65 ?_
            refine G.load1 (o := 0) (j := 0) (cs := [.int .i64 y13.fKind, .int .i64 y13.fA, .int .i64 y13.fB]) (v := .int .i64 y13.fKind) rfl rfl Tryd.isAgg3 (Cs.of_block hB58) rfl rfl ?_
            refine G.guard_yes rfl rfl hc65 ?_
            refine G.bin (u := .int .i64 y13.fKind) (v := .int .i64 3) (r := .bool (decide (y13.fKind > 3))) rfl rfl rfl b_gtr ?_
            refine G.pick_no (u := .bool (decide (y13.fKind > 3))) rfl rfl hc65 rfl ?_
            refine G.recast (or_no (x := (decide (y13.fKind > 3))) hc65) ?_
            refine G.nil ?_
            refine G.keep_ (L' := [(4, bs x11), (5, .int .i64 (i12 : Int)), (6, .pointer (some ⟨g46, 0, none⟩)), (7, v0_0), (8, .int .i64 (a0.length : Int)), (9, .int .i64 (i12 : Int)), (21, .bool ((decide (y13.fKind < 1)) || (decide (y13.fKind > 3))))]) (is := [4, 5, 6, 7, 8, 9, 21]) rfl ?_
            exact G.finE fun _ a ha => ⟨rfl, ha⟩
        · rintro a _ ⟨rfl, ha⟩ hF
          refine G.use hF ha ?_
          refine G.move (v := .bool ((decide (y13.fKind < 1)) || (decide (y13.fKind > 3)))) rfl rfl ?_
          refine G.cut 4 (fun a w' => w56 = w' ∧ Fr 68 [(4, bs x11), (5, .int .i64 (i12 : Int)), (6, .pointer (some ⟨g46, 0, none⟩)), (7, v0_0), (8, .int .i64 (a0.length : Int)), (9, .int .i64 (i12 : Int)), (26, .bool (((decide (y13.fKind < 1)) || (decide (y13.fKind > 3))) || (decide (y13.fA < 0))))] a) ?_ ?_
          · refine G.byb (c := ((decide (y13.fKind < 1)) || (decide (y13.fKind > 3)))) (fun hc66 => ?_) (fun hc66 => ?_)
            · refine G.skip_s rfl rfl hc66 rfl ?_
              refine G.skip_s rfl rfl hc66 rfl ?_
              refine G.skip_s rfl rfl hc66 rfl ?_
              refine G.pick_yes (u := .bool true) rfl rfl hc66 rfl ?_
              refine G.recast (or_yes (x := (decide (y13.fA < 0))) hc66) ?_
              refine G.nil ?_
              refine G.keep_ (L' := [(4, bs x11), (5, .int .i64 (i12 : Int)), (6, .pointer (some ⟨g46, 0, none⟩)), (7, v0_0), (8, .int .i64 (a0.length : Int)), (9, .int .i64 (i12 : Int)), (26, .bool (((decide (y13.fKind < 1)) || (decide (y13.fKind > 3))) || (decide (y13.fA < 0))))]) (is := [4, 5, 6, 7, 8, 9, 26]) rfl ?_
              exact G.finE fun _ a ha => ⟨rfl, ha⟩
            · refine G.guard_yes rfl rfl hc66 ?_
              refine G.fieldAddr (o' := 1) rfl rfl Tryd.runUnderlying27 rfl Tryd.sizeOf3 rfl ?_
              refine G.guard_yes rfl rfl hc66 ?_
              refine G.load1 (o := 0) (j := 1) (cs := [.int .i64 y13.fKind, .int .i64 y13.fA, .int .i64 y13.fB]) (v := .int .i64 y13.fA) rfl rfl Tryd.isAgg3 (Cs.of_block hB58) rfl rfl ?_
              refine G.guard_yes rfl rfl hc66 ?_
              refine G.bin (u := .int .i64 y13.fA) (v := .int .i64 0) (r := .bool (decide (y13.fA < 0))) rfl rfl rfl b_lss ?_
              refine G.pick_no (u := .bool (decide (y13.fA < 0))) rfl rfl hc66 rfl ?_
              refine G.recast (or_no (x := (decide (y13.fA < 0))) hc66) ?_
              refine G.nil ?_
              refine G.keep_ (L' := [(4, bs x11), (5, .int .i64 (i12 : Int)), (6, .pointer (some ⟨g46, 0, none⟩)), (7, v0_0), (8, .int .i64 (a0.length : Int)), (9, .int .i64 (i12 : Int)), (26, .bool (((decide (y13.fKind < 1)) || (decide (y13.fKind > 3))) || (decide (y13.fA < 0))))]) (is := [4, 5, 6, 7, 8, 9, 26]) rfl ?_
              exact G.finE fun _ a ha => ⟨rfl, ha⟩
          · rintro a _ ⟨rfl, ha⟩ hF
            refine G.use hF ha ?_
            refine G.move (v := .bool (((decide (y13.fKind < 1)) || (decide (y13.fKind > 3))) || (decide (y13.fA < 0)))) rfl rfl ?_
            refine G.cut 4 (fun a w' => w56 = w' ∧ Fr 68 [(4, bs x11), (5, .int .i64 (i12 : Int)), (6, .pointer (some ⟨g46, 0, none⟩)), (7, v0_0), (8, .int .i64 (a0.length : Int)), (9, .int .i64 (i12 : Int)), (31, .bool ((((decide (y13.fKind < 1)) || (decide (y13.fKind > 3))) || (decide (y13.fA < 0))) || (decide (y13.fB < 0))))] a) ?_ ?_
            · refine G.byb (c := (((decide (y13.fKind < 1)) || (decide (y13.fKind > 3))) || (decide (y13.fA < 0)))) (fun hc67 => ?_) (fun hc67 => ?_)
              · refine G.skip_s rfl rfl hc67 rfl ?_
                refine G.skip_s rfl rfl hc67 rfl ?_
                refine G.skip_s rfl rfl hc67 rfl ?_
                refine G.pick_yes (u := .bool true) rfl rfl hc67 rfl ?_
                refine G.recast (or_yes (x := (decide (y13.fB < 0))) hc67) ?_
                refine G.nil ?_
                refine G.keep_ (L' := [(4, bs x11), (5, .int .i64 (i12 : Int)), (6, .pointer (some ⟨g46, 0, none⟩)), (7, v0_0), (8, .int .i64 (a0.length : Int)), (9, .int .i64 (i12 : Int)), (31, .bool ((((decide (y13.fKind < 1)) || (decide (y13.fKind > 3))) || (decide (y13.fA < 0))) || (decide (y13.fB < 0))))]) (is := [4, 5, 6, 7, 8, 9, 31]) rfl ?_
                exact G.finE fun _ a ha => ⟨rfl, ha⟩
              · refine G.guard_yes rfl rfl hc67 ?_
                refine G.fieldAddr (o' := 2) rfl rfl Tryd.runUnderlying27 rfl Tryd.sizeOf3 rfl ?_
                refine G.guard_yes rfl rfl hc67 ?_
                refine G.load1 (o := 0) (j := 2) (cs := [.int .i64 y13.fKind, .int .i64 y13.fA, .int .i64 y13.fB]) (v := .int .i64 y13.fB) rfl rfl Tryd.isAgg3 (Cs.of_block hB58) rfl rfl ?_
                refine G.guard_yes rfl rfl hc67 ?_
                refine G.bin (u := .int .i64 y13.fB) (v := .int .i64 0) (r := .bool (decide (y13.fB < 0))) rfl rfl rfl b_lss ?_
                refine G.pick_no (u := .bool (decide (y13.fB < 0))) rfl rfl hc67 rfl ?_
                refine G.recast (or_no (x := (decide (y13.fB < 0))) hc67) ?_
                refine G.nil ?_
                refine G.keep_ (L' := [(4, bs x11), (5, .int .i64 (i12 : Int)), (6, .pointer (some ⟨g46, 0, none⟩)), (7, v0_0), (8, .int .i64 (a0.length : Int)), (9, .int .i64 (i12 : Int)), (31, .bool ((((decide (y13.fKind < 1)) || (decide (y13.fKind > 3))) || (decide (y13.fA < 0))) || (decide (y13.fB < 0))))]) (is := [4, 5, 6, 7, 8, 9, 31]) rfl ?_
                exact G.finE fun _ a ha => ⟨rfl, ha⟩
            · rintro a _ ⟨rfl, ha⟩ hF
              refine G.use hF ha ?_
              refine G.move (v := .bool ((((decide (y13.fKind < 1)) || (decide (y13.fKind > 3))) || (decide (y13.fA < 0))) || (decide (y13.fB < 0)))) rfl rfl ?_
              refine G.cut 9 (fun a w' => w56 = w' ∧ Fr 68 [(4, bs x11), (5, .int .i64 (i12 : Int)), (6, .pointer (some ⟨g46, 0, none⟩)), (7, v0_0), (8, .int .i64 (a0.length : Int)), (9, .int .i64 (i12 : Int)), (41, .bool (((((decide (y13.fKind < 1)) || (decide (y13.fKind > 3))) || (decide (y13.fA < 0))) || (decide (y13.fB < 0))) || ((y13.fB != 0) && (y13.fKind != 2))))] a) ?_ ?_
              · refine G.byb (c := ((((decide (y13.fKind < 1)) || (decide (y13.fKind > 3))) || (decide (y13.fA < 0))) || (decide (y13.fB < 0)))) (fun hc68 => ?_) (fun hc68 => ?_)
                · refine G.skip_s rfl rfl hc68 rfl ?_
                  refine G.skip_s rfl rfl hc68 rfl ?_
                  refine G.skip_s rfl rfl hc68 rfl ?_
                  refine G.skip_s rfl rfl hc68 rfl ?_
                  refine G.skip_u rfl rfl rfl ?_
                  refine G.skip_u rfl rfl rfl ?_
                  refine G.skip_u rfl rfl rfl ?_
                  refine G.skip_s rfl rfl hc68 rfl ?_
                  refine G.pick_yes (u := .bool true) rfl rfl hc68 rfl ?_
                  refine G.recast (or_yes (x := ((y13.fB != 0) && (y13.fKind != 2))) hc68) ?_
                  refine G.nil ?_
                  refine G.keep_ (L' := [(4, bs x11), (5, .int .i64 (i12 : Int)), (6, .pointer (some ⟨g46, 0, none⟩)), (7, v0_0), (8, .int .i64 (a0.length : Int)), (9, .int .i64 (i12 : Int)), (41, .bool (((((decide (y13.fKind < 1)) || (decide (y13.fKind > 3))) || (decide (y13.fA < 0))) || (decide (y13.fB < 0))) || ((y13.fB != 0) && (y13.fKind != 2))))]) (is := [4, 5, 6, 7, 8, 9, 41]) rfl ?_
                  exact G.finE fun _ a ha => ⟨rfl, ha⟩
                · refine G.guard_yes rfl rfl hc68 ?_
                  refine G.fieldAddr (o' := 2) rfl rfl Tryd.runUnderlying27 rfl Tryd.sizeOf3 rfl ?_
                  refine G.guard_yes rfl rfl hc68 ?_
                  refine G.load1 (o := 0) (j := 2) (cs := [.int .i64 y13.fKind, .int .i64 y13.fA, .int .i64 y13.fB]) (v := .int .i64 y13.fB) rfl rfl Tryd.isAgg3 (Cs.of_block hB58) rfl rfl ?_
                  refine G.guard_yes rfl rfl hc68 ?_
                  refine G.bin (u := .int .i64 y13.fB) (v := .int .i64 0) (r := .bool (y13.fB != 0)) rfl rfl rfl b_neq ?_
                  refine G.guard_yes rfl rfl hc68 ?_
                  refine G.move (v := .bool (y13.fB != 0)) rfl rfl ?_
                  refine G.cut 4 (fun a w' => w56 = w' ∧ Fr 68 [(4, bs x11), (5, .int .i64 (i12 : Int)), (6, .pointer (some ⟨g46, 0, none⟩)), (7, v0_0), (8, .int .i64 (a0.length : Int)), (9, .int .i64 (i12 : Int)), (32, .bool ((((decide (y13.fKind < 1)) || (decide (y13.fKind > 3))) || (decide (y13.fA < 0))) || (decide (y13.fB < 0)))), (40, .bool ((y13.fB != 0) && (y13.fKind != 2)))] a) ?_ ?_
                  · refine G.byb (c := (y13.fB != 0)) (fun hc69 => ?_) (fun hc69 => ?_)
                    · refine G.guard_yes rfl rfl hc69 ?_
                      refine G.fieldAddr (o' := 0) rfl rfl Tryd.runUnderlying27 rfl Tryd.sizeOf3 rfl ?_
                      refine G.guard_yes rfl rfl hc69 ?_
                      refine G.load1 (o := 0) (j := 0) (cs := [.int .i64 y13.fKind, .int .i64 y13.fA, .int .i64 y13.fB]) (v := .int .i64 y13.fKind) rfl rfl Tryd.isAgg3 (Cs.of_block hB58) rfl rfl ?_
                      refine G.guard_yes rfl rfl hc69 ?_
                      refine G.bin (u := .int .i64 y13.fKind) (v := .int .i64 2) (r := .bool (y13.fKind != 2)) rfl rfl rfl b_neq ?_
                      refine G.guard_yes rfl rfl hc68 ?_
                      refine G.pick_yes (u := .bool (y13.fKind != 2)) rfl rfl hc69 rfl ?_
                      refine G.recast (and_yes (x := (y13.fKind != 2)) hc69) ?_
                      refine G.nil ?_
                      refine G.keep_ (L' := [(4, bs x11), (5, .int .i64 (i12 : Int)), (6, .pointer (some ⟨g46, 0, none⟩)), (7, v0_0), (8, .int .i64 (a0.length : Int)), (9, .int .i64 (i12 : Int)), (32, .bool ((((decide (y13.fKind < 1)) || (decide (y13.fKind > 3))) || (decide (y13.fA < 0))) || (decide (y13.fB < 0)))), (40, .bool ((y13.fB != 0) && (y13.fKind != 2)))]) (is := [4, 5, 6, 7, 8, 9, 32, 40]) rfl ?_
                      exact G.finE fun _ a ha => ⟨rfl, ha⟩
                    · refine G.skip_s rfl rfl hc69 rfl ?_
                      refine G.skip_s rfl rfl hc69 rfl ?_
                      refine G.skip_s rfl rfl hc69 rfl ?_
                      refine G.guard_yes rfl rfl hc68 ?_
                      refine G.pick_no (u := .bool false) rfl rfl hc69 rfl ?_
                      refine G.recast (and_no (x := (y13.fKind != 2)) hc69) ?_
                      refine G.nil ?_
                      refine G.keep_ (L' := [(4, bs x11), (5, .int .i64 (i12 : Int)), (6, .pointer (some ⟨g46, 0, none⟩)), (7, v0_0), (8, .int .i64 (a0.length : Int)), (9, .int .i64 (i12 : Int)), (32, .bool ((((decide (y13.fKind < 1)) || (decide (y13.fKind > 3))) || (decide (y13.fA < 0))) || (decide (y13.fB < 0)))), (40, .bool ((y13.fB != 0) && (y13.fKind != 2)))]) (is := [4, 5, 6, 7, 8, 9, 32, 40]) rfl ?_
                      exact G.finE fun _ a ha => ⟨rfl, ha⟩
                  · rintro a _ ⟨rfl, ha⟩ hF
                    refine G.use hF ha ?_
                    refine G.pick_no (u := .bool ((y13.fB != 0) && (y13.fKind != 2))) rfl rfl hc68 rfl ?_
                    refine G.recast (or_no (x := ((y13.fB != 0) && (y13.fKind != 2))) hc68) ?_
                    refine G.nil ?_
                    refine G.keep_ (L' := [(4, bs x11), (5, .int .i64 (i12 : Int)), (6, .pointer (some ⟨g46, 0, none⟩)), (7, v0_0), (8, .int .i64 (a0.length : Int)), (9, .int .i64 (i12 : Int)), (41, .bool (((((decide (y13.fKind < 1)) || (decide (y13.fKind > 3))) || (decide (y13.fA < 0))) || (decide (y13.fB < 0))) || ((y13.fB != 0) && (y13.fKind != 2))))]) (is := [4, 5, 6, 7, 8, 9, 41]) rfl ?_
                    exact G.finE fun _ a ha => ⟨rfl, ha⟩
              · rintro a _ ⟨rfl, ha⟩ hF
                refine G.use hF ha ?_
                refine G.nil ?_
                refine G.keep_ (L' := [(4, bs x11), (5, .int .i64 (i12 : Int)), (6, .pointer (some ⟨g46, 0, none⟩)), (7, v0_0), (8, .int .i64 (a0.length : Int)), (9, .int .i64 (i12 : Int)), (41, .bool (((((decide (y13.fKind < 1)) || (decide (y13.fKind > 3))) || (decide (y13.fA < 0))) || (decide (y13.fB < 0))) || ((y13.fB != 0) && (y13.fKind != 2))))]) (is := [4, 5, 6, 7, 8, 9, 41]) rfl ?_
                refine G.next_ hK64 ?_
                refine G.cond (b := (((((decide (y13.fKind < 1)) || (decide (y13.fKind > 3))) || (decide (y13.fA < 0))) || (decide (y13.fB < 0))) || ((y13.fB != 0) && (y13.fKind != 2)))) rfl (fun hc70 => ?_) (fun hc70 => ?_)
                · refine G.keep_ (L' := []) (is := []) rfl ?_
                  refine G.seq fun K71 hK72 => ?_
                  refine G.region ?_
                  refine G.assign (v := bs []) rfl rfl ?_
                  refine G.assign (v := .int .i64 3) rfl rfl ?_
                  refine G.nil ?_
                  refine G.keep_ (L' := [(2, bs []), (3, .int .i64 3)]) (is := [2, 3]) rfl ?_
                  refine G.next_ hK72 ?_
                  refine G.ret ?_
                  refine G.thn_ret ?_
                  refine G.inB_ret ?_
                  refine G.thn_ret ?_
                  refine G.thn_ret ?_
                  refine G.inB_ret ?_
                  refine G.thn_ret ?_
                  refine G.thn_ret ?_
                  refine G.ret2 (v := bs []) (v' := .int .i64 3) Tryd.results5 rfl rfl (fun hF73 => ?_)
                  have hb74 := Option.some.inj hF73
                  subst hb74
                  have hF75 : (some ([], 3) : Option (Str × Int)) = some _ := hF9
                  obtain rfl := Option.some.inj hF75
                  exact ⟨_, hU60, rfl⟩
                · refine G.keep_ (L' := [(4, bs x11), (5, .int .i64 (i12 : Int)), (6, .pointer (some ⟨g46, 0, none⟩)), (7, v0_0), (8, .int .i64 (a0.length : Int)), (9, .int .i64 (i12 : Int))]) (is := [4, 5, 6, 7, 8, 9]) rfl ?_
                  refine G.skip ?_
                  refine G.next_ hK62 ?_
                  refine G.seq fun K76 hK77 => ?_
                  refine G.seq fun K78 hK79 => ?_
                  refine G.region ?_
                  refine G.move (v := .int .i64 (i12 : Int)) rfl rfl ?_
                  refine G.bin (u := .int .i64 (i12 : Int)) (v := .int .i64 0) (r := .bool (decide ((i12 : Int) > 0))) rfl rfl rfl b_gtr ?_
                  refine G.nil ?_
                  refine G.keep_ (L' := [(4, bs x11), (6, .pointer (some ⟨g46, 0, none⟩)), (7, v0_0), (8, .int .i64 (a0.length : Int)), (9, .int .i64 (i12 : Int)), (43, .bool (decide ((i12 : Int) > 0)))]) (is := [4, 6, 7, 8, 9, 43]) rfl ?_
                  refine G.next_ hK79 ?_
                  have hn80 := fun hs => hn55 (u59.old g46 (by have := lt53; omega) hs)
                  refine G.join (E := fun b a w' => Fr 68 [(4, bs b), (6, .pointer (some ⟨g46, 0, none⟩)), (7, v0_0), (8, .int .i64 (a0.length : Int)), (9, .int .i64 (i12 : Int))] a ∧ w56 = w') ?_ ?_
                  · intro b hF81
                    refine G.cond (b := (decide ((i12 : Int) > 0))) rfl (fun hc82 => ?_) (fun hc82 => ?_)
                    · refine G.keep_ (L' := [(4, bs x11), (6, .pointer (some ⟨g46, 0, none⟩)), (7, v0_0), (8, .int .i64 (a0.length : Int)), (9, .int .i64 (i12 : Int))]) (is := [4, 6, 7, 8, 9]) rfl ?_
                      refine G.region ?_
                      refine G.move (v := bs x11) rfl rfl ?_
                      refine G.cat (a := x11) (b := ([32] : Str)) rfl rfl rfl ?_
                      intro s83 hs84
                      refine G.assign (v := bs s83) rfl rfl ?_
                      refine G.nil ?_
                      refine G.keep_ (L' := [(4, bs s83), (6, .pointer (some ⟨g46, 0, none⟩)), (7, v0_0), (8, .int .i64 (a0.length : Int)), (9, .int .i64 (i12 : Int))]) (is := [4, 6, 7, 8, 9]) rfl ?_
                      refine G.keep_ (L' := [(4, bs s83), (6, .pointer (some ⟨g46, 0, none⟩)), (7, v0_0), (8, .int .i64 (a0.length : Int)), (9, .int .i64 (i12 : Int))]) (is := [4, 6, 7, 8, 9]) rfl ?_
                      refine G.finE ?_
                      rintro rfl a ha
                      exact ⟨ha, rfl⟩
                    · refine G.keep_ (L' := [(4, bs x11), (6, .pointer (some ⟨g46, 0, none⟩)), (7, v0_0), (8, .int .i64 (a0.length : Int)), (9, .int .i64 (i12 : Int))]) (is := [4, 6, 7, 8, 9]) rfl ?_
                      refine G.skip ?_
                      refine G.keep_ (L' := [(4, bs x11), (6, .pointer (some ⟨g46, 0, none⟩)), (7, v0_0), (8, .int .i64 (a0.length : Int)), (9, .int .i64 (i12 : Int))]) (is := [4, 6, 7, 8, 9]) rfl ?_
                      refine G.finE ?_
                      rintro rfl a ha
                      exact ⟨ha, rfl⟩
                  · rintro b85 hb319 a _ ⟨ha86, rfl⟩ hF320
                    refine G.use hF320 ha86 ?_
                    refine G.next_ hK77 ?_
                    refine G.seq fun K90 hK91 => ?_
                    refine G.bind fun y105 hq118 => ?_
                    refine G.bind fun r107 hq119 => ?_
                    refine G.bind fun s114 hq120 => ?_
                    refine G.bind fun s116 hq121 => ?_
                    refine G.cutc (fun a w' => ∃ (S_ : Nat → Prop), Fr 68 [(4, bs s116), (6, .pointer (some ⟨g46, 0, none⟩)), (7, v0_0), (8, .int .i64 (a0.length : Int)), (9, .int .i64 (i12 : Int))] a ∧ Up [] S28 w56 S_ w') ?_ ?_
                    · refine G.draw [] mixed 12 rfl ?_
                      intro w209 le210
                      have u211 := Up.of_le hU60.live le210
                      have hU212 := hU60.trans0 u211
                      have h213 := h39.up u48
                      have h214 := h213.up u59
                      have h215 := h214.up u211
                      have hB216 := u211.le.kept0 hB58
                      refine GH.take 0 rfl rfl (by kernel_rfl) (by kernel_rfl) (by kernel_rfl) (Q.move rfl) (Le.refl [] _) (fun _ _ _ h => h) ?_
                      refine GH.take 2 rfl rfl (by kernel_rfl) (by kernel_rfl) (by kernel_rfl) (Q.fieldAddr (o' := 0) rfl Tryd.runUnderlying27 rfl Tryd.sizeOf3 rfl) (Le.refl [] _) (fun _ _ _ h => h) ?_
                      refine GH.take 3 rfl rfl (by kernel_rfl) (by kernel_rfl) (by kernel_rfl) (Q.load1 (o := 0) (j := 0) (cs := [.int .i64 y13.fKind, .int .i64 y13.fA, .int .i64 y13.fB]) (v := .int .i64 y13.fKind) rfl Tryd.isAgg3 (Cs.of_block hB216) List.not_mem_nil rfl rfl) (Le.refl [] _) (fun _ _ _ h => h) ?_
                      refine GH.take 6 rfl rfl (by kernel_rfl) (by kernel_rfl) (by kernel_rfl) (Q.fieldAddr (o' := 1) rfl Tryd.runUnderlying27 rfl Tryd.sizeOf3 rfl) (Le.refl [] _) (fun _ _ _ h => h) ?_
                      refine GH.take 7 rfl rfl (by kernel_rfl) (by kernel_rfl) (by kernel_rfl) (Q.load1 (o := 0) (j := 1) (cs := [.int .i64 y13.fKind, .int .i64 y13.fA, .int .i64 y13.fB]) (v := .int .i64 y13.fA) rfl Tryd.isAgg3 (Cs.of_block hB216) List.not_mem_nil rfl rfl) (Le.refl [] _) (fun _ _ _ h => h) ?_
                      refine GH.all [1, 8] (by kernel_rfl) (by decide) ?_
                      refine all_cons ?_ (all_cons ?_ (List.forall_mem_nil _))
                      · refine GH.run rfl rfl ?_
                        refine W.buildSlice (ys := ([[], [103], [99], [108]] : List Str)) (xs := [_, _, _, _]) (vs := [bs [], bs [103], bs [99], bs [108]]) (cs := [bs [], bs [103], bs [99], bs [108]]) rfl elt32 rfl rfl rfl (by decide) rfl (List.forall_mem_cons.2 ⟨rfl, List.forall_mem_cons.2 ⟨rfl, List.forall_mem_cons.2 ⟨rfl, List.forall_mem_cons.2 ⟨rfl, List.forall_mem_nil _⟩⟩⟩⟩) (rfl) (RdX.append (RdX.one (enc := eS) (x := []) (Rd.val_iff.2 rfl) rfl) (RdX.append (RdX.one (enc := eS) (x := [103]) (Rd.val_iff.2 rfl) rfl) (RdX.append (RdX.one (enc := eS) (x := [99]) (Rd.val_iff.2 rfl) rfl) (RdX.one (enc := eS) (x := [108]) (Rd.val_iff.2 rfl) rfl)))) hU212.le.size hU212.live ?_
                        intro v217 w218 u219 h220 hw221
                        have hU222 := hU212.trans0 u219
                        have le223 := ((Le.refl [] _).trans0 u219.le)
                        refine GH.and le223 ?_
                        refine GH.all [4, 8] (by kernel_rfl) (by decide) ?_
                        refine all_cons ?_ (all_cons ?_ (List.forall_mem_nil _))
                        · refine GH.run rfl rfl ?_
                          refine W.nth_own (i := y13.fKind) (y := y105) rfl rfl rfl Tryd.runUnderlying32 Tryd.sizeOf9 h220 hq118 ?_
                          intro b224 o225 cs226 hC227 hl228 hR229
                          have hR229_ := Rd.val_iff.1 hR229; subst hR229_
                          have le232 := le223
                          refine GH.and le232 ?_
                          refine GH.all [5, 8] (by kernel_rfl) (by decide) ?_
                          refine all_cons ?_ (all_cons ?_ (List.forall_mem_nil _))
                          · refine GH.run rfl rfl ?_
                            refine W.load1 (o := o225) (j := 0) (cs := [bs y105]) (v := bs y105) rfl rfl Tryd.isAgg9 hC227 rfl rfl ?_
                            have le233 := le232
                            refine GH.and le233 ?_
                            refine GH.all [8] (by kernel_rfl) (by decide) ?_
                            refine all_cons ?_ (List.forall_mem_nil _)
                            refine GH.run rfl rfl ?_
                            have hc236 := strconv_Itoa_ok hU222.live (hV0.up hU222) y13.fA hq119
                            refine W.call (R := strconv_Itoa.Post S28 w218 r107) (vs := [.int .i64 y13.fA]) rfl rfl Tryd.call9 ?_ ?_
                            · exact hc236
                            rintro _ w238 ⟨S237, u239, rfl⟩
                            have hU240 := hU222.trans0 u239
                            have le241 := (le233.trans0 u239.le)
                            refine GH.and le241 ?_
                            refine GH.take 9 rfl rfl (by kernel_rfl) (by kernel_rfl) (by kernel_rfl) (Q.cat rfl rfl hq120) le241 (fun _ _ _ h => h) ?_
                            refine GH.take 10 rfl rfl (by kernel_rfl) (by kernel_rfl) (by kernel_rfl) (Q.cat rfl rfl hq121) le241 (fun _ _ _ h => h) ?_
                            refine GH.take 11 rfl rfl (by kernel_rfl) (by kernel_rfl) (by kernel_rfl) (Q.assign rfl) le241 (fun _ _ _ h => h) ?_
                            refine GH.done (by kernel_rfl) ?_
                            refine G.keep_ (L' := [(4, bs s116), (6, .pointer (some ⟨g46, 0, none⟩)), (7, v0_0), (8, .int .i64 (a0.length : Int)), (9, .int .i64 (i12 : Int))]) (is := [4, 6, 7, 8, 9]) rfl ?_
                            refine G.finE ?_
                            rintro _ a ha
                            exact ⟨_, ha, ((((Up.refl' hU60.live (in_nil)).trans0 u211).trans0 u219).trans0 u239)⟩
                          · refine GH.run rfl rfl ?_
                            have hc244 := strconv_Itoa_ok hU222.live (hV0.up hU222) y13.fA hq119
                            refine W.call (R := strconv_Itoa.Post S28 w218 r107) (vs := [.int .i64 y13.fA]) rfl rfl Tryd.call9 ?_ ?_
                            · exact hc244
                            rintro _ w246 ⟨S245, u247, rfl⟩
                            have hU248 := hU222.trans0 u247
                            have le249 := (le232.trans0 u247.le)
                            refine GH.and le249 ?_
                            refine GH.all [5] (by kernel_rfl) (by decide) ?_
                            refine all_cons ?_ (List.forall_mem_nil _)
                            refine GH.run rfl rfl ?_
                            have hC250 := Cs.kept hC227 u247.le List.not_mem_nil
                            refine W.load1 (o := o225) (j := 0) (cs := [bs y105]) (v := bs y105) rfl rfl Tryd.isAgg9 hC250 rfl rfl ?_
                            have le251 := le249
                            refine GH.and le251 ?_
                            refine GH.take 9 rfl rfl (by kernel_rfl) (by kernel_rfl) (by kernel_rfl) (Q.cat rfl rfl hq120) le251 (fun _ _ _ h => h) ?_
                            refine GH.take 10 rfl rfl (by kernel_rfl) (by kernel_rfl) (by kernel_rfl) (Q.cat rfl rfl hq121) le251 (fun _ _ _ h => h) ?_
                            refine GH.take 11 rfl rfl (by kernel_rfl) (by kernel_rfl) (by kernel_rfl) (Q.assign rfl) le251 (fun _ _ _ h => h) ?_
                            refine GH.done (by kernel_rfl) ?_
                            refine G.keep_ (L' := [(4, bs s116), (6, .pointer (some ⟨g46, 0, none⟩)), (7, v0_0), (8, .int .i64 (a0.length : Int)), (9, .int .i64 (i12 : Int))]) (is := [4, 6, 7, 8, 9]) rfl ?_
                            refine G.finE ?_
                            rintro _ a ha
                            exact ⟨_, ha, ((((Up.refl' hU60.live (in_nil)).trans0 u211).trans0 u219).trans0 u247)⟩
                        · refine GH.run rfl rfl ?_
                          have hc254 := strconv_Itoa_ok hU222.live (hV0.up hU222) y13.fA hq119
                          refine W.call (R := strconv_Itoa.Post S28 w218 r107) (vs := [.int .i64 y13.fA]) rfl rfl Tryd.call9 ?_ ?_
                          · exact hc254
                          rintro _ w256 ⟨S255, u257, rfl⟩
                          have hU258 := hU222.trans0 u257
                          have le259 := (le223.trans0 u257.le)
                          refine GH.and le259 ?_
                          refine GH.all [4] (by kernel_rfl) (by decide) ?_
                          refine all_cons ?_ (List.forall_mem_nil _)
                          refine GH.run rfl rfl ?_
                          have h260 := h220.up0 u257
                          refine W.nth_own (i := y13.fKind) (y := y105) rfl rfl rfl Tryd.runUnderlying32 Tryd.sizeOf9 h260 hq118 ?_
                          intro b261 o262 cs263 hC264 hl265 hR266
                          have hR266_ := Rd.val_iff.1 hR266; subst hR266_
                          have le269 := le259
                          refine GH.and le269 ?_
                          refine GH.all [5] (by kernel_rfl) (by decide) ?_
                          refine all_cons ?_ (List.forall_mem_nil _)
                          refine GH.run rfl rfl ?_
                          refine W.load1 (o := o262) (j := 0) (cs := [bs y105]) (v := bs y105) rfl rfl Tryd.isAgg9 hC264 rfl rfl ?_
                          have le270 := le269
                          refine GH.and le270 ?_
                          refine GH.take 9 rfl rfl (by kernel_rfl) (by kernel_rfl) (by kernel_rfl) (Q.cat rfl rfl hq120) le270 (fun _ _ _ h => h) ?_
                          refine GH.take 10 rfl rfl (by kernel_rfl) (by kernel_rfl) (by kernel_rfl) (Q.cat rfl rfl hq121) le270 (fun _ _ _ h => h) ?_
                          refine GH.take 11 rfl rfl (by kernel_rfl) (by kernel_rfl) (by kernel_rfl) (Q.assign rfl) le270 (fun _ _ _ h => h) ?_
                          refine GH.done (by kernel_rfl) ?_
                          refine G.keep_ (L' := [(4, bs s116), (6, .pointer (some ⟨g46, 0, none⟩)), (7, v0_0), (8, .int .i64 (a0.length : Int)), (9, .int .i64 (i12 : Int))]) (is := [4, 6, 7, 8, 9]) rfl ?_
                          refine G.finE ?_
                          rintro _ a ha
                          exact ⟨_, ha, ((((Up.refl' hU60.live (in_nil)).trans0 u211).trans0 u219).trans0 u257)⟩
                      · refine GH.run rfl rfl ?_
                        have hc273 := strconv_Itoa_ok hU212.live (hV0.up hU212) y13.fA hq119
                        refine W.call (R := strconv_Itoa.Post S28 w209 r107) (vs := [.int .i64 y13.fA]) rfl rfl Tryd.call9 ?_ ?_
                        · exact hc273
                        rintro _ w275 ⟨S274, u276, rfl⟩
                        have hU277 := hU212.trans0 u276
                        have le278 := ((Le.refl [] _).trans0 u276.le)
                        refine GH.and le278 ?_
                        refine GH.all [1] (by kernel_rfl) (by decide) ?_
                        refine all_cons ?_ (List.forall_mem_nil _)
                        refine GH.run rfl rfl ?_
                        refine W.buildSlice (ys := ([[], [103], [99], [108]] : List Str)) (xs := [_, _, _, _]) (vs := [bs [], bs [103], bs [99], bs [108]]) (cs := [bs [], bs [103], bs [99], bs [108]]) rfl elt32 rfl rfl rfl (by decide) rfl (List.forall_mem_cons.2 ⟨rfl, List.forall_mem_cons.2 ⟨rfl, List.forall_mem_cons.2 ⟨rfl, List.forall_mem_cons.2 ⟨rfl, List.forall_mem_nil _⟩⟩⟩⟩) (rfl) (RdX.append (RdX.one (enc := eS) (x := []) (Rd.val_iff.2 rfl) rfl) (RdX.append (RdX.one (enc := eS) (x := [103]) (Rd.val_iff.2 rfl) rfl) (RdX.append (RdX.one (enc := eS) (x := [99]) (Rd.val_iff.2 rfl) rfl) (RdX.one (enc := eS) (x := [108]) (Rd.val_iff.2 rfl) rfl)))) hU277.le.size hU277.live ?_
                        intro v279 w280 u281 h282 hw283
                        have hU284 := hU277.trans0 u281
                        have le285 := (le278.trans0 u281.le)
                        refine GH.and le285 ?_
                        refine GH.all [4] (by kernel_rfl) (by decide) ?_
                        refine all_cons ?_ (List.forall_mem_nil _)
                        refine GH.run rfl rfl ?_
                        refine W.nth_own (i := y13.fKind) (y := y105) rfl rfl rfl Tryd.runUnderlying32 Tryd.sizeOf9 h282 hq118 ?_
                        intro b286 o287 cs288 hC289 hl290 hR291
                        have hR291_ := Rd.val_iff.1 hR291; subst hR291_
                        have le294 := le285
                        refine GH.and le294 ?_
                        refine GH.all [5] (by kernel_rfl) (by decide) ?_
                        refine all_cons ?_ (List.forall_mem_nil _)
                        refine GH.run rfl rfl ?_
                        refine W.load1 (o := o287) (j := 0) (cs := [bs y105]) (v := bs y105) rfl rfl Tryd.isAgg9 hC289 rfl rfl ?_
                        have le295 := le294
                        refine GH.and le295 ?_
                        refine GH.take 9 rfl rfl (by kernel_rfl) (by kernel_rfl) (by kernel_rfl) (Q.cat rfl rfl hq120) le295 (fun _ _ _ h => h) ?_
                        refine GH.take 10 rfl rfl (by kernel_rfl) (by kernel_rfl) (by kernel_rfl) (Q.cat rfl rfl hq121) le295 (fun _ _ _ h => h) ?_
                        refine GH.take 11 rfl rfl (by kernel_rfl) (by kernel_rfl) (by kernel_rfl) (Q.assign rfl) le295 (fun _ _ _ h => h) ?_
                        refine GH.done (by kernel_rfl) ?_
                        refine G.keep_ (L' := [(4, bs s116), (6, .pointer (some ⟨g46, 0, none⟩)), (7, v0_0), (8, .int .i64 (a0.length : Int)), (9, .int .i64 (i12 : Int))]) (is := [4, 6, 7, 8, 9]) rfl ?_
                        refine G.finE ?_
                        rintro _ a ha
                        exact ⟨_, ha, ((((Up.refl' hU60.live (in_nil)).trans0 u211).trans0 u276).trans0 u281)⟩
                    · rintro a w297 ⟨S298, ha296, u299⟩ hF318
                      refine G.use hF318 ha296 ?_
                      have hU300 := hU60.trans0 u299
                      refine G.next_ hK91 ?_
                      refine G.seq fun K301 hK302 => ?_
                      refine G.region ?_
                      refine G.fieldAddr (o' := 0) rfl rfl Tryd.runUnderlying27 rfl Tryd.sizeOf3 rfl ?_
                      have hB303 := u299.le.kept0 hB58
                      refine G.load1 (o := 0) (j := 0) (cs := [.int .i64 y13.fKind, .int .i64 y13.fA, .int .i64 y13.fB]) (v := .int .i64 y13.fKind) rfl rfl Tryd.isAgg3 (Cs.of_block hB303) rfl rfl ?_
                      refine G.bin (u := .int .i64 y13.fKind) (v := .int .i64 2) (r := .bool (y13.fKind == 2)) rfl rfl rfl b_eql ?_
                      refine G.nil ?_
                      refine G.keep_ (L' := [(4, bs s116), (6, .pointer (some ⟨g46, 0, none⟩)), (7, v0_0), (8, .int .i64 (a0.length : Int)), (9, .int .i64 (i12 : Int)), (59, .bool (y13.fKind == 2))]) (is := [4, 6, 7, 8, 9, 59]) rfl ?_
                      refine G.next_ hK302 ?_
                      refine G.cond (b := (y13.fKind == 2)) rfl (fun hc304 => ?_) (fun hc304 => ?_)
                      · refine G.keep_ (L' := [(4, bs s116), (6, .pointer (some ⟨g46, 0, none⟩)), (7, v0_0), (8, .int .i64 (a0.length : Int)), (9, .int .i64 (i12 : Int))]) (is := [4, 6, 7, 8, 9]) rfl ?_
                        refine G.region ?_
                        refine G.move (v := bs s116) rfl rfl ?_
                        refine G.fieldAddr (o' := 2) rfl rfl Tryd.runUnderlying27 rfl Tryd.sizeOf3 rfl ?_
                        refine G.load1 (o := 0) (j := 2) (cs := [.int .i64 y13.fKind, .int .i64 y13.fA, .int .i64 y13.fB]) (v := .int .i64 y13.fB) rfl rfl Tryd.isAgg3 (Cs.of_block hB303) rfl rfl ?_
                        refine G.bind fun r305 hr306 => ?_
                        have hc307 := strconv_Itoa_ok hU300.live (hV0.up hU300) y13.fB hr306
                        refine G.call (R := strconv_Itoa.Post S298 w297 r305) (vs := [.int .i64 y13.fB]) rfl rfl Tryd.call9 ?_ ?_
                        · exact hc307
                        rintro _ w309 ⟨S308, u310, rfl⟩
                        have hU311 := hU300.trans0 u310
                        refine G.cat (a := ([45] : Str)) (b := r305) rfl rfl rfl ?_
                        intro s312 hs313
                        refine G.cat (a := s116) (b := s312) rfl rfl rfl ?_
                        intro s314 hs315
                        refine G.assign (v := bs s314) rfl rfl ?_
                        refine G.nil ?_
                        refine G.keep_ (L' := [(4, bs s314), (7, v0_0), (8, .int .i64 (a0.length : Int)), (9, .int .i64 (i12 : Int))]) (is := [4, 7, 8, 9]) rfl ?_
                        refine G.inB ?_
                        refine G.next_ hK36 ?_
                        refine G.region ?_
                        refine G.incr (i := i12) (N := a0.length) rfl rfl rfl (rng_lt hd15) (h0_0.length_le) ?_
                        refine G.move (v := .int .i64 ((i12 + 1 : Nat) : Int)) rfl rfl ?_
                        refine G.nil ?_
                        refine G.keep_ (L' := [(4, bs s314), (7, v0_0), (8, .int .i64 (a0.length : Int)), (9, .int .i64 ((i12 + 1 : Nat) : Int))]) (is := [4, 7, 8, 9]) rfl ?_
                        refine G.keep_ (L' := [(4, bs s314), (7, v0_0), (8, .int .i64 (a0.length : Int)), (9, .int .i64 ((i12 + 1 : Nat) : Int))]) (is := [4, 7, 8, 9]) rfl ?_
                        refine G.again ?_
                        intro hl316 a ha
                        exact ⟨_, Nat.lt_succ_self _, rest14, i12 + 1, s314, rfl, hl316, rng_next hd15, _, ha, ((((((Up.refl' hU0.live (in_nil)).trans0 u29).trans0 u48).trans u59 (in_one (.inr (by have := u29.le.size; have := hg49; omega)))).trans0 u299).trans0 u310)⟩
                      · refine G.keep_ (L' := [(4, bs s116), (7, v0_0), (8, .int .i64 (a0.length : Int)), (9, .int .i64 (i12 : Int))]) (is := [4, 7, 8, 9]) rfl ?_
                        refine G.skip ?_
                        refine G.inB ?_
                        refine G.next_ hK36 ?_
                        refine G.region ?_
                        refine G.incr (i := i12) (N := a0.length) rfl rfl rfl (rng_lt hd15) (h0_0.length_le) ?_
                        refine G.move (v := .int .i64 ((i12 + 1 : Nat) : Int)) rfl rfl ?_
                        refine G.nil ?_
                        refine G.keep_ (L' := [(4, bs s116), (7, v0_0), (8, .int .i64 (a0.length : Int)), (9, .int .i64 ((i12 + 1 : Nat) : Int))]) (is := [4, 7, 8, 9]) rfl ?_
                        refine G.keep_ (L' := [(4, bs s116), (7, v0_0), (8, .int .i64 (a0.length : Int)), (9, .int .i64 ((i12 + 1 : Nat) : Int))]) (is := [4, 7, 8, 9]) rfl ?_
                        refine G.again ?_
                        intro hl317 a ha
                        exact ⟨_, Nat.lt_succ_self _, rest14, i12 + 1, s116, rfl, hl317, rng_next hd15, _, ha, (((((Up.refl' hU0.live (in_nil)).trans0 u29).trans0 u48).trans u59 (in_one (.inr (by have := u29.le.size; have := hg49; omega)))).trans0 u299)⟩
  · rintro _ hb331 a w324 ⟨b322, rfl, S325, ha323, u326⟩ hF332
    refine G.use hF332 ha323 ?_
    refine G.inr ?_
    have hU327 := hU0.trans0 u326
    refine G.next_ hK6 ?_
    refine G.seq fun K328 hK329 => ?_
    refine G.region ?_
    refine G.move (v := bs b322) rfl rfl ?_
    refine G.assign (v := bs b322) rfl rfl ?_
    refine G.assign (v := .int .i64 0) rfl rfl ?_
    refine G.nil ?_
    refine G.keep_ (L' := [(2, bs b322), (3, .int .i64 0)]) (is := [2, 3]) rfl ?_
    refine G.next_ hK329 ?_
    refine G.ret ?_
    refine G.ret2 (v := bs b322) (v' := .int .i64 0) Tryd.results5 rfl rfl (fun hF330 => ?_)
    obtain rfl := Option.some.inj hF330
    exact ⟨_, hU327, rfl⟩
/-! internal/stringslite.Cut -/
def internal_stringslite_Cut.Post (S : Nat → Prop) (w : World) (out : Str × Str × Bool) (v : Value) (w' : World) : Prop := ∃ S', Up [] S w S' w' ∧ v = .tuple [bs out.1, bs out.2.1, .bool out.2.2].toArray
def internal_stringslite_Cut.Spec (F : Str → Str → Option (Str × Str × Bool)) : Prop := ∀ {S : Nat → Prop} {w : World} (_ : ∀ b, S b → b < w.heap.size) (a0 : Str) (a1 : Str) {out : Str × Str × Bool}, F a0 a1 = some out → Calls Tryd.prog 22 [bs a0, bs a1].toArray w (Rets (internal_stringslite_Cut.Post S w out))
def internal_stringslite_Cut (a0 : Str) (a1 : Str) : Option (Str × Str × Bool) := (internal_stringslite_Index a0 a1).bind fun r7 => (if (decide (r7 ≥ 0)) = true then (sub a0 0 r7).bind fun s19 => (sub a0 (addI r7 (a1.length : Int)) (a0.length : Int)).bind fun s21 => some (s19, s21, true) else some (a0, [], false))
set_option maxRecDepth 100000 in
theorem internal_stringslite_Cut_ok : internal_stringslite_Cut.Spec (internal_stringslite_Cut ) := by
  intro S0 w0 hS0 a0 a1 out hp
  have hU0 := Up.refl hS0
  refine calls_of_G (nt := 23) Tryd.func22 rfl Tryd.ntmps22 rfl ?_ hp
  unfold internal_stringslite_Cut
  refine G.seq fun K1 hK2 => ?_
  refine G.region ?_
  refine G.assign (v := bs []) rfl rfl ?_
  refine G.assign (v := bs []) rfl rfl ?_
  refine G.assign (v := .bool false) rfl rfl ?_
  refine G.nil ?_
  refine G.keep_ (L' := [(0, bs a0), (1, bs a1)]) (is := [0, 1]) rfl ?_
  refine G.next_ hK2 ?_
  refine G.seq fun K3 hK4 => ?_
  refine G.seq fun K5 hK6 => ?_
  refine G.region ?_
  refine G.move (v := bs a0) rfl rfl ?_
  refine G.move (v := bs a1) rfl rfl ?_
  refine G.bind fun r7 hr8 => ?_
  have hc9 := internal_stringslite_Index_ok hU0.live a0 a1 hr8
  refine G.call (R := internal_stringslite_Index.Post S0 w0 r7) (vs := [bs a0, bs a1]) rfl rfl Tryd.call25 ?_ ?_
  · exact hc9
  rintro _ w11 ⟨S10, u12, rfl⟩
  have hU13 := hU0.trans0 u12
  refine G.assign (v := .int .i64 r7) rfl rfl ?_
  refine G.nil ?_
  refine G.keep_ (L' := [(0, bs a0), (1, bs a1), (7, .int .i64 r7)]) (is := [0, 1, 7]) rfl ?_
  refine G.next_ hK6 ?_
  refine G.seq fun K14 hK15 => ?_
  refine G.region ?_
  refine G.move (v := .int .i64 r7) rfl rfl ?_
  refine G.bin (u := .int .i64 r7) (v := .int .i64 0) (r := .bool (decide (r7 ≥ 0))) rfl rfl rfl b_geq ?_
  refine G.nil ?_
  refine G.keep_ (L' := [(0, bs a0), (1, bs a1), (7, .int .i64 r7), (12, .bool (decide (r7 ≥ 0)))]) (is := [0, 1, 7, 12]) rfl ?_
  refine G.next_ hK15 ?_
  refine G.cond (b := (decide (r7 ≥ 0))) rfl (fun hc16 => ?_) (fun hc16 => ?_)
  · refine G.keep_ (L' := [(0, bs a0), (1, bs a1), (7, .int .i64 r7)]) (is := [0, 1, 7]) rfl ?_
    refine G.seq fun K17 hK18 => ?_
    refine G.bind fun s19 hq23 => ?_
    refine G.bind fun s21 hq24 => ?_
    refine G.draw [] mixed 12 rfl ?_
    intro w29 le30
    have u31 := Up.of_le hU13.live le30
    have hU32 := hU13.trans0 u31
    refine GH.take 0 rfl rfl (by kernel_rfl) (by kernel_rfl) (by kernel_rfl) (Q.move rfl) (Le.refl [] _) (fun _ _ _ h => h) ?_
    refine GH.take 1 rfl rfl (by kernel_rfl) (by kernel_rfl) (by kernel_rfl) (Q.move rfl) (Le.refl [] _) (fun _ _ _ h => h) ?_
    refine GH.take 2 rfl rfl (by kernel_rfl) (by kernel_rfl) (by kernel_rfl) (Q.sub_str (s := a0) (l := 0) (h := r7) rfl Tryd.runUnderlying9 rfl rfl hq23) (Le.refl [] _) (fun _ _ _ h => h) ?_
    refine GH.take 3 rfl rfl (by kernel_rfl) (by kernel_rfl) (by kernel_rfl) (Q.move rfl) (Le.refl [] _) (fun _ _ _ h => h) ?_
    refine GH.take 4 rfl rfl (by kernel_rfl) (by kernel_rfl) (by kernel_rfl) (Q.move rfl) (Le.refl [] _) (fun _ _ _ h => h) ?_
    refine GH.take 5 rfl rfl (by kernel_rfl) (by kernel_rfl) (by kernel_rfl) (Q.move rfl) (Le.refl [] _) (fun _ _ _ h => h) ?_
    refine GH.take 6 rfl rfl (by kernel_rfl) (by kernel_rfl) (by kernel_rfl) (Q.len_str (s := a1) rfl Tryd.runUnderlying9) (Le.refl [] _) (fun _ _ _ h => h) ?_
    refine GH.take 7 rfl rfl (by kernel_rfl) (by kernel_rfl) (by kernel_rfl) (Q.bin (u := .int .i64 r7) (v := .int .i64 (a1.length : Int)) (r := .int .i64 (addI r7 (a1.length : Int))) rfl rfl b_add) (Le.refl [] _) (fun _ _ _ h => h) ?_
    refine GH.take 8 rfl rfl (by kernel_rfl) (by kernel_rfl) (by kernel_rfl) (Q.sub_str (s := a0) (l := (addI r7 (a1.length : Int))) (h := (a0.length : Int)) rfl Tryd.runUnderlying9 rfl rfl hq24) (Le.refl [] _) (fun _ _ _ h => h) ?_
    refine GH.take 9 rfl rfl (by kernel_rfl) (by kernel_rfl) (by kernel_rfl) (Q.assign rfl) (Le.refl [] _) (fun _ _ _ h => h) ?_
    refine GH.take 10 rfl rfl (by kernel_rfl) (by kernel_rfl) (by kernel_rfl) (Q.assign rfl) (Le.refl [] _) (fun _ _ _ h => h) ?_
    refine GH.take 11 rfl rfl (by kernel_rfl) (by kernel_rfl) (by kernel_rfl) (Q.assign rfl) (Le.refl [] _) (fun _ _ _ h => h) ?_
    refine GH.done (by kernel_rfl) ?_
    refine G.keep_ (L' := [(4, bs s19), (5, bs s21), (6, .bool true)]) (is := [4, 5, 6]) rfl ?_
    refine G.next_ hK18 ?_
    refine G.ret ?_
    refine G.thn_ret ?_
    refine G.ret3 (v := bs s19) (v' := bs s21) (v'' := .bool true) Tryd.results22 rfl rfl rfl (fun hF33 => ?_)
    obtain rfl := Option.some.inj hF33
    exact ⟨_, hU32, rfl⟩
  · refine G.keep_ (L' := [(0, bs a0)]) (is := [0]) rfl ?_
    refine G.skip ?_
    refine G.next_ hK4 ?_
    refine G.seq fun K34 hK35 => ?_
    refine G.region ?_
    refine G.move (v := bs a0) rfl rfl ?_
    refine G.assign (v := bs a0) rfl rfl ?_
    refine G.assign (v := bs []) rfl rfl ?_
    refine G.assign (v := .bool false) rfl rfl ?_
    refine G.nil ?_
    refine G.keep_ (L' := [(4, bs a0), (5, bs []), (6, .bool false)]) (is := [4, 5, 6]) rfl ?_
    refine G.next_ hK35 ?_
    refine G.ret ?_
    refine G.ret3 (v := bs a0) (v' := bs []) (v'' := .bool false) Tryd.results22 rfl rfl rfl (fun hF36 => ?_)
    obtain rfl := Option.some.inj hF36
    exact ⟨_, hU13, rfl⟩
/-! strings.Cut -/
def strings_Cut.Post (S : Nat → Prop) (w : World) (out : Str × Str × Bool) (v : Value) (w' : World) : Prop := ∃ S', Up [] S w S' w' ∧ v = .tuple [bs out.1, bs out.2.1, .bool out.2.2].toArray
def strings_Cut.Spec (F : Str → Str → Option (Str × Str × Bool)) : Prop := ∀ {S : Nat → Prop} {w : World} (_ : ∀ b, S b → b < w.heap.size) (a0 : Str) (a1 : Str) {out : Str × Str × Bool}, F a0 a1 = some out → Calls Tryd.prog 13 [bs a0, bs a1].toArray w (Rets (strings_Cut.Post S w out))
def strings_Cut (a0 : Str) (a1 : Str) : Option (Str × Str × Bool) := (internal_stringslite_Cut a0 a1).bind fun r5 => some (r5.1, r5.2.1, r5.2.2)
set_option maxRecDepth 100000 in
theorem strings_Cut_ok : strings_Cut.Spec (strings_Cut ) := by
  intro S0 w0 hS0 a0 a1 out hp
  have hU0 := Up.refl hS0
  refine calls_of_G (nt := 13) Tryd.func13 rfl Tryd.ntmps13 rfl ?_ hp
  unfold strings_Cut
  refine G.seq fun K1 hK2 => ?_
  refine G.region ?_
  refine G.assign (v := bs []) rfl rfl ?_
  refine G.assign (v := bs []) rfl rfl ?_
  refine G.assign (v := .bool false) rfl rfl ?_
  refine G.nil ?_
  refine G.keep_ (L' := [(0, bs a0), (1, bs a1)]) (is := [0, 1]) rfl ?_
  refine G.next_ hK2 ?_
  refine G.seq fun K3 hK4 => ?_
  refine G.region ?_
  refine G.move (v := bs a0) rfl rfl ?_
  refine G.move (v := bs a1) rfl rfl ?_
  refine G.bind fun r5 hr6 => ?_
  have hc7 := internal_stringslite_Cut_ok hU0.live a0 a1 hr6
  refine G.call (R := internal_stringslite_Cut.Post S0 w0 r5) (vs := [bs a0, bs a1]) rfl rfl Tryd.call22 ?_ ?_
  · exact hc7
  rintro _ w9 ⟨S8, u10, rfl⟩
  have hU11 := hU0.trans0 u10
  refine G.extract (vs := [bs r5.1, bs r5.2.1, .bool r5.2.2]) (v := bs r5.1) rfl rfl rfl ?_
  refine G.extract (vs := [bs r5.1, bs r5.2.1, .bool r5.2.2]) (v := bs r5.2.1) rfl rfl rfl ?_
  refine G.extract (vs := [bs r5.1, bs r5.2.1, .bool r5.2.2]) (v := .bool r5.2.2) rfl rfl rfl ?_
  refine G.assign (v := bs r5.1) rfl rfl ?_
  refine G.assign (v := bs r5.2.1) rfl rfl ?_
  refine G.assign (v := .bool r5.2.2) rfl rfl ?_
  refine G.nil ?_
  refine G.keep_ (L' := [(4, bs r5.1), (5, bs r5.2.1), (6, .bool r5.2.2)]) (is := [4, 5, 6]) rfl ?_
  refine G.next_ hK4 ?_
  refine G.ret ?_
  refine G.ret3 (v := bs r5.1) (v' := bs r5.2.1) (v'' := .bool r5.2.2) Tryd.results13 rfl rfl rfl (fun hF12 => ?_)
  obtain rfl := Option.some.inj hF12
  exact ⟨_, hU11, rfl⟩
/-! roadstead/replay.Read -/
def replay_Read.l1  : List (Str) → (List T_Choice) → Option (((List T_Choice) × Int) ⊕ (List T_Choice))
  | [], x28 => some (.inr x28)
  | y30 :: rest31, x28 => (if (y30 == ([] : Str)) = true then some (.inl (([] : List T_Choice), 3)) else (nth y30 0).bind fun c81 => (strings_IndexByte [103, 99, 108] (c81.toNat : Int)).bind fun r83 => (sub y30 1 (y30.length : Int)).bind fun s107 => (strings_Cut s107 [45]).bind fun r109 => (strconv_Atoi r109.1).bind fun r120 => ((if r109.2.2 = true then (strconv_Atoi r109.2.1).bind fun r153 => some (r153.2, r153.1) else some (false, 0))).bind fun b169 => (if (r120.2 || b169.1) = true then some (.inl (([] : List T_Choice), 3)) else (app 5864062014805 x28 ([(T_Choice.mk (addI r83 1) r120.1 b169.2)] : List T_Choice)).bind fun l197 => replay_Read.l1 rest31 l197))

theorem replay_Read.l1_nil  {x28 : List T_Choice} : replay_Read.l1  [] x28 = some (.inr x28) := rfl
theorem replay_Read.l1_cons  {y30 : Str} {rest31 : List (Str)} {x28 : List T_Choice} : replay_Read.l1  (y30 :: rest31) x28 = (if (y30 == ([] : Str)) = true then some (.inl (([] : List T_Choice), 3)) else (nth y30 0).bind fun c81 => (strings_IndexByte [103, 99, 108] (c81.toNat : Int)).bind fun r83 => (sub y30 1 (y30.length : Int)).bind fun s107 => (strings_Cut s107 [45]).bind fun r109 => (strconv_Atoi r109.1).bind fun r120 => ((if r109.2.2 = true then (strconv_Atoi r109.2.1).bind fun r153 => some (r153.2, r153.1) else some (false, 0))).bind fun b169 => (if (r120.2 || b169.1) = true then some (.inl (([] : List T_Choice), 3)) else (app 5864062014805 x28 ([(T_Choice.mk (addI r83 1) r120.1 b169.2)] : List T_Choice)).bind fun l197 => replay_Read.l1 rest31 l197)) := rfl
def replay_Read.Post (S : Nat → Prop) (w : World) (out : (List T_Choice) × Int) (v : Value) (w' : World) : Prop := ∃ S', Up [] S w S' w' ∧ ∃ r0_0, v = .tuple [r0_0, .int .i64 out.2].toArray ∧ RdL e_T_Choice 3 S' w' r0_0 out.1
def replay_Read.Spec (F : Str → Option ((List T_Choice) × Int)) : Prop := ∀ {S : Nat → Prop} {w : World} (_ : ∀ b, S b → b < w.heap.size) (_ : Vars Tryd.prog S w) (a0 : Str) {out : (List T_Choice) × Int}, F a0 = some out → Calls Tryd.prog 6 [bs a0].toArray w (Rets (replay_Read.Post S w out))
def replay_Read (a0 : Str) : Option ((List T_Choice) × Int) := (if (a0 == ([] : Str)) = true then some (([] : List T_Choice), 0) else (strings_Split a0 [32]).bind fun r17 => (replay_Read.l1 r17 ([] : List T_Choice)).bind (retOr fun b209 => (replay_Text b209).bind fun r225 => (if ((r225.2 != 0) || (r225.1 != a0)) = true then some (([] : List T_Choice), 3) else some (b209, 0))))
set_option maxRecDepth 100000 in
theorem replay_Read_ok : replay_Read.Spec (replay_Read ) := by
  intro S0 w0 hS0 hV0 a0 out hp
  have hU0 := Up.refl hS0
  refine calls_of_G (nt := 75) Tryd.func6 rfl Tryd.ntmps6 rfl ?_ hp
  unfold replay_Read
  refine G.seq fun K1 hK2 => ?_
  refine G.region ?_
  refine G.assign (v := .slice none 0 0) rfl rfl ?_
  refine G.assign (v := .int .i64 0) rfl rfl ?_
  refine G.nil ?_
  refine G.keep_ (L' := [(0, bs a0)]) (is := [0]) rfl ?_
  refine G.next_ hK2 ?_
  refine G.seq fun K3 hK4 => ?_
  refine G.seq fun K5 hK6 => ?_
  refine G.region ?_
  refine G.move (v := bs a0) rfl rfl ?_
  refine G.bin (u := bs a0) (v := bs ([] : Str)) (r := .bool (a0 == ([] : Str))) rfl rfl rfl b_seql ?_
  refine G.nil ?_
  refine G.keep_ (L' := [(0, bs a0), (16, .bool (a0 == ([] : Str)))]) (is := [0, 16]) rfl ?_
  refine G.next_ hK6 ?_
  refine G.cond (b := (a0 == ([] : Str))) rfl (fun hc7 => ?_) (fun hc7 => ?_)
  · refine G.keep_ (L' := []) (is := []) rfl ?_
    refine G.seq fun K8 hK9 => ?_
    refine G.region ?_
    refine G.assign (v := .slice none 0 0) rfl rfl ?_
    refine G.assign (v := .int .i64 0) rfl rfl ?_
    refine G.nil ?_
    refine G.keep_ (L' := [(2, .slice none 0 0), (3, .int .i64 0)]) (is := [2, 3]) rfl ?_
    refine G.next_ hK9 ?_
    refine G.ret ?_
    refine G.thn_ret ?_
    refine G.ret2 (v := .slice none 0 0) (v' := .int .i64 0) Tryd.results6 rfl rfl (fun hF10 => ?_)
    obtain rfl := Option.some.inj hF10
    exact ⟨_, hU0, .slice none 0 0, rfl, RdL.nil⟩
  · refine G.keep_ (L' := [(0, bs a0)]) (is := [0]) rfl ?_
    refine G.skip ?_
    refine G.next_ hK4 ?_
    refine G.seq fun K11 hK12 => ?_
    refine G.region ?_
    refine G.assign (v := .slice none 0 0) rfl rfl ?_
    refine G.nil ?_
    refine G.keep_ (L' := [(0, bs a0), (4, .slice none 0 0)]) (is := [0, 4]) rfl ?_
    refine G.next_ hK12 ?_
    refine G.seq fun K13 hK14 => ?_
    refine G.seq fun K15 hK16 => ?_
    refine G.region ?_
    refine G.move (v := bs a0) rfl rfl ?_
    refine G.bind fun r17 hr18 => ?_
    have hc19 := strings_Split_ok hU0.live a0 [32] hr18
    refine G.call (R := strings_Split.Post S0 w0 r17) (vs := [bs a0, bs [32]]) rfl rfl Tryd.call11 ?_ ?_
    · exact hc19
    rintro v23 w21 ⟨S20, u22, _, rfl, h24⟩
    have hU25 := hU0.trans0 u22
    refine G.len_rd rfl rfl Tryd.runUnderlying32 h24 ?_
    refine G.move (v := .int .i64 0) rfl rfl ?_
    refine G.nil ?_
    refine G.keep_ (L' := [(0, bs a0), (4, .slice none 0 0), (18, v23), (19, .int .i64 (r17.length : Int)), (20, .int .i64 0)]) (is := [0, 4, 18, 19, 20]) rfl ?_
    refine G.next_ hK16 ?_
    refine G.join (E := fun o a w' => ∃ b, o = .inr b ∧ ∃ (v_slot_4 : Value) (S_ : Nat → Prop), Fr 75 [(0, bs a0), (4, v_slot_4)] a ∧ Up [] S20 w21 S_ w' ∧ OwnL e_T_Choice 27 3 w0.heap.size S_ w' v_slot_4 b ∧ (∀ k ∈ ob v_slot_4, k ∈ ob (.slice none 0 0) ∨ w21.heap.size ≤ k)) ?_ ?_
    · intro b hF26
      refine G.block ?_
      refine G.keep_ (L' := [(0, bs a0), (4, .slice none 0 0), (18, v23), (19, .int .i64 (r17.length : Int)), (20, .int .i64 ((0 : Nat) : Int))]) (is := [0, 4, 18, 19, 20]) rfl ?_
      refine G.loop (fun k a w => ∃ (rest31 : List (Str)) (i29 : Nat) (x28 : List T_Choice), k = rest31.length ∧ replay_Read.l1 rest31 x28 = some b ∧ r17.drop i29 = rest31 ∧ ∃ (v_slot_4 : Value) (S_ : Nat → Prop), Fr 75 [(0, bs a0), (4, v_slot_4), (18, v23), (19, .int .i64 (r17.length : Int)), (20, .int .i64 (i29 : Int))] a ∧ Up [] S20 w21 S_ w ∧ OwnL e_T_Choice 27 3 w0.heap.size S_ w v_slot_4 x28 ∧ (∀ k ∈ ob v_slot_4, k ∈ ob (.slice none 0 0) ∨ w21.heap.size ≤ k)) (r17.length) ?_ ?_
      · intro hl208 a ha
        exact ⟨r17, 0, ([] : List T_Choice), rfl, hl208, rfl, .slice none 0 0, _, ha, (Up.refl' hU25.live (in_nil)), OwnL.nil, fun k hk => .inr ((fun k hk => absurd hk (by simp [ob_nil])) k hk)⟩
      · rintro _ a ww ⟨rest31, i29, x28, rfl, hl27, hd32, hJ⟩
        rcases rest31 with _ | ⟨y30, rest31⟩
        · rw [replay_Read.l1_nil] at hl27
          obtain ⟨w35, rfl⟩ : ∃ x : World, x = ww := ⟨ww, rfl⟩
          obtain ⟨v38, S36, ha34, u37, h39, ho40⟩ := hJ
          refine G.use hl27 ha34 ?_
          have hU41 := hU25.trans0 u37
          refine G.seq fun K42 hK43 => ?_
          refine G.region ?_
          refine G.bin (u := .int .i64 (i29 : Int)) (v := .int .i64 (r17.length : Int)) (r := .bool (decide ((i29 : Int) < (r17.length : Int)))) rfl rfl rfl b_lss ?_
          refine G.nil ?_
          refine G.keep_ (L' := [(0, bs a0), (4, v38), (18, v23), (19, .int .i64 (r17.length : Int)), (20, .int .i64 (i29 : Int)), (21, .bool (decide ((i29 : Int) < (r17.length : Int))))]) (is := [0, 4, 18, 19, 20, 21]) rfl ?_
          refine G.next_ hK43 ?_
          refine G.seq fun K44 hK45 => ?_
          refine G.no rfl (rng_end hd32) ?_
          refine G.exit ?_
          refine G.thn_exit ?_
          refine G.thn_exit ?_
          refine G.inB_eq ?_
          refine G.keep_ (L' := [(0, bs a0), (4, v38)]) (is := [0, 4]) rfl ?_
          refine G.finE ?_
          rintro rfl a ha
          exact ⟨_, rfl, ⟨v38, _, ha, ((Up.refl' hU25.live (in_nil)).trans0 u37), h39, fun k hk => .inr ((org0_step ho40 (fun k hk => absurd hk (by simp [ob_nil])) (by omega)) k hk)⟩⟩
        · rw [replay_Read.l1_cons] at hl27
          obtain ⟨w47, rfl⟩ : ∃ x : World, x = ww := ⟨ww, rfl⟩
          obtain ⟨v50, S48, ha46, u49, h51, ho52⟩ := hJ
          refine G.use hl27 ha46 ?_
          have hU53 := hU25.trans0 u49
          refine G.seq fun K54 hK55 => ?_
          refine G.region ?_
          refine G.bin (u := .int .i64 (i29 : Int)) (v := .int .i64 (r17.length : Int)) (r := .bool (decide ((i29 : Int) < (r17.length : Int)))) rfl rfl rfl b_lss ?_
          refine G.nil ?_
          refine G.keep_ (L' := [(0, bs a0), (4, v50), (18, v23), (19, .int .i64 (r17.length : Int)), (20, .int .i64 (i29 : Int)), (21, .bool (decide ((i29 : Int) < (r17.length : Int))))]) (is := [0, 4, 18, 19, 20, 21]) rfl ?_
          refine G.next_ hK55 ?_
          refine G.seq fun K56 hK57 => ?_
          refine G.yes rfl (rng_more hd32) ?_
          refine G.skip ?_
          refine G.next_ hK57 ?_
          refine G.seq fun K58 hK59 => ?_
          refine G.block ?_
          refine G.seq fun K60 hK61 => ?_
          refine G.region ?_
          have h62 := h24.up u49
          refine G.at_rd (i := i29) (y := y30) rfl rfl rfl Tryd.runUnderlying32 Tryd.sizeOf9 h62 (rng_at hd32) ?_
          intro b63 o64 cs65 hC66 hl67 hR68
          have hR68_ := Rd.val_iff.1 hR68; subst hR68_
          refine G.load1 (o := o64) (j := 0) (cs := [bs y30]) (v := bs y30) rfl rfl Tryd.isAgg9 hC66 rfl rfl ?_
          refine G.assign (v := bs y30) rfl rfl ?_
          refine G.nil ?_
          refine G.keep_ (L' := [(0, bs a0), (4, v50), (6, bs y30), (18, v23), (19, .int .i64 (r17.length : Int)), (20, .int .i64 (i29 : Int))]) (is := [0, 4, 6, 18, 19, 20]) rfl ?_
          refine G.next_ hK61 ?_
          refine G.seq fun K69 hK70 => ?_
          refine G.seq fun K71 hK72 => ?_
          refine G.region ?_
          refine G.move (v := bs y30) rfl rfl ?_
          refine G.bin (u := bs y30) (v := bs ([] : Str)) (r := .bool (y30 == ([] : Str))) rfl rfl rfl b_seql ?_
          refine G.nil ?_
          refine G.keep_ (L' := [(0, bs a0), (4, v50), (6, bs y30), (18, v23), (19, .int .i64 (r17.length : Int)), (20, .int .i64 (i29 : Int)), (25, .bool (y30 == ([] : Str)))]) (is := [0, 4, 6, 18, 19, 20, 25]) rfl ?_
          refine G.next_ hK72 ?_
          refine G.cond (b := (y30 == ([] : Str))) rfl (fun hc73 => ?_) (fun hc73 => ?_)
          · refine G.keep_ (L' := []) (is := []) rfl ?_
            refine G.seq fun K74 hK75 => ?_
            refine G.region ?_
            refine G.assign (v := .slice none 0 0) rfl rfl ?_
            refine G.assign (v := .int .i64 3) rfl rfl ?_
            refine G.nil ?_
            refine G.keep_ (L' := [(2, .slice none 0 0), (3, .int .i64 3)]) (is := [2, 3]) rfl ?_
            refine G.next_ hK75 ?_
            refine G.ret ?_
            refine G.thn_ret ?_
            refine G.inB_ret ?_
            refine G.thn_ret ?_
            refine G.thn_ret ?_
            refine G.inB_ret ?_
            refine G.thn_ret ?_
            refine G.thn_ret ?_
            refine G.ret2 (v := .slice none 0 0) (v' := .int .i64 3) Tryd.results6 rfl rfl (fun hF76 => ?_)
            have hb77 := Option.some.inj hF76
            subst hb77
            have hF78 : (some (([] : List T_Choice), 3) : Option ((List T_Choice) × Int)) = some _ := hF26
            obtain rfl := Option.some.inj hF78
            exact ⟨_, hU53, .slice none 0 0, rfl, RdL.nil⟩
          · refine G.keep_ (L' := [(0, bs a0), (4, v50), (6, bs y30), (18, v23), (19, .int .i64 (r17.length : Int)), (20, .int .i64 (i29 : Int))]) (is := [0, 4, 6, 18, 19, 20]) rfl ?_
            refine G.skip ?_
            refine G.next_ hK70 ?_
            refine G.seq fun K79 hK80 => ?_
            refine G.region ?_
            refine G.move (v := bs y30) rfl rfl ?_
            refine G.nth_str (i := 0) (s := y30) rfl rfl rfl Tryd.runUnderlying9 ?_
            intro c81 hc82
            refine G.bind fun r83 hr84 => ?_
            have hc85 := strings_IndexByte_ok hU53.live [103, 99, 108] (c81.toNat : Int) hr84
            refine G.call (R := strings_IndexByte.Post S48 w47 r83) (vs := [bs [103, 99, 108], .int .u8 (c81.toNat : Int)]) rfl rfl Tryd.call12 ?_ ?_
            · exact hc85
            rintro _ w87 ⟨S86, u88, rfl⟩
            have hU89 := hU53.trans0 u88
            refine G.bin (u := .int .i64 r83) (v := .int .i64 1) (r := .int .i64 (addI r83 1)) rfl rfl rfl b_add ?_
            refine G.build (pv := [(0, .int .i64 (addI r83 1))]) (v := .agg [.int .i64 (addI r83 1), .int .i64 0, .int .i64 0].toArray) rfl rfl (fun w => run_build w 27 _ _ (by kernel_rfl)) ?_
            refine G.alloc (z := .agg [.int .i64 0, .int .i64 0, .int .i64 0].toArray) (cs := [.int .i64 0, .int .i64 0, .int .i64 0]) rfl Tryd.zeroValue27 rfl ?_
            intro g90 w91 hg93 le94 hB95
            have u92 := Up.of_le hU89.live le94
            have hU96 := hU89.trans0 u92
            have lt97 := lt_of_block hB95
            have hn99 : ¬ S86 g90 := fun hs => by have := hU89.live _ hs; omega
            refine G.store (g := g90) (o := 0) (cs := [.int .i64 0, .int .i64 0, .int .i64 0]) (c1 := [.int .i64 (addI r83 1), .int .i64 0, .int .i64 0]) (cs' := [.int .i64 (addI r83 1), .int .i64 0, .int .i64 0]) (v := .agg [.int .i64 (addI r83 1), .int .i64 0, .int .i64 0].toArray) rfl rfl rfl Tryd.sizeOf27 hB95 (List.forall_mem_cons.2 ⟨rfl, List.forall_mem_cons.2 ⟨rfl, List.forall_mem_cons.2 ⟨rfl, List.forall_mem_nil _⟩⟩⟩) (Nat.le_of_ble_eq_true rfl) rfl ?_
            intro w100 le101 hB102
            have u103 := Up.store hU96.live hn99 le101
            have hU104 := hU96.trans u103 (in_one (.inr (by have := hU89.le.size; have := hg93; omega)))
            refine G.nil ?_
            refine G.keep_ (L' := [(0, bs a0), (4, v50), (6, bs y30), (7, .pointer (some ⟨g90, 0, none⟩)), (18, v23), (19, .int .i64 (r17.length : Int)), (20, .int .i64 (i29 : Int))]) (is := [0, 4, 6, 7, 18, 19, 20]) rfl ?_
            refine G.next_ hK80 ?_
            refine G.seq fun K105 hK106 => ?_
            refine G.region ?_
            refine G.move (v := bs y30) rfl rfl ?_
            refine G.sub_str (s := y30) (l := 1) (h := (y30.length : Int)) rfl rfl Tryd.runUnderlying9 rfl rfl ?_
            intro s107 hs108
            refine G.bind fun r109 hr110 => ?_
            have hc111 := strings_Cut_ok hU104.live s107 [45] hr110
            refine G.call (R := strings_Cut.Post S86 w100 r109) (vs := [bs s107, bs [45]]) rfl rfl Tryd.call13 ?_ ?_
            · exact hc111
            rintro _ w113 ⟨S112, u114, rfl⟩
            have hU115 := hU104.trans0 u114
            refine G.move (v := .tuple [bs r109.1, bs r109.2.1, .bool r109.2.2].toArray) rfl rfl ?_
            refine G.extract (vs := [bs r109.1, bs r109.2.1, .bool r109.2.2]) (v := bs r109.1) rfl rfl rfl ?_
            refine G.extract (vs := [bs r109.1, bs r109.2.1, .bool r109.2.2]) (v := bs r109.2.1) rfl rfl rfl ?_
            refine G.extract (vs := [bs r109.1, bs r109.2.1, .bool r109.2.2]) (v := .bool r109.2.2) rfl rfl rfl ?_
            refine G.assign (v := bs r109.1) rfl rfl ?_
            refine G.assign (v := bs r109.2.1) rfl rfl ?_
            refine G.assign (v := .bool r109.2.2) rfl rfl ?_
            refine G.nil ?_
            refine G.keep_ (L' := [(0, bs a0), (4, v50), (7, .pointer (some ⟨g90, 0, none⟩)), (8, bs r109.1), (9, bs r109.2.1), (10, .bool r109.2.2), (18, v23), (19, .int .i64 (r17.length : Int)), (20, .int .i64 (i29 : Int))]) (is := [0, 4, 7, 8, 9, 10, 18, 19, 20]) rfl ?_
            refine G.next_ hK106 ?_
            refine G.seq fun K116 hK117 => ?_
            refine G.region ?_
            refine G.assign (v := .nilIface) rfl rfl ?_
            refine G.assign (v := .nilIface) rfl rfl ?_
            refine G.nil ?_
            refine G.keep_ (L' := [(0, bs a0), (4, v50), (7, .pointer (some ⟨g90, 0, none⟩)), (8, bs r109.1), (9, bs r109.2.1), (10, .bool r109.2.2), (12, .nilIface), (18, v23), (19, .int .i64 (r17.length : Int)), (20, .int .i64 (i29 : Int))]) (is := [0, 4, 7, 8, 9, 10, 12, 18, 19, 20]) rfl ?_
            refine G.next_ hK117 ?_
            refine G.seq fun K118 hK119 => ?_
            refine G.region ?_
            refine G.move (v := bs r109.1) rfl rfl ?_
            refine G.bind fun r120 hr121 => ?_
            have hc122 := strconv_Atoi_ok hU115.live (hV0.up hU115) r109.1 hr121
            refine G.call (R := strconv_Atoi.Post S112 w113 r120) (vs := [bs r109.1]) rfl rfl Tryd.call14 ?_ ?_
            · exact hc122
            rintro _ w124 ⟨S123, u125, v126, rfl, h127⟩
            have hU128 := hU115.trans0 u125
            refine G.move (v := .tuple [.int .i64 r120.1, v126].toArray) rfl rfl ?_
            refine G.extract (vs := [.int .i64 r120.1, v126]) (v := .int .i64 r120.1) rfl rfl rfl ?_
            refine G.extract (vs := [.int .i64 r120.1, v126]) (v := v126) rfl rfl rfl ?_
            refine G.fieldAddr (o' := 1) rfl rfl Tryd.runUnderlying27 rfl Tryd.sizeOf3 rfl ?_
            have hB129 := u114.le.kept0 hB102
            have hB130 := u125.le.kept0 hB129
            have hn131 := fun hs => hn99 (u103.old g90 (by have := lt97; omega) hs)
            have hn132 := fun hs => hn131 (u114.old g90 (by have := u103.le.size; have := lt97; omega) hs)
            have hn133 := fun hs => hn132 (u125.old g90 (by have := u103.le.size; have := u114.le.size; have := lt97; omega) hs)
            refine G.store (g := g90) (o := 1) (cs := [.int .i64 (addI r83 1), .int .i64 0, .int .i64 0]) (c1 := [.int .i64 r120.1]) (cs' := [.int .i64 (addI r83 1), .int .i64 r120.1, .int .i64 0]) (v := .int .i64 r120.1) rfl rfl rfl Tryd.sizeOf3 hB130 (List.forall_mem_cons.2 ⟨rfl, List.forall_mem_nil _⟩) (Nat.le_of_ble_eq_true rfl) rfl ?_
            intro w134 le135 hB136
            have u137 := Up.store hU128.live hn133 le135
            have hU138 := hU128.trans u137 (in_one (.inr (by have := hU89.le.size; have := hg93; omega)))
            refine G.assign (v := v126) rfl rfl ?_
            refine G.nil ?_
            refine G.keep_ (L' := [(0, bs a0), (4, v50), (7, .pointer (some ⟨g90, 0, none⟩)), (9, bs r109.2.1), (10, .bool r109.2.2), (11, v126), (12, .nilIface), (18, v23), (19, .int .i64 (r17.length : Int)), (20, .int .i64 (i29 : Int))]) (is := [0, 4, 7, 9, 10, 11, 12, 18, 19, 20]) rfl ?_
            refine G.next_ hK119 ?_
            refine G.seq fun K139 hK140 => ?_
            refine G.seq fun K141 hK142 => ?_
            refine G.region ?_
            refine G.move (v := .bool r109.2.2) rfl rfl ?_
            refine G.nil ?_
            refine G.keep_ (L' := [(0, bs a0), (4, v50), (7, .pointer (some ⟨g90, 0, none⟩)), (9, bs r109.2.1), (11, v126), (12, .nilIface), (18, v23), (19, .int .i64 (r17.length : Int)), (20, .int .i64 (i29 : Int)), (44, .bool r109.2.2)]) (is := [0, 4, 7, 9, 11, 12, 18, 19, 20, 44]) rfl ?_
            refine G.next_ hK142 ?_
            have h143 := h51.up0 u88
            have h144 := h143.up0 u92
            have nb146 : g90 ∉ ob v50 := fun hm => by have := u88.le.size; have := h51.lt _ hm; have := hg93; omega
            have h145 := h144.up u103 (fun k hk => nm_one (fun e => nb146 (e ▸ hk)))
            have h147 := h145.up0 u114
            have h148 := h147.up0 u125
            have h149 := h148.up u137 (fun k hk => nm_one (fun e => nb146 (e ▸ hk)))
            have hn150 := fun hs => hn133 (u137.old g90 (by have := u103.le.size; have := u114.le.size; have := u125.le.size; have := lt97; omega) hs)
            refine G.join (E := fun b a w' => ∃ (v_slot_12 : Value) (S_ : Nat → Prop), Fr 75 [(0, bs a0), (4, v50), (7, .pointer (some ⟨g90, 0, none⟩)), (11, v126), (12, v_slot_12), (18, v23), (19, .int .i64 (r17.length : Int)), (20, .int .i64 (i29 : Int))] a ∧ Up ([g90]) S123 w134 S_ w' ∧ IsErr v_slot_12 b.1 ∧ w'.heap[g90]? = some (.cells [.int .i64 (addI r83 1), .int .i64 r120.1, .int .i64 b.2].toArray 27 (0, 0))) ?_ ?_
            · intro b hF151
              refine G.cond (b := r109.2.2) rfl (fun hc152 => ?_) (fun hc152 => ?_)
              · refine G.keep_ (L' := [(0, bs a0), (4, v50), (7, .pointer (some ⟨g90, 0, none⟩)), (9, bs r109.2.1), (11, v126), (18, v23), (19, .int .i64 (r17.length : Int)), (20, .int .i64 (i29 : Int))]) (is := [0, 4, 7, 9, 11, 18, 19, 20]) rfl ?_
                refine G.region ?_
                refine G.move (v := bs r109.2.1) rfl rfl ?_
                refine G.bind fun r153 hr154 => ?_
                have hc155 := strconv_Atoi_ok hU138.live (hV0.up hU138) r109.2.1 hr154
                refine G.call (R := strconv_Atoi.Post S123 w134 r153) (vs := [bs r109.2.1]) rfl rfl Tryd.call14 ?_ ?_
                · exact hc155
                rintro _ w157 ⟨S156, u158, v159, rfl, h160⟩
                have hU161 := hU138.trans0 u158
                refine G.move (v := .tuple [.int .i64 r153.1, v159].toArray) rfl rfl ?_
                refine G.extract (vs := [.int .i64 r153.1, v159]) (v := .int .i64 r153.1) rfl rfl rfl ?_
                refine G.extract (vs := [.int .i64 r153.1, v159]) (v := v159) rfl rfl rfl ?_
                refine G.fieldAddr (o' := 2) rfl rfl Tryd.runUnderlying27 rfl Tryd.sizeOf3 rfl ?_
                have hB162 := u158.le.kept0 hB136
                have hn163 := fun hs => hn150 (u158.old g90 (by have := u103.le.size; have := u114.le.size; have := u125.le.size; have := u137.le.size; have := lt97; omega) hs)
                refine G.store (g := g90) (o := 2) (cs := [.int .i64 (addI r83 1), .int .i64 r120.1, .int .i64 0]) (c1 := [.int .i64 r153.1]) (cs' := [.int .i64 (addI r83 1), .int .i64 r120.1, .int .i64 r153.1]) (v := .int .i64 r153.1) rfl rfl rfl Tryd.sizeOf3 hB162 (List.forall_mem_cons.2 ⟨rfl, List.forall_mem_nil _⟩) (Nat.le_of_ble_eq_true rfl) rfl ?_
                intro w164 le165 hB166
                have u167 := Up.store hU161.live hn163 le165
                have hU168 := hU161.trans u167 (in_one (.inr (by have := hU89.le.size; have := hg93; omega)))
                refine G.assign (v := v159) rfl rfl ?_
                refine G.nil ?_
                refine G.keep_ (L' := [(0, bs a0), (4, v50), (7, .pointer (some ⟨g90, 0, none⟩)), (11, v126), (12, v159), (18, v23), (19, .int .i64 (r17.length : Int)), (20, .int .i64 (i29 : Int))]) (is := [0, 4, 7, 11, 12, 18, 19, 20]) rfl ?_
                refine G.keep_ (L' := [(0, bs a0), (4, v50), (7, .pointer (some ⟨g90, 0, none⟩)), (11, v126), (12, v159), (18, v23), (19, .int .i64 (r17.length : Int)), (20, .int .i64 (i29 : Int))]) (is := [0, 4, 7, 11, 12, 18, 19, 20]) rfl ?_
                refine G.finE ?_
                rintro rfl a ha
                exact ⟨v159, _, ha, (((Up.refl' hU138.live (in_one hn150)).trans0 u158).trans u167 (in_one (.inl (by simp)))), h160, hB166⟩
              · refine G.keep_ (L' := [(0, bs a0), (4, v50), (7, .pointer (some ⟨g90, 0, none⟩)), (11, v126), (12, .nilIface), (18, v23), (19, .int .i64 (r17.length : Int)), (20, .int .i64 (i29 : Int))]) (is := [0, 4, 7, 11, 12, 18, 19, 20]) rfl ?_
                refine G.skip ?_
                refine G.keep_ (L' := [(0, bs a0), (4, v50), (7, .pointer (some ⟨g90, 0, none⟩)), (11, v126), (12, .nilIface), (18, v23), (19, .int .i64 (r17.length : Int)), (20, .int .i64 (i29 : Int))]) (is := [0, 4, 7, 11, 12, 18, 19, 20]) rfl ?_
                refine G.finE ?_
                rintro rfl a ha
                exact ⟨.nilIface, _, ha, (Up.refl' hU138.live (in_one hn150)), IsErr.nil, hB136⟩
            · rintro b169 hb206 a w171 ⟨v174, S172, ha170, u173, h175, hB176⟩ hF207
              refine G.use hF207 ha170 ?_
              have hU177 := hU138.trans u173 (in_one (.inr (by have := hU89.le.size; have := hg93; omega)))
              refine G.next_ hK140 ?_
              refine G.seq fun K178 hK179 => ?_
              refine G.seq fun K180 hK181 => ?_
              refine G.region ?_
              refine G.move (v := v126) rfl rfl ?_
              refine G.bin (u := v126) (v := .nilIface) (r := .bool r120.2) rfl rfl rfl (b_eneq Tryd.underlying40 h127) ?_
              refine G.move (v := .bool r120.2) rfl rfl ?_
              refine G.cut 3 (fun a w' => w171 = w' ∧ Fr 75 [(0, bs a0), (4, v50), (7, .pointer (some ⟨g90, 0, none⟩)), (18, v23), (19, .int .i64 (r17.length : Int)), (20, .int .i64 (i29 : Int)), (56, .bool (r120.2 || b169.1))] a) ?_ ?_
              · refine G.byb (c := r120.2) (fun hc182 => ?_) (fun hc182 => ?_)
                · refine G.skip_s rfl rfl hc182 rfl ?_
                  refine G.skip_s rfl rfl hc182 rfl ?_
                  refine G.pick_yes (u := .bool true) rfl rfl hc182 rfl ?_
                  refine G.recast (or_yes (x := b169.1) hc182) ?_
                  refine G.nil ?_
                  refine G.keep_ (L' := [(0, bs a0), (4, v50), (7, .pointer (some ⟨g90, 0, none⟩)), (18, v23), (19, .int .i64 (r17.length : Int)), (20, .int .i64 (i29 : Int)), (56, .bool (r120.2 || b169.1))]) (is := [0, 4, 7, 18, 19, 20, 56]) rfl ?_
                  exact G.finE fun _ a ha => ⟨rfl, ha⟩
                · refine G.guard_yes rfl rfl hc182 ?_
                  refine G.move (v := v174) rfl rfl ?_
                  refine G.guard_yes rfl rfl hc182 ?_
                  refine G.bin (u := v174) (v := .nilIface) (r := .bool b169.1) rfl rfl rfl (b_eneq Tryd.underlying40 h175) ?_
                  refine G.pick_no (u := .bool b169.1) rfl rfl hc182 rfl ?_
                  refine G.recast (or_no (x := b169.1) hc182) ?_
                  refine G.nil ?_
                  refine G.keep_ (L' := [(0, bs a0), (4, v50), (7, .pointer (some ⟨g90, 0, none⟩)), (18, v23), (19, .int .i64 (r17.length : Int)), (20, .int .i64 (i29 : Int)), (56, .bool (r120.2 || b169.1))]) (is := [0, 4, 7, 18, 19, 20, 56]) rfl ?_
                  exact G.finE fun _ a ha => ⟨rfl, ha⟩
              · rintro a _ ⟨rfl, ha⟩ hF
                refine G.use hF ha ?_
                refine G.nil ?_
                refine G.keep_ (L' := [(0, bs a0), (4, v50), (7, .pointer (some ⟨g90, 0, none⟩)), (18, v23), (19, .int .i64 (r17.length : Int)), (20, .int .i64 (i29 : Int)), (56, .bool (r120.2 || b169.1))]) (is := [0, 4, 7, 18, 19, 20, 56]) rfl ?_
                refine G.next_ hK181 ?_
                refine G.cond (b := (r120.2 || b169.1)) rfl (fun hc183 => ?_) (fun hc183 => ?_)
                · refine G.keep_ (L' := []) (is := []) rfl ?_
                  refine G.seq fun K184 hK185 => ?_
                  refine G.region ?_
                  refine G.assign (v := .slice none 0 0) rfl rfl ?_
                  refine G.assign (v := .int .i64 3) rfl rfl ?_
                  refine G.nil ?_
                  refine G.keep_ (L' := [(2, .slice none 0 0), (3, .int .i64 3)]) (is := [2, 3]) rfl ?_
                  refine G.next_ hK185 ?_
                  refine G.ret ?_
                  refine G.thn_ret ?_
                  refine G.inB_ret ?_
                  refine G.thn_ret ?_
                  refine G.thn_ret ?_
                  refine G.inB_ret ?_
                  refine G.thn_ret ?_
                  refine G.thn_ret ?_
                  refine G.ret2 (v := .slice none 0 0) (v' := .int .i64 3) Tryd.results6 rfl rfl (fun hF186 => ?_)
                  have hb187 := Option.some.inj hF186
                  subst hb187
                  have hF188 : (some (([] : List T_Choice), 3) : Option ((List T_Choice) × Int)) = some _ := hF26
                  obtain rfl := Option.some.inj hF188
                  exact ⟨_, hU177, .slice none 0 0, rfl, RdL.nil⟩
                · refine G.keep_ (L' := [(0, bs a0), (4, v50), (7, .pointer (some ⟨g90, 0, none⟩)), (18, v23), (19, .int .i64 (r17.length : Int)), (20, .int .i64 (i29 : Int))]) (is := [0, 4, 7, 18, 19, 20]) rfl ?_
                  refine G.skip ?_
                  refine G.next_ hK179 ?_
                  refine G.region ?_
                  refine G.move (v := v50) rfl rfl ?_
                  refine G.loadN (o := 0) (j := 0) (cs := [.int .i64 (addI r83 1), .int .i64 r120.1, .int .i64 b169.2]) (c1 := [.int .i64 (addI r83 1), .int .i64 r120.1, .int .i64 b169.2]) rfl rfl Tryd.isAgg27 Tryd.sizeOf27 (Cs.of_block hB176) rfl rfl rfl (Nat.le_of_ble_eq_true rfl) ?_
                  refine G.buildSlice (ys := ([(T_Choice.mk (addI r83 1) r120.1 b169.2)] : List T_Choice)) (xs := [.tmp 58]) (vs := [.agg [.int .i64 (addI r83 1), .int .i64 r120.1, .int .i64 b169.2].toArray]) (cs := [.int .i64 (addI r83 1), .int .i64 r120.1, .int .i64 b169.2]) rfl elt22 rfl rfl rfl (by decide) rfl (List.forall_mem_cons.2 ⟨rfl, List.forall_mem_nil _⟩) (rfl) (RdX.one (enc := e_T_Choice) (x := (T_Choice.mk (addI r83 1) r120.1 b169.2)) (m_T_Choice (T_Choice.mk (addI r83 1) r120.1 b169.2)) rfl) hU177.le.size hU177.live ?_
                  intro v189 w190 u191 h192 hw193
                  have hU194 := hU177.trans0 u191
                  have h195 := h149.up u173 (fun k hk => nm_one (fun e => nb146 (e ▸ hk)))
                  have h196 := h195.up0 u191
                  refine G.append (xs := x28) (ys := ([(T_Choice.mk (addI r83 1) r120.1 b169.2)] : List T_Choice)) (lim := 5864062014805) rfl elt22 rfl rfl (by decide) (by decide) one_T_Choice h196 h192.src hU194.le.size hU194.live ?_
                  intro l197 v198 w199 hz200 u201 h202 ho203
                  have hU204 := hU194.trans u201 (fun m hm => .inr (h196.born m hm))
                  refine G.assign (v := v198) rfl rfl ?_
                  refine G.nil ?_
                  refine G.keep_ (L' := [(0, bs a0), (4, v198), (18, v23), (19, .int .i64 (r17.length : Int)), (20, .int .i64 (i29 : Int))]) (is := [0, 4, 18, 19, 20]) rfl ?_
                  refine G.inB ?_
                  refine G.next_ hK59 ?_
                  refine G.region ?_
                  refine G.incr (i := i29) (N := r17.length) rfl rfl rfl (rng_lt hd32) (h24.length_le) ?_
                  refine G.move (v := .int .i64 ((i29 + 1 : Nat) : Int)) rfl rfl ?_
                  refine G.nil ?_
                  refine G.keep_ (L' := [(0, bs a0), (4, v198), (18, v23), (19, .int .i64 (r17.length : Int)), (20, .int .i64 ((i29 + 1 : Nat) : Int))]) (is := [0, 4, 18, 19, 20]) rfl ?_
                  refine G.keep_ (L' := [(0, bs a0), (4, v198), (18, v23), (19, .int .i64 (r17.length : Int)), (20, .int .i64 ((i29 + 1 : Nat) : Int))]) (is := [0, 4, 18, 19, 20]) rfl ?_
                  refine G.again ?_
                  intro hl205 a ha
                  exact ⟨_, Nat.lt_succ_self _, rest31, i29 + 1, l197, rfl, hl205, rng_next hd32, v198, _, ha, (((((((((((Up.refl' hU25.live (in_nil)).trans0 u49).trans0 u88).trans0 u92).trans u103 (in_one (.inr (by have := u49.le.size; have := u88.le.size; have := hg93; omega)))).trans0 u114).trans0 u125).trans u137 (in_one (.inr (by have := u49.le.size; have := u88.le.size; have := hg93; omega)))).trans u173 (in_one (.inr (by have := u49.le.size; have := u88.le.size; have := hg93; omega)))).trans0 u191).trans u201 (fun k hk => .inr ((org0_step ho52 (fun k hk => absurd hk (by simp [ob_nil])) (by omega)) k hk))), h202, fun k hk => .inr ((org0_step ho203 (org0_step ho52 (fun k hk => absurd hk (by simp [ob_nil])) (by omega)) (by have := u49.le.size; have := u88.le.size; have := u92.le.size; have := u103.le.size; have := u114.le.size; have := u125.le.size; have := u137.le.size; have := u173.le.size; have := u191.le.size; omega)) k hk)⟩
    · rintro _ hb243 a w211 ⟨b209, rfl, v214, S212, ha210, u213, h215, ho216⟩ hF244
      refine G.use hF244 ha210 ?_
      refine G.inr ?_
      have hU217 := hU25.trans0 u213
      refine G.next_ hK14 ?_
      refine G.seq fun K218 hK219 => ?_
      refine G.seq fun K220 hK221 => ?_
      refine G.region ?_
      refine G.move (v := v214) rfl rfl ?_
      obtain ⟨S222, hS222⟩ : ∃ X : Nat → Prop, X = fun b => S212 b ∨ b ∈ ob v214 := ⟨_, rfl⟩
      have hU223 : Up [] S0 w0 S222 w211 := by rw [hS222]; exact Up.freeze hU217 h215.born h215.lt
      have h224 : RdL _ _ S222 _ _ _ := h215.read (by rw [hS222]; exact fun _ h => .inl h) (by rw [hS222]; exact fun _ h => .inr h)
      refine G.bind fun r225 hr226 => ?_
      have hc227 := replay_Text_ok hU223.live (hV0.up hU223) b209 v214 h224 hr226
      refine G.call (R := replay_Text.Post S222 w211 r225) (vs := [v214]) rfl rfl Tryd.call4 ?_ ?_
      · exact hc227
      rintro _ w229 ⟨S228, u230, rfl⟩
      have hU231 := hU223.trans0 u230
      refine G.move (v := .tuple [bs r225.1, .int .i64 r225.2].toArray) rfl rfl ?_
      refine G.extract (vs := [bs r225.1, .int .i64 r225.2]) (v := bs r225.1) rfl rfl rfl ?_
      refine G.extract (vs := [bs r225.1, .int .i64 r225.2]) (v := .int .i64 r225.2) rfl rfl rfl ?_
      refine G.assign (v := bs r225.1) rfl rfl ?_
      refine G.assign (v := .int .i64 r225.2) rfl rfl ?_
      refine G.nil ?_
      refine G.keep_ (L' := [(0, bs a0), (4, v214), (13, bs r225.1), (14, .int .i64 r225.2)]) (is := [0, 4, 13, 14]) rfl ?_
      refine G.next_ hK221 ?_
      refine G.seq fun K232 hK233 => ?_
      refine G.region ?_
      refine G.move (v := .int .i64 r225.2) rfl rfl ?_
      refine G.bin (u := .int .i64 r225.2) (v := .int .i64 0) (r := .bool (r225.2 != 0)) rfl rfl rfl b_neq ?_
      refine G.move (v := .bool (r225.2 != 0)) rfl rfl ?_
      refine G.cut 4 (fun a w' => w229 = w' ∧ Fr 75 [(4, v214), (73, .bool ((r225.2 != 0) || (r225.1 != a0)))] a) ?_ ?_
      · refine G.byb (c := (r225.2 != 0)) (fun hc234 => ?_) (fun hc234 => ?_)
        · refine G.skip_s rfl rfl hc234 rfl ?_
          refine G.skip_s rfl rfl hc234 rfl ?_
          refine G.skip_s rfl rfl hc234 rfl ?_
          refine G.pick_yes (u := .bool true) rfl rfl hc234 rfl ?_
          refine G.recast (or_yes (x := (r225.1 != a0)) hc234) ?_
          refine G.nil ?_
          refine G.keep_ (L' := [(4, v214), (73, .bool ((r225.2 != 0) || (r225.1 != a0)))]) (is := [4, 73]) rfl ?_
          exact G.finE fun _ a ha => ⟨rfl, ha⟩
        · refine G.guard_yes rfl rfl hc234 ?_
          refine G.move (v := bs r225.1) rfl rfl ?_
          refine G.guard_yes rfl rfl hc234 ?_
          refine G.move (v := bs a0) rfl rfl ?_
          refine G.guard_yes rfl rfl hc234 ?_
          refine G.bin (u := bs r225.1) (v := bs a0) (r := .bool (r225.1 != a0)) rfl rfl rfl b_sneq ?_
          refine G.pick_no (u := .bool (r225.1 != a0)) rfl rfl hc234 rfl ?_
          refine G.recast (or_no (x := (r225.1 != a0)) hc234) ?_
          refine G.nil ?_
          refine G.keep_ (L' := [(4, v214), (73, .bool ((r225.2 != 0) || (r225.1 != a0)))]) (is := [4, 73]) rfl ?_
          exact G.finE fun _ a ha => ⟨rfl, ha⟩
      · rintro a _ ⟨rfl, ha⟩ hF
        refine G.use hF ha ?_
        refine G.nil ?_
        refine G.keep_ (L' := [(4, v214), (73, .bool ((r225.2 != 0) || (r225.1 != a0)))]) (is := [4, 73]) rfl ?_
        refine G.next_ hK233 ?_
        refine G.cond (b := ((r225.2 != 0) || (r225.1 != a0))) rfl (fun hc235 => ?_) (fun hc235 => ?_)
        · refine G.keep_ (L' := []) (is := []) rfl ?_
          refine G.seq fun K236 hK237 => ?_
          refine G.region ?_
          refine G.assign (v := .slice none 0 0) rfl rfl ?_
          refine G.assign (v := .int .i64 3) rfl rfl ?_
          refine G.nil ?_
          refine G.keep_ (L' := [(2, .slice none 0 0), (3, .int .i64 3)]) (is := [2, 3]) rfl ?_
          refine G.next_ hK237 ?_
          refine G.ret ?_
          refine G.thn_ret ?_
          refine G.ret2 (v := .slice none 0 0) (v' := .int .i64 3) Tryd.results6 rfl rfl (fun hF238 => ?_)
          obtain rfl := Option.some.inj hF238
          exact ⟨_, hU231, .slice none 0 0, rfl, RdL.nil⟩
        · refine G.keep_ (L' := [(4, v214)]) (is := [4]) rfl ?_
          refine G.skip ?_
          refine G.next_ hK219 ?_
          refine G.seq fun K239 hK240 => ?_
          refine G.region ?_
          refine G.move (v := v214) rfl rfl ?_
          refine G.assign (v := v214) rfl rfl ?_
          refine G.assign (v := .int .i64 0) rfl rfl ?_
          refine G.nil ?_
          refine G.keep_ (L' := [(2, v214), (3, .int .i64 0)]) (is := [2, 3]) rfl ?_
          refine G.next_ hK240 ?_
          refine G.ret ?_
          have h241 := h224.up u230
          refine G.ret2 (v := v214) (v' := .int .i64 0) Tryd.results6 rfl rfl (fun hF242 => ?_)
          obtain rfl := Option.some.inj hF242
          exact ⟨_, hU231, v214, rfl, h241⟩
/-! strings.Index -/
def strings_Index.Post (S : Nat → Prop) (w : World) (out : Int) (v : Value) (w' : World) : Prop := ∃ S', Up [] S w S' w' ∧ v = .int .i64 out
def strings_Index.Spec (F : Str → Str → Option (Int)) : Prop := ∀ {S : Nat → Prop} {w : World} (_ : ∀ b, S b → b < w.heap.size) (a0 : Str) (a1 : Str) {out : Int}, F a0 a1 = some out → Calls Tryd.prog 15 [bs a0, bs a1].toArray w (Rets (strings_Index.Post S w out))
def strings_Index (a0 : Str) (a1 : Str) : Option (Int) := (internal_stringslite_Index a0 a1).bind fun r5 => some r5
set_option maxRecDepth 100000 in
theorem strings_Index_ok : strings_Index.Spec (strings_Index ) := by
  intro S0 w0 hS0 a0 a1 out hp
  have hU0 := Up.refl hS0
  refine calls_of_G (nt := 8) Tryd.func15 rfl Tryd.ntmps15 rfl ?_ hp
  unfold strings_Index
  refine G.seq fun K1 hK2 => ?_
  refine G.region ?_
  refine G.assign (v := .int .i64 0) rfl rfl ?_
  refine G.nil ?_
  refine G.keep_ (L' := [(0, bs a0), (1, bs a1)]) (is := [0, 1]) rfl ?_
  refine G.next_ hK2 ?_
  refine G.seq fun K3 hK4 => ?_
  refine G.region ?_
  refine G.move (v := bs a0) rfl rfl ?_
  refine G.move (v := bs a1) rfl rfl ?_
  refine G.bind fun r5 hr6 => ?_
  have hc7 := internal_stringslite_Index_ok hU0.live a0 a1 hr6
  refine G.call (R := internal_stringslite_Index.Post S0 w0 r5) (vs := [bs a0, bs a1]) rfl rfl Tryd.call25 ?_ ?_
  · exact hc7
  rintro _ w9 ⟨S8, u10, rfl⟩
  have hU11 := hU0.trans0 u10
  refine G.assign (v := .int .i64 r5) rfl rfl ?_
  refine G.nil ?_
  refine G.keep_ (L' := [(4, .int .i64 r5)]) (is := [4]) rfl ?_
  refine G.next_ hK4 ?_
  refine G.ret ?_
  refine G.ret1 (v := .int .i64 r5) Tryd.results15 rfl (fun hF12 => ?_)
  obtain rfl := Option.some.inj hF12
  exact ⟨_, hU11, rfl⟩
/-! roadstead/roadref5.ChoiceOf -/
def roadref5_ChoiceOf.l1  : List (Str) → (List T_Choice) → Option (((List T_Choice) × Int) ⊕ (List T_Choice))
  | [], x28 => some (.inr x28)
  | y30 :: rest31, x28 => (if (y30 == ([] : Str)) = true then some (.inl (([] : List T_Choice), 3)) else (sub y30 0 1).bind fun s81 => (strings_Index [103, 99, 108] s81).bind fun r83 => (sub y30 1 (y30.length : Int)).bind fun s107 => (strings_Split s107 [45]).bind fun r109 => (nth r109 0).bind fun y126 => (strconv_Atoi y126).bind fun r128 => ((if (((addI 1 r83) == 2) && ((r109.length : Int) == 2)) = true then (nth r109 1).bind fun y167 => (strconv_Atoi y167).bind fun r169 => (if r169.2 = true then some (.inl (([] : List T_Choice), 3)) else some (.inr r169.1)) else some (.inr 0))).bind (retOr2 fun b190 => (if r128.2 = true then some (.inl (([] : List T_Choice), 3)) else (app 5864062014805 x28 ([(T_Choice.mk (addI 1 r83) r128.1 b190)] : List T_Choice)).bind fun l231 => roadref5_ChoiceOf.l1 rest31 l231)))

theorem roadref5_ChoiceOf.l1_nil  {x28 : List T_Choice} : roadref5_ChoiceOf.l1  [] x28 = some (.inr x28) := rfl
theorem roadref5_ChoiceOf.l1_cons  {y30 : Str} {rest31 : List (Str)} {x28 : List T_Choice} : roadref5_ChoiceOf.l1  (y30 :: rest31) x28 = (if (y30 == ([] : Str)) = true then some (.inl (([] : List T_Choice), 3)) else (sub y30 0 1).bind fun s81 => (strings_Index [103, 99, 108] s81).bind fun r83 => (sub y30 1 (y30.length : Int)).bind fun s107 => (strings_Split s107 [45]).bind fun r109 => (nth r109 0).bind fun y126 => (strconv_Atoi y126).bind fun r128 => ((if (((addI 1 r83) == 2) && ((r109.length : Int) == 2)) = true then (nth r109 1).bind fun y167 => (strconv_Atoi y167).bind fun r169 => (if r169.2 = true then some (.inl (([] : List T_Choice), 3)) else some (.inr r169.1)) else some (.inr 0))).bind (retOr2 fun b190 => (if r128.2 = true then some (.inl (([] : List T_Choice), 3)) else (app 5864062014805 x28 ([(T_Choice.mk (addI 1 r83) r128.1 b190)] : List T_Choice)).bind fun l231 => roadref5_ChoiceOf.l1 rest31 l231))) := rfl
def roadref5_ChoiceOf.Post (S : Nat → Prop) (w : World) (out : (List T_Choice) × Int) (v : Value) (w' : World) : Prop := ∃ S', Up [] S w S' w' ∧ ∃ r0_0, v = .tuple [r0_0, .int .i64 out.2].toArray ∧ RdL e_T_Choice 3 S' w' r0_0 out.1
def roadref5_ChoiceOf.Spec (F : Str → Option ((List T_Choice) × Int)) : Prop := ∀ {S : Nat → Prop} {w : World} (_ : ∀ b, S b → b < w.heap.size) (_ : Vars Tryd.prog S w) (a0 : Str) {out : (List T_Choice) × Int}, F a0 = some out → Calls Tryd.prog 7 [bs a0].toArray w (Rets (roadref5_ChoiceOf.Post S w out))
def roadref5_ChoiceOf (a0 : Str) : Option ((List T_Choice) × Int) := (if (a0 == ([] : Str)) = true then some (([] : List T_Choice), 0) else (strings_Split a0 [32]).bind fun r17 => (roadref5_ChoiceOf.l1 r17 ([] : List T_Choice)).bind (retOr fun b243 => (roadref5_ChoiceText b243).bind fun r259 => (if ((r259.2 != 0) || (r259.1 != a0)) = true then some (([] : List T_Choice), 3) else some (b243, 0))))
set_option maxRecDepth 100000 in
theorem roadref5_ChoiceOf_ok : roadref5_ChoiceOf.Spec (roadref5_ChoiceOf ) := by
  intro S0 w0 hS0 hV0 a0 out hp
  have hU0 := Up.refl hS0
  refine calls_of_G (nt := 84) Tryd.func7 rfl Tryd.ntmps7 rfl ?_ hp
  unfold roadref5_ChoiceOf
  refine G.seq fun K1 hK2 => ?_
  refine G.region ?_
  refine G.assign (v := .slice none 0 0) rfl rfl ?_
  refine G.assign (v := .int .i64 0) rfl rfl ?_
  refine G.nil ?_
  refine G.keep_ (L' := [(0, bs a0)]) (is := [0]) rfl ?_
  refine G.next_ hK2 ?_
  refine G.seq fun K3 hK4 => ?_
  refine G.seq fun K5 hK6 => ?_
  refine G.region ?_
  refine G.move (v := bs a0) rfl rfl ?_
  refine G.bin (u := bs a0) (v := bs ([] : Str)) (r := .bool (a0 == ([] : Str))) rfl rfl rfl b_seql ?_
  refine G.nil ?_
  refine G.keep_ (L' := [(0, bs a0), (17, .bool (a0 == ([] : Str)))]) (is := [0, 17]) rfl ?_
  refine G.next_ hK6 ?_
  refine G.cond (b := (a0 == ([] : Str))) rfl (fun hc7 => ?_) (fun hc7 => ?_)
  · refine G.keep_ (L' := []) (is := []) rfl ?_
    refine G.seq fun K8 hK9 => ?_
    refine G.region ?_
    refine G.assign (v := .slice none 0 0) rfl rfl ?_
    refine G.assign (v := .int .i64 0) rfl rfl ?_
    refine G.nil ?_
    refine G.keep_ (L' := [(2, .slice none 0 0), (3, .int .i64 0)]) (is := [2, 3]) rfl ?_
    refine G.next_ hK9 ?_
    refine G.ret ?_
    refine G.thn_ret ?_
    refine G.ret2 (v := .slice none 0 0) (v' := .int .i64 0) Tryd.results7 rfl rfl (fun hF10 => ?_)
    obtain rfl := Option.some.inj hF10
    exact ⟨_, hU0, .slice none 0 0, rfl, RdL.nil⟩
  · refine G.keep_ (L' := [(0, bs a0)]) (is := [0]) rfl ?_
    refine G.skip ?_
    refine G.next_ hK4 ?_
    refine G.seq fun K11 hK12 => ?_
    refine G.region ?_
    refine G.assign (v := .slice none 0 0) rfl rfl ?_
    refine G.nil ?_
    refine G.keep_ (L' := [(0, bs a0), (4, .slice none 0 0)]) (is := [0, 4]) rfl ?_
    refine G.next_ hK12 ?_
    refine G.seq fun K13 hK14 => ?_
    refine G.seq fun K15 hK16 => ?_
    refine G.region ?_
    refine G.move (v := bs a0) rfl rfl ?_
    refine G.bind fun r17 hr18 => ?_
    have hc19 := strings_Split_ok hU0.live a0 [32] hr18
    refine G.call (R := strings_Split.Post S0 w0 r17) (vs := [bs a0, bs [32]]) rfl rfl Tryd.call11 ?_ ?_
    · exact hc19
    rintro v23 w21 ⟨S20, u22, _, rfl, h24⟩
    have hU25 := hU0.trans0 u22
    refine G.len_rd rfl rfl Tryd.runUnderlying32 h24 ?_
    refine G.move (v := .int .i64 0) rfl rfl ?_
    refine G.nil ?_
    refine G.keep_ (L' := [(0, bs a0), (4, .slice none 0 0), (19, v23), (20, .int .i64 (r17.length : Int)), (21, .int .i64 0)]) (is := [0, 4, 19, 20, 21]) rfl ?_
    refine G.next_ hK16 ?_
    refine G.join (E := fun o a w' => ∃ b, o = .inr b ∧ ∃ (v_slot_4 : Value) (S_ : Nat → Prop), Fr 84 [(0, bs a0), (4, v_slot_4)] a ∧ Up [] S20 w21 S_ w' ∧ OwnL e_T_Choice 27 3 w0.heap.size S_ w' v_slot_4 b ∧ (∀ k ∈ ob v_slot_4, k ∈ ob (.slice none 0 0) ∨ w21.heap.size ≤ k)) ?_ ?_
    · intro b hF26
      refine G.block ?_
      refine G.keep_ (L' := [(0, bs a0), (4, .slice none 0 0), (19, v23), (20, .int .i64 (r17.length : Int)), (21, .int .i64 ((0 : Nat) : Int))]) (is := [0, 4, 19, 20, 21]) rfl ?_
      refine G.loop (fun k a w => ∃ (rest31 : List (Str)) (i29 : Nat) (x28 : List T_Choice), k = rest31.length ∧ roadref5_ChoiceOf.l1 rest31 x28 = some b ∧ r17.drop i29 = rest31 ∧ ∃ (v_slot_4 : Value) (S_ : Nat → Prop), Fr 84 [(0, bs a0), (4, v_slot_4), (19, v23), (20, .int .i64 (r17.length : Int)), (21, .int .i64 (i29 : Int))] a ∧ Up [] S20 w21 S_ w ∧ OwnL e_T_Choice 27 3 w0.heap.size S_ w v_slot_4 x28 ∧ (∀ k ∈ ob v_slot_4, k ∈ ob (.slice none 0 0) ∨ w21.heap.size ≤ k)) (r17.length) ?_ ?_
      · intro hl242 a ha
        exact ⟨r17, 0, ([] : List T_Choice), rfl, hl242, rfl, .slice none 0 0, _, ha, (Up.refl' hU25.live (in_nil)), OwnL.nil, fun k hk => .inr ((fun k hk => absurd hk (by simp [ob_nil])) k hk)⟩
      · rintro _ a ww ⟨rest31, i29, x28, rfl, hl27, hd32, hJ⟩
        rcases rest31 with _ | ⟨y30, rest31⟩
        · rw [roadref5_ChoiceOf.l1_nil] at hl27
          obtain ⟨w35, rfl⟩ : ∃ x : World, x = ww := ⟨ww, rfl⟩
          obtain ⟨v38, S36, ha34, u37, h39, ho40⟩ := hJ
          refine G.use hl27 ha34 ?_
          have hU41 := hU25.trans0 u37
          refine G.seq fun K42 hK43 => ?_
          refine G.region ?_
          refine G.bin (u := .int .i64 (i29 : Int)) (v := .int .i64 (r17.length : Int)) (r := .bool (decide ((i29 : Int) < (r17.length : Int)))) rfl rfl rfl b_lss ?_
          refine G.nil ?_
          refine G.keep_ (L' := [(0, bs a0), (4, v38), (19, v23), (20, .int .i64 (r17.length : Int)), (21, .int .i64 (i29 : Int)), (22, .bool (decide ((i29 : Int) < (r17.length : Int))))]) (is := [0, 4, 19, 20, 21, 22]) rfl ?_
          refine G.next_ hK43 ?_
          refine G.seq fun K44 hK45 => ?_
          refine G.no rfl (rng_end hd32) ?_
          refine G.exit ?_
          refine G.thn_exit ?_
          refine G.thn_exit ?_
          refine G.inB_eq ?_
          refine G.keep_ (L' := [(0, bs a0), (4, v38)]) (is := [0, 4]) rfl ?_
          refine G.finE ?_
          rintro rfl a ha
          exact ⟨_, rfl, ⟨v38, _, ha, ((Up.refl' hU25.live (in_nil)).trans0 u37), h39, fun k hk => .inr ((org0_step ho40 (fun k hk => absurd hk (by simp [ob_nil])) (by omega)) k hk)⟩⟩
        · rw [roadref5_ChoiceOf.l1_cons] at hl27
          obtain ⟨w47, rfl⟩ : ∃ x : World, x = ww := ⟨ww, rfl⟩
          obtain ⟨v50, S48, ha46, u49, h51, ho52⟩ := hJ
          refine G.use hl27 ha46 ?_
          have hU53 := hU25.trans0 u49
          refine G.seq fun K54 hK55 => ?_
          refine G.region ?_
          refine G.bin (u := .int .i64 (i29 : Int)) (v := .int .i64 (r17.length : Int)) (r := .bool (decide ((i29 : Int) < (r17.length : Int)))) rfl rfl rfl b_lss ?_
          refine G.nil ?_
          refine G.keep_ (L' := [(0, bs a0), (4, v50), (19, v23), (20, .int .i64 (r17.length : Int)), (21, .int .i64 (i29 : Int)), (22, .bool (decide ((i29 : Int) < (r17.length : Int))))]) (is := [0, 4, 19, 20, 21, 22]) rfl ?_
          refine G.next_ hK55 ?_
          refine G.seq fun K56 hK57 => ?_
          refine G.yes rfl (rng_more hd32) ?_
          refine G.skip ?_
          refine G.next_ hK57 ?_
          refine G.seq fun K58 hK59 => ?_
          refine G.block ?_
          refine G.seq fun K60 hK61 => ?_
          refine G.region ?_
          have h62 := h24.up u49
          refine G.at_rd (i := i29) (y := y30) rfl rfl rfl Tryd.runUnderlying32 Tryd.sizeOf9 h62 (rng_at hd32) ?_
          intro b63 o64 cs65 hC66 hl67 hR68
          have hR68_ := Rd.val_iff.1 hR68; subst hR68_
          refine G.load1 (o := o64) (j := 0) (cs := [bs y30]) (v := bs y30) rfl rfl Tryd.isAgg9 hC66 rfl rfl ?_
          refine G.assign (v := bs y30) rfl rfl ?_
          refine G.nil ?_
          refine G.keep_ (L' := [(0, bs a0), (4, v50), (6, bs y30), (19, v23), (20, .int .i64 (r17.length : Int)), (21, .int .i64 (i29 : Int))]) (is := [0, 4, 6, 19, 20, 21]) rfl ?_
          refine G.next_ hK61 ?_
          refine G.seq fun K69 hK70 => ?_
          refine G.seq fun K71 hK72 => ?_
          refine G.region ?_
          refine G.move (v := bs y30) rfl rfl ?_
          refine G.bin (u := bs y30) (v := bs ([] : Str)) (r := .bool (y30 == ([] : Str))) rfl rfl rfl b_seql ?_
          refine G.nil ?_
          refine G.keep_ (L' := [(0, bs a0), (4, v50), (6, bs y30), (19, v23), (20, .int .i64 (r17.length : Int)), (21, .int .i64 (i29 : Int)), (26, .bool (y30 == ([] : Str)))]) (is := [0, 4, 6, 19, 20, 21, 26]) rfl ?_
          refine G.next_ hK72 ?_
          refine G.cond (b := (y30 == ([] : Str))) rfl (fun hc73 => ?_) (fun hc73 => ?_)
          · refine G.keep_ (L' := []) (is := []) rfl ?_
            refine G.seq fun K74 hK75 => ?_
            refine G.region ?_
            refine G.assign (v := .slice none 0 0) rfl rfl ?_
            refine G.assign (v := .int .i64 3) rfl rfl ?_
            refine G.nil ?_
            refine G.keep_ (L' := [(2, .slice none 0 0), (3, .int .i64 3)]) (is := [2, 3]) rfl ?_
            refine G.next_ hK75 ?_
            refine G.ret ?_
            refine G.thn_ret ?_
            refine G.inB_ret ?_
            refine G.thn_ret ?_
            refine G.thn_ret ?_
            refine G.inB_ret ?_
            refine G.thn_ret ?_
            refine G.thn_ret ?_
            refine G.ret2 (v := .slice none 0 0) (v' := .int .i64 3) Tryd.results7 rfl rfl (fun hF76 => ?_)
            have hb77 := Option.some.inj hF76
            subst hb77
            have hF78 : (some (([] : List T_Choice), 3) : Option ((List T_Choice) × Int)) = some _ := hF26
            obtain rfl := Option.some.inj hF78
            exact ⟨_, hU53, .slice none 0 0, rfl, RdL.nil⟩
          · refine G.keep_ (L' := [(0, bs a0), (4, v50), (6, bs y30), (19, v23), (20, .int .i64 (r17.length : Int)), (21, .int .i64 (i29 : Int))]) (is := [0, 4, 6, 19, 20, 21]) rfl ?_
            refine G.skip ?_
            refine G.next_ hK70 ?_
            refine G.seq fun K79 hK80 => ?_
            refine G.region ?_
            refine G.move (v := bs y30) rfl rfl ?_
            refine G.sub_str (s := y30) (l := 0) (h := 1) rfl rfl Tryd.runUnderlying9 rfl rfl ?_
            intro s81 hs82
            refine G.bind fun r83 hr84 => ?_
            have hc85 := strings_Index_ok hU53.live [103, 99, 108] s81 hr84
            refine G.call (R := strings_Index.Post S48 w47 r83) (vs := [bs [103, 99, 108], bs s81]) rfl rfl Tryd.call15 ?_ ?_
            · exact hc85
            rintro _ w87 ⟨S86, u88, rfl⟩
            have hU89 := hU53.trans0 u88
            refine G.bin (u := .int .i64 1) (v := .int .i64 r83) (r := .int .i64 (addI 1 r83)) rfl rfl rfl b_add ?_
            refine G.build (pv := [(0, .int .i64 (addI 1 r83))]) (v := .agg [.int .i64 (addI 1 r83), .int .i64 0, .int .i64 0].toArray) rfl rfl (fun w => run_build w 27 _ _ (by kernel_rfl)) ?_
            refine G.alloc (z := .agg [.int .i64 0, .int .i64 0, .int .i64 0].toArray) (cs := [.int .i64 0, .int .i64 0, .int .i64 0]) rfl Tryd.zeroValue27 rfl ?_
            intro g90 w91 hg93 le94 hB95
            have u92 := Up.of_le hU89.live le94
            have hU96 := hU89.trans0 u92
            have lt97 := lt_of_block hB95
            have hn99 : ¬ S86 g90 := fun hs => by have := hU89.live _ hs; omega
            refine G.store (g := g90) (o := 0) (cs := [.int .i64 0, .int .i64 0, .int .i64 0]) (c1 := [.int .i64 (addI 1 r83), .int .i64 0, .int .i64 0]) (cs' := [.int .i64 (addI 1 r83), .int .i64 0, .int .i64 0]) (v := .agg [.int .i64 (addI 1 r83), .int .i64 0, .int .i64 0].toArray) rfl rfl rfl Tryd.sizeOf27 hB95 (List.forall_mem_cons.2 ⟨rfl, List.forall_mem_cons.2 ⟨rfl, List.forall_mem_cons.2 ⟨rfl, List.forall_mem_nil _⟩⟩⟩) (Nat.le_of_ble_eq_true rfl) rfl ?_
            intro w100 le101 hB102
            have u103 := Up.store hU96.live hn99 le101
            have hU104 := hU96.trans u103 (in_one (.inr (by have := hU89.le.size; have := hg93; omega)))
            refine G.nil ?_
            refine G.keep_ (L' := [(0, bs a0), (4, v50), (6, bs y30), (7, .pointer (some ⟨g90, 0, none⟩)), (19, v23), (20, .int .i64 (r17.length : Int)), (21, .int .i64 (i29 : Int))]) (is := [0, 4, 6, 7, 19, 20, 21]) rfl ?_
            refine G.next_ hK80 ?_
            refine G.seq fun K105 hK106 => ?_
            refine G.region ?_
            refine G.move (v := bs y30) rfl rfl ?_
            refine G.sub_str (s := y30) (l := 1) (h := (y30.length : Int)) rfl rfl Tryd.runUnderlying9 rfl rfl ?_
            intro s107 hs108
            refine G.bind fun r109 hr110 => ?_
            have hc111 := strings_Split_ok hU104.live s107 [45] hr110
            refine G.call (R := strings_Split.Post S86 w100 r109) (vs := [bs s107, bs [45]]) rfl rfl Tryd.call11 ?_ ?_
            · exact hc111
            rintro v115 w113 ⟨S112, u114, _, rfl, h116⟩
            have hU117 := hU104.trans0 u114
            refine G.assign (v := v115) rfl rfl ?_
            refine G.nil ?_
            refine G.keep_ (L' := [(0, bs a0), (4, v50), (7, .pointer (some ⟨g90, 0, none⟩)), (8, v115), (19, v23), (20, .int .i64 (r17.length : Int)), (21, .int .i64 (i29 : Int))]) (is := [0, 4, 7, 8, 19, 20, 21]) rfl ?_
            refine G.next_ hK106 ?_
            refine G.seq fun K118 hK119 => ?_
            refine G.region ?_
            refine G.move (v := v115) rfl rfl ?_
            refine G.nth_rd (i := 0) rfl rfl rfl Tryd.runUnderlying32 Tryd.sizeOf9 h116 ?_
            intro y126 b120 o121 cs122 hy127 hC123 hl124 hR125
            have hR125_ := Rd.val_iff.1 hR125; subst hR125_
            refine G.load1 (o := o121) (j := 0) (cs := [bs y126]) (v := bs y126) rfl rfl Tryd.isAgg9 hC123 rfl rfl ?_
            refine G.bind fun r128 hr129 => ?_
            have hc130 := strconv_Atoi_ok hU117.live (hV0.up hU117) y126 hr129
            refine G.call (R := strconv_Atoi.Post S112 w113 r128) (vs := [bs y126]) rfl rfl Tryd.call14 ?_ ?_
            · exact hc130
            rintro _ w132 ⟨S131, u133, v134, rfl, h135⟩
            have hU136 := hU117.trans0 u133
            refine G.move (v := .tuple [.int .i64 r128.1, v134].toArray) rfl rfl ?_
            refine G.extract (vs := [.int .i64 r128.1, v134]) (v := .int .i64 r128.1) rfl rfl rfl ?_
            refine G.extract (vs := [.int .i64 r128.1, v134]) (v := v134) rfl rfl rfl ?_
            refine G.assign (v := .int .i64 r128.1) rfl rfl ?_
            refine G.assign (v := v134) rfl rfl ?_
            refine G.nil ?_
            refine G.keep_ (L' := [(0, bs a0), (4, v50), (7, .pointer (some ⟨g90, 0, none⟩)), (8, v115), (9, .int .i64 r128.1), (10, v134), (19, v23), (20, .int .i64 (r17.length : Int)), (21, .int .i64 (i29 : Int))]) (is := [0, 4, 7, 8, 9, 10, 19, 20, 21]) rfl ?_
            refine G.next_ hK119 ?_
            refine G.seq fun K137 hK138 => ?_
            refine G.region ?_
            refine G.assign (v := .int .i64 0) rfl rfl ?_
            refine G.nil ?_
            refine G.keep_ (L' := [(0, bs a0), (4, v50), (7, .pointer (some ⟨g90, 0, none⟩)), (8, v115), (9, .int .i64 r128.1), (10, v134), (11, .int .i64 0), (19, v23), (20, .int .i64 (r17.length : Int)), (21, .int .i64 (i29 : Int))]) (is := [0, 4, 7, 8, 9, 10, 11, 19, 20, 21]) rfl ?_
            refine G.next_ hK138 ?_
            refine G.seq fun K139 hK140 => ?_
            refine G.seq fun K141 hK142 => ?_
            refine G.region ?_
            refine G.fieldAddr (o' := 0) rfl rfl Tryd.runUnderlying27 rfl Tryd.sizeOf3 rfl ?_
            have hB143 := u114.le.kept0 hB102
            have hB144 := u133.le.kept0 hB143
            refine G.load1 (o := 0) (j := 0) (cs := [.int .i64 (addI 1 r83), .int .i64 0, .int .i64 0]) (v := .int .i64 (addI 1 r83)) rfl rfl Tryd.isAgg3 (Cs.of_block hB144) rfl rfl ?_
            refine G.bin (u := .int .i64 (addI 1 r83)) (v := .int .i64 2) (r := .bool ((addI 1 r83) == 2)) rfl rfl rfl b_eql ?_
            refine G.move (v := .bool ((addI 1 r83) == 2)) rfl rfl ?_
            refine G.cut 4 (fun a w' => w132 = w' ∧ Fr 84 [(0, bs a0), (4, v50), (7, .pointer (some ⟨g90, 0, none⟩)), (8, v115), (9, .int .i64 r128.1), (10, v134), (11, .int .i64 0), (19, v23), (20, .int .i64 (r17.length : Int)), (21, .int .i64 (i29 : Int)), (49, .bool (((addI 1 r83) == 2) && ((r109.length : Int) == 2)))] a) ?_ ?_
            · refine G.byb (c := ((addI 1 r83) == 2)) (fun hc145 => ?_) (fun hc145 => ?_)
              · refine G.guard_yes rfl rfl hc145 ?_
                refine G.move (v := v115) rfl rfl ?_
                refine G.guard_yes rfl rfl hc145 ?_
                have h146 := h116.up u133
                refine G.len_rd rfl rfl Tryd.runUnderlying32 h146 ?_
                refine G.guard_yes rfl rfl hc145 ?_
                refine G.bin (u := .int .i64 (r109.length : Int)) (v := .int .i64 2) (r := .bool ((r109.length : Int) == 2)) rfl rfl rfl b_eql ?_
                refine G.pick_yes (u := .bool ((r109.length : Int) == 2)) rfl rfl hc145 rfl ?_
                refine G.recast (and_yes (x := ((r109.length : Int) == 2)) hc145) ?_
                refine G.nil ?_
                refine G.keep_ (L' := [(0, bs a0), (4, v50), (7, .pointer (some ⟨g90, 0, none⟩)), (8, v115), (9, .int .i64 r128.1), (10, v134), (11, .int .i64 0), (19, v23), (20, .int .i64 (r17.length : Int)), (21, .int .i64 (i29 : Int)), (49, .bool (((addI 1 r83) == 2) && ((r109.length : Int) == 2)))]) (is := [0, 4, 7, 8, 9, 10, 11, 19, 20, 21, 49]) rfl ?_
                exact G.finE fun _ a ha => ⟨rfl, ha⟩
              · refine G.skip_s rfl rfl hc145 rfl ?_
                refine G.skip_s rfl rfl hc145 rfl ?_
                refine G.skip_s rfl rfl hc145 rfl ?_
                refine G.pick_no (u := .bool false) rfl rfl hc145 rfl ?_
                refine G.recast (and_no (x := ((r109.length : Int) == 2)) hc145) ?_
                refine G.nil ?_
                refine G.keep_ (L' := [(0, bs a0), (4, v50), (7, .pointer (some ⟨g90, 0, none⟩)), (8, v115), (9, .int .i64 r128.1), (10, v134), (11, .int .i64 0), (19, v23), (20, .int .i64 (r17.length : Int)), (21, .int .i64 (i29 : Int)), (49, .bool (((addI 1 r83) == 2) && ((r109.length : Int) == 2)))]) (is := [0, 4, 7, 8, 9, 10, 11, 19, 20, 21, 49]) rfl ?_
                exact G.finE fun _ a ha => ⟨rfl, ha⟩
            · rintro a _ ⟨rfl, ha⟩ hF
              refine G.use hF ha ?_
              refine G.nil ?_
              refine G.keep_ (L' := [(0, bs a0), (4, v50), (7, .pointer (some ⟨g90, 0, none⟩)), (8, v115), (9, .int .i64 r128.1), (10, v134), (11, .int .i64 0), (19, v23), (20, .int .i64 (r17.length : Int)), (21, .int .i64 (i29 : Int)), (49, .bool (((addI 1 r83) == 2) && ((r109.length : Int) == 2)))]) (is := [0, 4, 7, 8, 9, 10, 11, 19, 20, 21, 49]) rfl ?_
              refine G.next_ hK142 ?_
              have h147 := h51.up0 u88
              have h148 := h147.up0 u92
              have nb150 : g90 ∉ ob v50 := fun hm => by have := u88.le.size; have := h51.lt _ hm; have := hg93; omega
              have h149 := h148.up u103 (fun k hk => nm_one (fun e => nb150 (e ▸ hk)))
              have h151 := h149.up0 u114
              have h152 := h151.up0 u133
              have hn153 := fun hs => hn99 (u103.old g90 (by have := lt97; omega) hs)
              have hn154 := fun hs => hn153 (u114.old g90 (by have := u103.le.size; have := lt97; omega) hs)
              have hn155 := fun hs => hn154 (u133.old g90 (by have := u103.le.size; have := u114.le.size; have := lt97; omega) hs)
              refine G.join (E := fun o a w' => ∃ b, o = .inr b ∧ ∃ (S_ : Nat → Prop), Fr 84 [(0, bs a0), (4, v50), (7, .pointer (some ⟨g90, 0, none⟩)), (9, .int .i64 r128.1), (10, v134), (11, .int .i64 b), (19, v23), (20, .int .i64 (r17.length : Int)), (21, .int .i64 (i29 : Int))] a ∧ Up [] S131 w132 S_ w') ?_ ?_
              · intro b hF156
                refine G.cond (b := (((addI 1 r83) == 2) && ((r109.length : Int) == 2))) rfl (fun hc157 => ?_) (fun hc157 => ?_)
                · refine G.keep_ (L' := [(0, bs a0), (4, v50), (7, .pointer (some ⟨g90, 0, none⟩)), (8, v115), (9, .int .i64 r128.1), (10, v134), (19, v23), (20, .int .i64 (r17.length : Int)), (21, .int .i64 (i29 : Int))]) (is := [0, 4, 7, 8, 9, 10, 19, 20, 21]) rfl ?_
                  refine G.seq fun K158 hK159 => ?_
                  refine G.region ?_
                  refine G.move (v := v115) rfl rfl ?_
                  have h160 := h116.up u133
                  refine G.nth_rd (i := 1) rfl rfl rfl Tryd.runUnderlying32 Tryd.sizeOf9 h160 ?_
                  intro y167 b161 o162 cs163 hy168 hC164 hl165 hR166
                  have hR166_ := Rd.val_iff.1 hR166; subst hR166_
                  refine G.load1 (o := o162) (j := 0) (cs := [bs y167]) (v := bs y167) rfl rfl Tryd.isAgg9 hC164 rfl rfl ?_
                  refine G.bind fun r169 hr170 => ?_
                  have hc171 := strconv_Atoi_ok hU136.live (hV0.up hU136) y167 hr170
                  refine G.call (R := strconv_Atoi.Post S131 w132 r169) (vs := [bs y167]) rfl rfl Tryd.call14 ?_ ?_
                  · exact hc171
                  rintro _ w173 ⟨S172, u174, v175, rfl, h176⟩
                  have hU177 := hU136.trans0 u174
                  refine G.move (v := .tuple [.int .i64 r169.1, v175].toArray) rfl rfl ?_
                  refine G.extract (vs := [.int .i64 r169.1, v175]) (v := .int .i64 r169.1) rfl rfl rfl ?_
                  refine G.extract (vs := [.int .i64 r169.1, v175]) (v := v175) rfl rfl rfl ?_
                  refine G.assign (v := .int .i64 r169.1) rfl rfl ?_
                  refine G.assign (v := v175) rfl rfl ?_
                  refine G.nil ?_
                  refine G.keep_ (L' := [(0, bs a0), (4, v50), (7, .pointer (some ⟨g90, 0, none⟩)), (9, .int .i64 r128.1), (10, v134), (12, .int .i64 r169.1), (13, v175), (19, v23), (20, .int .i64 (r17.length : Int)), (21, .int .i64 (i29 : Int))]) (is := [0, 4, 7, 9, 10, 12, 13, 19, 20, 21]) rfl ?_
                  refine G.next_ hK159 ?_
                  refine G.seq fun K178 hK179 => ?_
                  refine G.seq fun K180 hK181 => ?_
                  refine G.region ?_
                  refine G.move (v := v175) rfl rfl ?_
                  refine G.bin (u := v175) (v := .nilIface) (r := .bool r169.2) rfl rfl rfl (b_eneq Tryd.underlying40 h176) ?_
                  refine G.nil ?_
                  refine G.keep_ (L' := [(0, bs a0), (4, v50), (7, .pointer (some ⟨g90, 0, none⟩)), (9, .int .i64 r128.1), (10, v134), (12, .int .i64 r169.1), (19, v23), (20, .int .i64 (r17.length : Int)), (21, .int .i64 (i29 : Int)), (58, .bool r169.2)]) (is := [0, 4, 7, 9, 10, 12, 19, 20, 21, 58]) rfl ?_
                  refine G.next_ hK181 ?_
                  refine G.cond (b := r169.2) rfl (fun hc182 => ?_) (fun hc182 => ?_)
                  · refine G.keep_ (L' := []) (is := []) rfl ?_
                    refine G.seq fun K183 hK184 => ?_
                    refine G.region ?_
                    refine G.assign (v := .slice none 0 0) rfl rfl ?_
                    refine G.assign (v := .int .i64 3) rfl rfl ?_
                    refine G.nil ?_
                    refine G.keep_ (L' := [(2, .slice none 0 0), (3, .int .i64 3)]) (is := [2, 3]) rfl ?_
                    refine G.next_ hK184 ?_
                    refine G.ret ?_
                    refine G.thn_ret ?_
                    refine G.thn_ret ?_
                    refine G.thn_ret ?_
                    refine G.inB_ret ?_
                    refine G.thn_ret ?_
                    refine G.thn_ret ?_
                    refine G.inB_ret ?_
                    refine G.thn_ret ?_
                    refine G.thn_ret ?_
                    refine G.ret2 (v := .slice none 0 0) (v' := .int .i64 3) Tryd.results7 rfl rfl (fun hF185 => ?_)
                    have hb186 := Option.some.inj hF185
                    subst hb186
                    have hF187 : some (Sum.inl ((([] : List T_Choice), 3) : (List T_Choice) × Int)) = some _ := hF156
                    have hb188 := Option.some.inj hF187
                    subst hb188
                    have hF189 : (some (([] : List T_Choice), 3) : Option ((List T_Choice) × Int)) = some _ := hF26
                    obtain rfl := Option.some.inj hF189
                    exact ⟨_, hU177, .slice none 0 0, rfl, RdL.nil⟩
                  · refine G.keep_ (L' := [(0, bs a0), (4, v50), (7, .pointer (some ⟨g90, 0, none⟩)), (9, .int .i64 r128.1), (10, v134), (12, .int .i64 r169.1), (19, v23), (20, .int .i64 (r17.length : Int)), (21, .int .i64 (i29 : Int))]) (is := [0, 4, 7, 9, 10, 12, 19, 20, 21]) rfl ?_
                    refine G.skip ?_
                    refine G.next_ hK179 ?_
                    refine G.region ?_
                    refine G.move (v := .int .i64 r169.1) rfl rfl ?_
                    refine G.assign (v := .int .i64 r169.1) rfl rfl ?_
                    refine G.nil ?_
                    refine G.keep_ (L' := [(0, bs a0), (4, v50), (7, .pointer (some ⟨g90, 0, none⟩)), (9, .int .i64 r128.1), (10, v134), (11, .int .i64 r169.1), (19, v23), (20, .int .i64 (r17.length : Int)), (21, .int .i64 (i29 : Int))]) (is := [0, 4, 7, 9, 10, 11, 19, 20, 21]) rfl ?_
                    refine G.keep_ (L' := [(0, bs a0), (4, v50), (7, .pointer (some ⟨g90, 0, none⟩)), (9, .int .i64 r128.1), (10, v134), (11, .int .i64 r169.1), (19, v23), (20, .int .i64 (r17.length : Int)), (21, .int .i64 (i29 : Int))]) (is := [0, 4, 7, 9, 10, 11, 19, 20, 21]) rfl ?_
                    refine G.finE ?_
                    rintro rfl a ha
                    exact ⟨_, rfl, ⟨_, ha, ((Up.refl' hU136.live (in_nil)).trans0 u174)⟩⟩
                · refine G.keep_ (L' := [(0, bs a0), (4, v50), (7, .pointer (some ⟨g90, 0, none⟩)), (9, .int .i64 r128.1), (10, v134), (11, .int .i64 0), (19, v23), (20, .int .i64 (r17.length : Int)), (21, .int .i64 (i29 : Int))]) (is := [0, 4, 7, 9, 10, 11, 19, 20, 21]) rfl ?_
                  refine G.skip ?_
                  refine G.keep_ (L' := [(0, bs a0), (4, v50), (7, .pointer (some ⟨g90, 0, none⟩)), (9, .int .i64 r128.1), (10, v134), (11, .int .i64 0), (19, v23), (20, .int .i64 (r17.length : Int)), (21, .int .i64 (i29 : Int))]) (is := [0, 4, 7, 9, 10, 11, 19, 20, 21]) rfl ?_
                  refine G.finE ?_
                  rintro rfl a ha
                  exact ⟨_, rfl, ⟨_, ha, (Up.refl' hU136.live (in_nil))⟩⟩
              · rintro _ hb240 a w192 ⟨b190, rfl, S193, ha191, u194⟩ hF241
                refine G.use hF241 ha191 ?_
                refine G.inr2 ?_
                have hU195 := hU136.trans0 u194
                refine G.next_ hK140 ?_
                refine G.seq fun K196 hK197 => ?_
                refine G.seq fun K198 hK199 => ?_
                refine G.region ?_
                refine G.move (v := v134) rfl rfl ?_
                refine G.bin (u := v134) (v := .nilIface) (r := .bool r128.2) rfl rfl rfl (b_eneq Tryd.underlying40 h135) ?_
                refine G.nil ?_
                refine G.keep_ (L' := [(0, bs a0), (4, v50), (7, .pointer (some ⟨g90, 0, none⟩)), (9, .int .i64 r128.1), (11, .int .i64 b190), (19, v23), (20, .int .i64 (r17.length : Int)), (21, .int .i64 (i29 : Int)), (61, .bool r128.2)]) (is := [0, 4, 7, 9, 11, 19, 20, 21, 61]) rfl ?_
                refine G.next_ hK199 ?_
                refine G.cond (b := r128.2) rfl (fun hc200 => ?_) (fun hc200 => ?_)
                · refine G.keep_ (L' := []) (is := []) rfl ?_
                  refine G.seq fun K201 hK202 => ?_
                  refine G.region ?_
                  refine G.assign (v := .slice none 0 0) rfl rfl ?_
                  refine G.assign (v := .int .i64 3) rfl rfl ?_
                  refine G.nil ?_
                  refine G.keep_ (L' := [(2, .slice none 0 0), (3, .int .i64 3)]) (is := [2, 3]) rfl ?_
                  refine G.next_ hK202 ?_
                  refine G.ret ?_
                  refine G.thn_ret ?_
                  refine G.inB_ret ?_
                  refine G.thn_ret ?_
                  refine G.thn_ret ?_
                  refine G.inB_ret ?_
                  refine G.thn_ret ?_
                  refine G.thn_ret ?_
                  refine G.ret2 (v := .slice none 0 0) (v' := .int .i64 3) Tryd.results7 rfl rfl (fun hF203 => ?_)
                  have hb204 := Option.some.inj hF203
                  subst hb204
                  have hF205 : (some (([] : List T_Choice), 3) : Option ((List T_Choice) × Int)) = some _ := hF26
                  obtain rfl := Option.some.inj hF205
                  exact ⟨_, hU195, .slice none 0 0, rfl, RdL.nil⟩
                · refine G.keep_ (L' := [(0, bs a0), (4, v50), (7, .pointer (some ⟨g90, 0, none⟩)), (9, .int .i64 r128.1), (11, .int .i64 b190), (19, v23), (20, .int .i64 (r17.length : Int)), (21, .int .i64 (i29 : Int))]) (is := [0, 4, 7, 9, 11, 19, 20, 21]) rfl ?_
                  refine G.skip ?_
                  refine G.next_ hK197 ?_
                  refine G.seq fun K206 hK207 => ?_
                  refine G.region ?_
                  refine G.move (v := .int .i64 r128.1) rfl rfl ?_
                  refine G.move (v := .int .i64 b190) rfl rfl ?_
                  refine G.fieldAddr (o' := 1) rfl rfl Tryd.runUnderlying27 rfl Tryd.sizeOf3 rfl ?_
                  have hB208 := u194.le.kept0 hB144
                  have hn209 := fun hs => hn155 (u194.old g90 (by have := u103.le.size; have := u114.le.size; have := u133.le.size; have := lt97; omega) hs)
                  refine G.store (g := g90) (o := 1) (cs := [.int .i64 (addI 1 r83), .int .i64 0, .int .i64 0]) (c1 := [.int .i64 r128.1]) (cs' := [.int .i64 (addI 1 r83), .int .i64 r128.1, .int .i64 0]) (v := .int .i64 r128.1) rfl rfl rfl Tryd.sizeOf3 hB208 (List.forall_mem_cons.2 ⟨rfl, List.forall_mem_nil _⟩) (Nat.le_of_ble_eq_true rfl) rfl ?_
                  intro w210 le211 hB212
                  have u213 := Up.store hU195.live hn209 le211
                  have hU214 := hU195.trans u213 (in_one (.inr (by have := hU89.le.size; have := hg93; omega)))
                  refine G.fieldAddr (o' := 2) rfl rfl Tryd.runUnderlying27 rfl Tryd.sizeOf3 rfl ?_
                  have hn215 := fun hs => hn209 (u213.old g90 (by have := u103.le.size; have := u114.le.size; have := u133.le.size; have := u194.le.size; have := lt97; omega) hs)
                  refine G.store (g := g90) (o := 2) (cs := [.int .i64 (addI 1 r83), .int .i64 r128.1, .int .i64 0]) (c1 := [.int .i64 b190]) (cs' := [.int .i64 (addI 1 r83), .int .i64 r128.1, .int .i64 b190]) (v := .int .i64 b190) rfl rfl rfl Tryd.sizeOf3 hB212 (List.forall_mem_cons.2 ⟨rfl, List.forall_mem_nil _⟩) (Nat.le_of_ble_eq_true rfl) rfl ?_
                  intro w216 le217 hB218
                  have u219 := Up.store hU214.live hn215 le217
                  have hU220 := hU214.trans u219 (in_one (.inr (by have := hU89.le.size; have := hg93; omega)))
                  refine G.nil ?_
                  refine G.keep_ (L' := [(0, bs a0), (4, v50), (7, .pointer (some ⟨g90, 0, none⟩)), (19, v23), (20, .int .i64 (r17.length : Int)), (21, .int .i64 (i29 : Int))]) (is := [0, 4, 7, 19, 20, 21]) rfl ?_
                  refine G.next_ hK207 ?_
                  refine G.region ?_
                  refine G.move (v := v50) rfl rfl ?_
                  refine G.loadN (o := 0) (j := 0) (cs := [.int .i64 (addI 1 r83), .int .i64 r128.1, .int .i64 b190]) (c1 := [.int .i64 (addI 1 r83), .int .i64 r128.1, .int .i64 b190]) rfl rfl Tryd.isAgg27 Tryd.sizeOf27 (Cs.of_block hB218) rfl rfl rfl (Nat.le_of_ble_eq_true rfl) ?_
                  refine G.buildSlice (ys := ([(T_Choice.mk (addI 1 r83) r128.1 b190)] : List T_Choice)) (xs := [.tmp 67]) (vs := [.agg [.int .i64 (addI 1 r83), .int .i64 r128.1, .int .i64 b190].toArray]) (cs := [.int .i64 (addI 1 r83), .int .i64 r128.1, .int .i64 b190]) rfl elt22 rfl rfl rfl (by decide) rfl (List.forall_mem_cons.2 ⟨rfl, List.forall_mem_nil _⟩) (rfl) (RdX.one (enc := e_T_Choice) (x := (T_Choice.mk (addI 1 r83) r128.1 b190)) (m_T_Choice (T_Choice.mk (addI 1 r83) r128.1 b190)) rfl) hU220.le.size hU220.live ?_
                  intro v221 w222 u223 h224 hw225
                  have hU226 := hU220.trans0 u223
                  have h227 := h152.up0 u194
                  have h228 := h227.up u213 (fun k hk => nm_one (fun e => nb150 (e ▸ hk)))
                  have h229 := h228.up u219 (fun k hk => nm_one (fun e => nb150 (e ▸ hk)))
                  have h230 := h229.up0 u223
                  refine G.append (xs := x28) (ys := ([(T_Choice.mk (addI 1 r83) r128.1 b190)] : List T_Choice)) (lim := 5864062014805) rfl elt22 rfl rfl (by decide) (by decide) one_T_Choice h230 h224.src hU226.le.size hU226.live ?_
                  intro l231 v232 w233 hz234 u235 h236 ho237
                  have hU238 := hU226.trans u235 (fun m hm => .inr (h230.born m hm))
                  refine G.assign (v := v232) rfl rfl ?_
                  refine G.nil ?_
                  refine G.keep_ (L' := [(0, bs a0), (4, v232), (19, v23), (20, .int .i64 (r17.length : Int)), (21, .int .i64 (i29 : Int))]) (is := [0, 4, 19, 20, 21]) rfl ?_
                  refine G.inB ?_
                  refine G.next_ hK59 ?_
                  refine G.region ?_
                  refine G.incr (i := i29) (N := r17.length) rfl rfl rfl (rng_lt hd32) (h24.length_le) ?_
                  refine G.move (v := .int .i64 ((i29 + 1 : Nat) : Int)) rfl rfl ?_
                  refine G.nil ?_
                  refine G.keep_ (L' := [(0, bs a0), (4, v232), (19, v23), (20, .int .i64 (r17.length : Int)), (21, .int .i64 ((i29 + 1 : Nat) : Int))]) (is := [0, 4, 19, 20, 21]) rfl ?_
                  refine G.keep_ (L' := [(0, bs a0), (4, v232), (19, v23), (20, .int .i64 (r17.length : Int)), (21, .int .i64 ((i29 + 1 : Nat) : Int))]) (is := [0, 4, 19, 20, 21]) rfl ?_
                  refine G.again ?_
                  intro hl239 a ha
                  exact ⟨_, Nat.lt_succ_self _, rest31, i29 + 1, l231, rfl, hl239, rng_next hd32, v232, _, ha, ((((((((((((Up.refl' hU25.live (in_nil)).trans0 u49).trans0 u88).trans0 u92).trans u103 (in_one (.inr (by have := u49.le.size; have := u88.le.size; have := hg93; omega)))).trans0 u114).trans0 u133).trans0 u194).trans u213 (in_one (.inr (by have := u49.le.size; have := u88.le.size; have := hg93; omega)))).trans u219 (in_one (.inr (by have := u49.le.size; have := u88.le.size; have := hg93; omega)))).trans0 u223).trans u235 (fun k hk => .inr ((org0_step ho52 (fun k hk => absurd hk (by simp [ob_nil])) (by omega)) k hk))), h236, fun k hk => .inr ((org0_step ho237 (org0_step ho52 (fun k hk => absurd hk (by simp [ob_nil])) (by omega)) (by have := u49.le.size; have := u88.le.size; have := u92.le.size; have := u103.le.size; have := u114.le.size; have := u133.le.size; have := u194.le.size; have := u213.le.size; have := u219.le.size; have := u223.le.size; omega)) k hk)⟩
    · rintro _ hb277 a w245 ⟨b243, rfl, v248, S246, ha244, u247, h249, ho250⟩ hF278
      refine G.use hF278 ha244 ?_
      refine G.inr ?_
      have hU251 := hU25.trans0 u247
      refine G.next_ hK14 ?_
      refine G.seq fun K252 hK253 => ?_
      refine G.seq fun K254 hK255 => ?_
      refine G.region ?_
      refine G.move (v := v248) rfl rfl ?_
      obtain ⟨S256, hS256⟩ : ∃ X : Nat → Prop, X = fun b => S246 b ∨ b ∈ ob v248 := ⟨_, rfl⟩
      have hU257 : Up [] S0 w0 S256 w245 := by rw [hS256]; exact Up.freeze hU251 h249.born h249.lt
      have h258 : RdL _ _ S256 _ _ _ := h249.read (by rw [hS256]; exact fun _ h => .inl h) (by rw [hS256]; exact fun _ h => .inr h)
      refine G.bind fun r259 hr260 => ?_
      have hc261 := roadref5_ChoiceText_ok hU257.live (hV0.up hU257) b243 v248 h258 hr260
      refine G.call (R := roadref5_ChoiceText.Post S256 w245 r259) (vs := [v248]) rfl rfl Tryd.call5 ?_ ?_
      · exact hc261
      rintro _ w263 ⟨S262, u264, rfl⟩
      have hU265 := hU257.trans0 u264
      refine G.move (v := .tuple [bs r259.1, .int .i64 r259.2].toArray) rfl rfl ?_
      refine G.extract (vs := [bs r259.1, .int .i64 r259.2]) (v := bs r259.1) rfl rfl rfl ?_
      refine G.extract (vs := [bs r259.1, .int .i64 r259.2]) (v := .int .i64 r259.2) rfl rfl rfl ?_
      refine G.assign (v := bs r259.1) rfl rfl ?_
      refine G.assign (v := .int .i64 r259.2) rfl rfl ?_
      refine G.nil ?_
      refine G.keep_ (L' := [(0, bs a0), (4, v248), (14, bs r259.1), (15, .int .i64 r259.2)]) (is := [0, 4, 14, 15]) rfl ?_
      refine G.next_ hK255 ?_
      refine G.seq fun K266 hK267 => ?_
      refine G.region ?_
      refine G.move (v := .int .i64 r259.2) rfl rfl ?_
      refine G.bin (u := .int .i64 r259.2) (v := .int .i64 0) (r := .bool (r259.2 != 0)) rfl rfl rfl b_neq ?_
      refine G.move (v := .bool (r259.2 != 0)) rfl rfl ?_
      refine G.cut 4 (fun a w' => w263 = w' ∧ Fr 84 [(4, v248), (82, .bool ((r259.2 != 0) || (r259.1 != a0)))] a) ?_ ?_
      · refine G.byb (c := (r259.2 != 0)) (fun hc268 => ?_) (fun hc268 => ?_)
        · refine G.skip_s rfl rfl hc268 rfl ?_
          refine G.skip_s rfl rfl hc268 rfl ?_
          refine G.skip_s rfl rfl hc268 rfl ?_
          refine G.pick_yes (u := .bool true) rfl rfl hc268 rfl ?_
          refine G.recast (or_yes (x := (r259.1 != a0)) hc268) ?_
          refine G.nil ?_
          refine G.keep_ (L' := [(4, v248), (82, .bool ((r259.2 != 0) || (r259.1 != a0)))]) (is := [4, 82]) rfl ?_
          exact G.finE fun _ a ha => ⟨rfl, ha⟩
        · refine G.guard_yes rfl rfl hc268 ?_
          refine G.move (v := bs r259.1) rfl rfl ?_
          refine G.guard_yes rfl rfl hc268 ?_
          refine G.move (v := bs a0) rfl rfl ?_
          refine G.guard_yes rfl rfl hc268 ?_
          refine G.bin (u := bs r259.1) (v := bs a0) (r := .bool (r259.1 != a0)) rfl rfl rfl b_sneq ?_
          refine G.pick_no (u := .bool (r259.1 != a0)) rfl rfl hc268 rfl ?_
          refine G.recast (or_no (x := (r259.1 != a0)) hc268) ?_
          refine G.nil ?_
          refine G.keep_ (L' := [(4, v248), (82, .bool ((r259.2 != 0) || (r259.1 != a0)))]) (is := [4, 82]) rfl ?_
          exact G.finE fun _ a ha => ⟨rfl, ha⟩
      · rintro a _ ⟨rfl, ha⟩ hF
        refine G.use hF ha ?_
        refine G.nil ?_
        refine G.keep_ (L' := [(4, v248), (82, .bool ((r259.2 != 0) || (r259.1 != a0)))]) (is := [4, 82]) rfl ?_
        refine G.next_ hK267 ?_
        refine G.cond (b := ((r259.2 != 0) || (r259.1 != a0))) rfl (fun hc269 => ?_) (fun hc269 => ?_)
        · refine G.keep_ (L' := []) (is := []) rfl ?_
          refine G.seq fun K270 hK271 => ?_
          refine G.region ?_
          refine G.assign (v := .slice none 0 0) rfl rfl ?_
          refine G.assign (v := .int .i64 3) rfl rfl ?_
          refine G.nil ?_
          refine G.keep_ (L' := [(2, .slice none 0 0), (3, .int .i64 3)]) (is := [2, 3]) rfl ?_
          refine G.next_ hK271 ?_
          refine G.ret ?_
          refine G.thn_ret ?_
          refine G.ret2 (v := .slice none 0 0) (v' := .int .i64 3) Tryd.results7 rfl rfl (fun hF272 => ?_)
          obtain rfl := Option.some.inj hF272
          exact ⟨_, hU265, .slice none 0 0, rfl, RdL.nil⟩
        · refine G.keep_ (L' := [(4, v248)]) (is := [4]) rfl ?_
          refine G.skip ?_
          refine G.next_ hK253 ?_
          refine G.seq fun K273 hK274 => ?_
          refine G.region ?_
          refine G.move (v := v248) rfl rfl ?_
          refine G.assign (v := v248) rfl rfl ?_
          refine G.assign (v := .int .i64 0) rfl rfl ?_
          refine G.nil ?_
          refine G.keep_ (L' := [(2, v248), (3, .int .i64 0)]) (is := [2, 3]) rfl ?_
          refine G.next_ hK274 ?_
          refine G.ret ?_
          have h275 := h258.up u264
          refine G.ret2 (v := v248) (v' := .int .i64 0) Tryd.results7 rfl rfl (fun hF276 => ?_)
          obtain rfl := Option.some.inj hF276
          exact ⟨_, hU265, v248, rfl, h275⟩
/-! slices.Equal[[]roadstead/replay.Choice,roadstead/replay.Choice] -/
def slices_Equal_replay_Choice_replay_Choice.l1 (a1 : List T_Choice) : List (T_Choice) → Nat → Option (Bool ⊕ (Unit))
  | [], i17 => some (.inr ())
  | y18 :: rest19, i17 => (nth a1 (i17 : Int)).bind fun y60 => (if (!(y18.fKind == y60.fKind && y18.fA == y60.fA && y18.fB == y60.fB)) = true then some (.inl false) else slices_Equal_replay_Choice_replay_Choice.l1 a1 rest19 (i17 + 1))

theorem slices_Equal_replay_Choice_replay_Choice.l1_nil (a1 : List T_Choice) {i17 : Nat} : slices_Equal_replay_Choice_replay_Choice.l1 a1 [] i17 = some (.inr ()) := rfl
theorem slices_Equal_replay_Choice_replay_Choice.l1_cons (a1 : List T_Choice) {y18 : T_Choice} {rest19 : List (T_Choice)} {i17 : Nat} : slices_Equal_replay_Choice_replay_Choice.l1 a1 (y18 :: rest19) i17 = (nth a1 (i17 : Int)).bind fun y60 => (if (!(y18.fKind == y60.fKind && y18.fA == y60.fA && y18.fB == y60.fB)) = true then some (.inl false) else slices_Equal_replay_Choice_replay_Choice.l1 a1 rest19 (i17 + 1)) := rfl
def slices_Equal_replay_Choice_replay_Choice.Post (S : Nat → Prop) (w : World) (out : Bool) (v : Value) (w' : World) : Prop := ∃ S', Up [] S w S' w' ∧ v = .bool out
def slices_Equal_replay_Choice_replay_Choice.Spec (F : (List T_Choice) → (List T_Choice) → Option (Bool)) : Prop := ∀ {S : Nat → Prop} {w : World} (_ : ∀ b, S b → b < w.heap.size) (a0 : List T_Choice) (a1 : List T_Choice) (v0_0 : Value) (v1_0 : Value) (_ : RdL e_T_Choice 3 S w v0_0 a0) (_ : RdL e_T_Choice 3 S w v1_0 a1) {out : Bool}, F a0 a1 = some out → Calls Tryd.prog 8 [v0_0, v1_0].toArray w (Rets (slices_Equal_replay_Choice_replay_Choice.Post S w out))
def slices_Equal_replay_Choice_replay_Choice (a0 : List T_Choice) (a1 : List T_Choice) : Option (Bool) := (if ((a0.length : Int) != (a1.length : Int)) = true then some false else (slices_Equal_replay_Choice_replay_Choice.l1 a1 a0 0).bind (retOr fun b119 => some true))
set_option maxRecDepth 100000 in
theorem slices_Equal_replay_Choice_replay_Choice_ok : slices_Equal_replay_Choice_replay_Choice.Spec (slices_Equal_replay_Choice_replay_Choice ) := by
  intro S0 w0 hS0 a0 a1 v0_0 v1_0 h0_0 h1_0 out hp
  have hU0 := Up.refl hS0
  refine calls_of_G (nt := 26) Tryd.func8 rfl Tryd.ntmps8 rfl ?_ hp
  unfold slices_Equal_replay_Choice_replay_Choice
  refine G.seq fun K1 hK2 => ?_
  refine G.region ?_
  refine G.assign (v := .bool false) rfl rfl ?_
  refine G.nil ?_
  refine G.keep_ (L' := [(0, v0_0), (1, v1_0)]) (is := [0, 1]) rfl ?_
  refine G.next_ hK2 ?_
  refine G.seq fun K3 hK4 => ?_
  refine G.seq fun K5 hK6 => ?_
  refine G.region ?_
  refine G.move (v := v0_0) rfl rfl ?_
  refine G.len_rd rfl rfl Tryd.runUnderlying22 h0_0 ?_
  refine G.move (v := v1_0) rfl rfl ?_
  refine G.len_rd rfl rfl Tryd.runUnderlying22 h1_0 ?_
  refine G.bin (u := .int .i64 (a0.length : Int)) (v := .int .i64 (a1.length : Int)) (r := .bool ((a0.length : Int) != (a1.length : Int))) rfl rfl rfl b_neq ?_
  refine G.nil ?_
  refine G.keep_ (L' := [(0, v0_0), (1, v1_0), (10, .bool ((a0.length : Int) != (a1.length : Int)))]) (is := [0, 1, 10]) rfl ?_
  refine G.next_ hK6 ?_
  refine G.cond (b := ((a0.length : Int) != (a1.length : Int))) rfl (fun hc7 => ?_) (fun hc7 => ?_)
  · refine G.keep_ (L' := []) (is := []) rfl ?_
    refine G.seq fun K8 hK9 => ?_
    refine G.region ?_
    refine G.assign (v := .bool false) rfl rfl ?_
    refine G.nil ?_
    refine G.keep_ (L' := [(4, .bool false)]) (is := [4]) rfl ?_
    refine G.next_ hK9 ?_
    refine G.ret ?_
    refine G.thn_ret ?_
    refine G.ret1 (v := .bool false) Tryd.results8 rfl (fun hF10 => ?_)
    obtain rfl := Option.some.inj hF10
    exact ⟨_, hU0, rfl⟩
  · refine G.keep_ (L' := [(0, v0_0), (1, v1_0)]) (is := [0, 1]) rfl ?_
    refine G.skip ?_
    refine G.next_ hK4 ?_
    refine G.seq fun K11 hK12 => ?_
    refine G.seq fun K13 hK14 => ?_
    refine G.region ?_
    refine G.move (v := v0_0) rfl rfl ?_
    refine G.len_rd rfl rfl Tryd.runUnderlying22 h0_0 ?_
    refine G.move (v := .int .i64 0) rfl rfl ?_
    refine G.nil ?_
    refine G.keep_ (L' := [(0, v0_0), (1, v1_0), (12, .int .i64 (a0.length : Int)), (13, .int .i64 0)]) (is := [0, 1, 12, 13]) rfl ?_
    refine G.next_ hK14 ?_
    refine G.join (E := fun o a w' => ∃ b, o = .inr b ∧ ∃ (S_ : Nat → Prop), Fr 26 [] a ∧ Up [] S0 w0 S_ w') ?_ ?_
    · intro b hF15
      refine G.block ?_
      refine G.keep_ (L' := [(0, v0_0), (1, v1_0), (12, .int .i64 (a0.length : Int)), (13, .int .i64 ((0 : Nat) : Int))]) (is := [0, 1, 12, 13]) rfl ?_
      refine G.loop (fun k a w => ∃ (rest19 : List (T_Choice)) (i17 : Nat), k = rest19.length ∧ slices_Equal_replay_Choice_replay_Choice.l1 a1 rest19 i17 = some b ∧ a0.drop i17 = rest19 ∧ ∃ (S_ : Nat → Prop), Fr 26 [(0, v0_0), (1, v1_0), (12, .int .i64 (a0.length : Int)), (13, .int .i64 (i17 : Int))] a ∧ Up [] S0 w0 S_ w) (a0.length) ?_ ?_
      · intro hl118 a ha
        exact ⟨a0, 0, rfl, hl118, rfl, _, ha, (Up.refl' hU0.live (in_nil))⟩
      · rintro _ a ww ⟨rest19, i17, rfl, hl16, hd20, hJ⟩
        rcases rest19 with _ | ⟨y18, rest19⟩
        · rw [slices_Equal_replay_Choice_replay_Choice.l1_nil] at hl16
          obtain ⟨w23, rfl⟩ : ∃ x : World, x = ww := ⟨ww, rfl⟩
          obtain ⟨S24, ha22, u25⟩ := hJ
          refine G.use hl16 ha22 ?_
          have hU26 := hU0.trans0 u25
          refine G.seq fun K27 hK28 => ?_
          refine G.region ?_
          refine G.bin (u := .int .i64 (i17 : Int)) (v := .int .i64 (a0.length : Int)) (r := .bool (decide ((i17 : Int) < (a0.length : Int)))) rfl rfl rfl b_lss ?_
          refine G.nil ?_
          refine G.keep_ (L' := [(0, v0_0), (1, v1_0), (12, .int .i64 (a0.length : Int)), (13, .int .i64 (i17 : Int)), (14, .bool (decide ((i17 : Int) < (a0.length : Int))))]) (is := [0, 1, 12, 13, 14]) rfl ?_
          refine G.next_ hK28 ?_
          refine G.seq fun K29 hK30 => ?_
          refine G.no rfl (rng_end hd20) ?_
          refine G.exit ?_
          refine G.thn_exit ?_
          refine G.thn_exit ?_
          refine G.inB_eq ?_
          refine G.keep_ (L' := []) (is := []) rfl ?_
          refine G.finE ?_
          rintro rfl a ha
          exact ⟨_, rfl, ⟨_, ha, ((Up.refl' hU0.live (in_nil)).trans0 u25)⟩⟩
        · rw [slices_Equal_replay_Choice_replay_Choice.l1_cons] at hl16
          obtain ⟨w32, rfl⟩ : ∃ x : World, x = ww := ⟨ww, rfl⟩
          obtain ⟨S33, ha31, u34⟩ := hJ
          refine G.use hl16 ha31 ?_
          have hU35 := hU0.trans0 u34
          refine G.seq fun K36 hK37 => ?_
          refine G.region ?_
          refine G.bin (u := .int .i64 (i17 : Int)) (v := .int .i64 (a0.length : Int)) (r := .bool (decide ((i17 : Int) < (a0.length : Int)))) rfl rfl rfl b_lss ?_
          refine G.nil ?_
          refine G.keep_ (L' := [(0, v0_0), (1, v1_0), (12, .int .i64 (a0.length : Int)), (13, .int .i64 (i17 : Int)), (14, .bool (decide ((i17 : Int) < (a0.length : Int))))]) (is := [0, 1, 12, 13, 14]) rfl ?_
          refine G.next_ hK37 ?_
          refine G.seq fun K38 hK39 => ?_
          refine G.yes rfl (rng_more hd20) ?_
          refine G.skip ?_
          refine G.next_ hK39 ?_
          refine G.seq fun K40 hK41 => ?_
          refine G.block ?_
          refine G.seq fun K42 hK43 => ?_
          refine G.region ?_
          refine G.move (v := .int .i64 (i17 : Int)) rfl rfl ?_
          refine G.assign (v := .int .i64 (i17 : Int)) rfl rfl ?_
          refine G.nil ?_
          refine G.keep_ (L' := [(0, v0_0), (1, v1_0), (5, .int .i64 (i17 : Int)), (12, .int .i64 (a0.length : Int)), (13, .int .i64 (i17 : Int))]) (is := [0, 1, 5, 12, 13]) rfl ?_
          refine G.next_ hK43 ?_
          refine G.seq fun K44 hK45 => ?_
          refine G.bind fun y60 hq62 => ?_
          refine G.draw [] mixed 9 rfl ?_
          intro w87 le88
          have u89 := Up.of_le hU35.live le88
          have hU90 := hU35.trans0 u89
          have h91 := h0_0.up u34
          have h92 := h91.up u89
          have h93 := h1_0.up u34
          have h94 := h93.up u89
          refine GH.take 0 rfl rfl (by kernel_rfl) (by kernel_rfl) (by kernel_rfl) (Q.move rfl) (Le.refl [] _) (fun _ _ _ h => h) ?_
          refine GH.take 1 rfl rfl (by kernel_rfl) (by kernel_rfl) (by kernel_rfl) (Q.move rfl) (Le.refl [] _) (fun _ _ _ h => h) ?_
          refine Q.at_rd (P := Tryd.prog) (w := w87) (x := .tmp 16) (ix := .tmp 17) (t := 22) (W := []) (i := i17) (y := y18) rfl rfl Tryd.runUnderlying22 Tryd.sizeOf27 h92 (rng_at hd20) ?_
          intro b95 o96 cs97 hs98 hC99 hl100 hR101 hq102
          have hR101_ := o_T_Choice hR101; subst hR101_
          refine GH.take 2 rfl rfl (by kernel_rfl) (by kernel_rfl) (by kernel_rfl) (hq102 _ _ _ _ _) (Le.refl [] _) (fun _ _ _ h => h) ?_
          refine GH.take 3 rfl rfl (by kernel_rfl) (by kernel_rfl) (by kernel_rfl) (Q.loadN (o := o96) (j := 0) (cs := [.int .i64 y18.fKind, .int .i64 y18.fA, .int .i64 y18.fB]) (c1 := [.int .i64 y18.fKind, .int .i64 y18.fA, .int .i64 y18.fB]) rfl Tryd.isAgg27 Tryd.sizeOf27 hC99 List.not_mem_nil rfl rfl rfl (Nat.le_of_ble_eq_true rfl)) (Le.refl [] _) (fun _ _ _ h => h) ?_
          refine GH.take 4 rfl rfl (by kernel_rfl) (by kernel_rfl) (by kernel_rfl) (Q.move rfl) (Le.refl [] _) (fun _ _ _ h => h) ?_
          refine GH.take 5 rfl rfl (by kernel_rfl) (by kernel_rfl) (by kernel_rfl) (Q.move rfl) (Le.refl [] _) (fun _ _ _ h => h) ?_
          refine Q.nth_rd (P := Tryd.prog) (w := w87) (x := .tmp 20) (ix := .tmp 21) (t := 22) (W := []) (i := (i17 : Int)) (y := y60) rfl rfl Tryd.runUnderlying22 Tryd.sizeOf27 h94 hq62 ?_
          intro b103 o104 cs105 hs106 hC107 hl108 hR109 hq110
          have hR109_ := o_T_Choice hR109; subst hR109_
          refine GH.take 6 rfl rfl (by kernel_rfl) (by kernel_rfl) (by kernel_rfl) (hq110 _ _ _ _ _) (Le.refl [] _) (fun _ _ _ h => h) ?_
          refine GH.take 7 rfl rfl (by kernel_rfl) (by kernel_rfl) (by kernel_rfl) (Q.loadN (o := o104) (j := 0) (cs := [.int .i64 y60.fKind, .int .i64 y60.fA, .int .i64 y60.fB]) (c1 := [.int .i64 y60.fKind, .int .i64 y60.fA, .int .i64 y60.fB]) rfl Tryd.isAgg27 Tryd.sizeOf27 hC107 List.not_mem_nil rfl rfl rfl (Nat.le_of_ble_eq_true rfl)) (Le.refl [] _) (fun _ _ _ h => h) ?_
          refine GH.take 8 rfl rfl (by kernel_rfl) (by kernel_rfl) (by kernel_rfl) (Q.bin (u := .agg [.int .i64 y18.fKind, .int .i64 y18.fA, .int .i64 y18.fB].toArray) (v := .agg [.int .i64 y60.fKind, .int .i64 y60.fA, .int .i64 y60.fB].toArray) (r := .bool (!(y18.fKind == y60.fKind && y18.fA == y60.fA && y18.fB == y60.fB))) rfl rfl (by exact neqs27)) (Le.refl [] _) (fun _ _ _ h => h) ?_
          refine GH.done (by kernel_rfl) ?_
          refine G.keep_ (L' := [(0, v0_0), (1, v1_0), (12, .int .i64 (a0.length : Int)), (13, .int .i64 (i17 : Int)), (24, .bool (!(y18.fKind == y60.fKind && y18.fA == y60.fA && y18.fB == y60.fB)))]) (is := [0, 1, 12, 13, 24]) rfl ?_
          refine G.next_ hK45 ?_
          refine G.cond (b := (!(y18.fKind == y60.fKind && y18.fA == y60.fA && y18.fB == y60.fB))) rfl (fun hc111 => ?_) (fun hc111 => ?_)
          · refine G.keep_ (L' := []) (is := []) rfl ?_
            refine G.seq fun K112 hK113 => ?_
            refine G.region ?_
            refine G.assign (v := .bool false) rfl rfl ?_
            refine G.nil ?_
            refine G.keep_ (L' := [(4, .bool false)]) (is := [4]) rfl ?_
            refine G.next_ hK113 ?_
            refine G.ret ?_
            refine G.inB_ret ?_
            refine G.thn_ret ?_
            refine G.thn_ret ?_
            refine G.inB_ret ?_
            refine G.thn_ret ?_
            refine G.thn_ret ?_
            refine G.ret1 (v := .bool false) Tryd.results8 rfl (fun hF114 => ?_)
            have hb115 := Option.some.inj hF114
            subst hb115
            have hF116 : (some false : Option (Bool)) = some _ := hF15
            obtain rfl := Option.some.inj hF116
            exact ⟨_, hU90, rfl⟩
          · refine G.keep_ (L' := [(0, v0_0), (1, v1_0), (12, .int .i64 (a0.length : Int)), (13, .int .i64 (i17 : Int))]) (is := [0, 1, 12, 13]) rfl ?_
            refine G.skip ?_
            refine G.inB ?_
            refine G.next_ hK41 ?_
            refine G.region ?_
            refine G.incr (i := i17) (N := a0.length) rfl rfl rfl (rng_lt hd20) (h0_0.length_le) ?_
            refine G.move (v := .int .i64 ((i17 + 1 : Nat) : Int)) rfl rfl ?_
            refine G.nil ?_
            refine G.keep_ (L' := [(0, v0_0), (1, v1_0), (12, .int .i64 (a0.length : Int)), (13, .int .i64 ((i17 + 1 : Nat) : Int))]) (is := [0, 1, 12, 13]) rfl ?_
            refine G.keep_ (L' := [(0, v0_0), (1, v1_0), (12, .int .i64 (a0.length : Int)), (13, .int .i64 ((i17 + 1 : Nat) : Int))]) (is := [0, 1, 12, 13]) rfl ?_
            refine G.again ?_
            intro hl117 a ha
            exact ⟨_, Nat.lt_succ_self _, rest19, i17 + 1, rfl, hl117, rng_next hd20, _, ha, (((Up.refl' hU0.live (in_nil)).trans0 u34).trans0 u89)⟩
    · rintro _ hb128 a w121 ⟨b119, rfl, S122, ha120, u123⟩ hF129
      refine G.use hF129 ha120 ?_
      refine G.inr ?_
      have hU124 := hU0.trans0 u123
      refine G.next_ hK12 ?_
      refine G.seq fun K125 hK126 => ?_
      refine G.region ?_
      refine G.assign (v := .bool true) rfl rfl ?_
      refine G.nil ?_
      refine G.keep_ (L' := [(4, .bool true)]) (is := [4]) rfl ?_
      refine G.next_ hK126 ?_
      refine G.ret ?_
      refine G.ret1 (v := .bool true) Tryd.results8 rfl (fun hF127 => ?_)
      obtain rfl := Option.some.inj hF127
      exact ⟨_, hU124, rfl⟩
/-! roadstead/roadlaw5.ReplayTexts -/
def roadlaw5_ReplayTexts.Post (S : Nat → Prop) (w : World) (out : Bool) (v : Value) (w' : World) : Prop := ∃ S', Up [] S w S' w' ∧ v = .bool out
def roadlaw5_ReplayTexts.Spec (F : (List T_Choice) → Str → Option (Bool)) : Prop := ∀ {S : Nat → Prop} {w : World} (_ : ∀ b, S b → b < w.heap.size) (_ : Vars Tryd.prog S w) (a0 : List T_Choice) (a1 : Str) (v0_0 : Value) (_ : RdL e_T_Choice 3 S w v0_0 a0) {out : Bool}, F a0 a1 = some out → Calls Tryd.prog 3 [v0_0, bs a1].toArray w (Rets (roadlaw5_ReplayTexts.Post S w out))
def roadlaw5_ReplayTexts (a0 : List T_Choice) (a1 : Str) : Option (Bool) := (replay_Text ([(T_Choice.mk 1 2 0)] : List T_Choice)).bind fun r16 => (if ((r16.2 != 0) || (r16.1 != ([103, 50] : Str))) = true then some false else (replay_Text a0).bind fun r35 => (roadref5_ChoiceText a0).bind fun r48 => (replay_Read a1).bind fun r57 => (roadref5_ChoiceOf a1).bind fun r68 => (if ((r35.1 == r48.1) && (r35.2 == r48.2)) = true then (slices_Equal_replay_Choice_replay_Choice r57.1 r68.1).bind fun r86 => some r86 else some false).bind fun t81 => some (t81 && (r57.2 == r68.2)))
set_option maxRecDepth 100000 in
theorem roadlaw5_ReplayTexts_ok : roadlaw5_ReplayTexts.Spec (roadlaw5_ReplayTexts ) := by
  intro S0 w0 hS0 hV0 a0 a1 v0_0 h0_0 out hp
  have hU0 := Up.refl hS0
  refine calls_of_G (nt := 65) Tryd.func3 rfl Tryd.ntmps3 rfl ?_ hp
  unfold roadlaw5_ReplayTexts
  refine G.seq fun K1 hK2 => ?_
  refine G.region ?_
  refine G.assign (v := .bool false) rfl rfl ?_
  refine G.nil ?_
  refine G.keep_ (L' := [(0, v0_0), (1, bs a1)]) (is := [0, 1]) rfl ?_
  refine G.next_ hK2 ?_
  refine G.seq fun K3 hK4 => ?_
  refine G.seq fun K5 hK6 => ?_
  refine G.region ?_
  refine G.build (pv := [(0, .int .i64 1), (1, .int .i64 2)]) (v := .agg [.int .i64 1, .int .i64 2, .int .i64 0].toArray) rfl rfl (fun w => run_build w 27 _ _ (by kernel_rfl)) ?_
  refine G.buildSlice (ys := ([(T_Choice.mk 1 2 0)] : List T_Choice)) (xs := [.tmp 16]) (vs := [.agg [.int .i64 1, .int .i64 2, .int .i64 0].toArray]) (cs := [.int .i64 1, .int .i64 2, .int .i64 0]) rfl elt22 rfl rfl rfl (by decide) rfl (List.forall_mem_cons.2 ⟨rfl, List.forall_mem_nil _⟩) (rfl) (RdX.one (enc := e_T_Choice) (x := (T_Choice.mk 1 2 0)) (m_T_Choice (T_Choice.mk 1 2 0)) rfl) hU0.le.size hU0.live ?_
  intro v7 w8 u9 h10 hw11
  have hU12 := hU0.trans0 u9
  obtain ⟨S13, hS13⟩ : ∃ X : Nat → Prop, X = fun b => S0 b ∨ b ∈ ob v7 := ⟨_, rfl⟩
  have hU14 : Up [] S0 w0 S13 w8 := by rw [hS13]; exact Up.freeze hU12 h10.born h10.lt
  have h15 : RdL _ _ S13 _ _ _ := h10.read (by rw [hS13]; exact fun _ h => .inl h) (by rw [hS13]; exact fun _ h => .inr h)
  refine G.bind fun r16 hr17 => ?_
  have hc18 := replay_Text_ok hU14.live (hV0.up hU14) ([(T_Choice.mk 1 2 0)] : List T_Choice) v7 h15 hr17
  refine G.call (R := replay_Text.Post S13 w8 r16) (vs := [v7]) rfl rfl Tryd.call4 ?_ ?_
  · exact hc18
  rintro _ w20 ⟨S19, u21, rfl⟩
  have hU22 := hU14.trans0 u21
  refine G.move (v := .tuple [bs r16.1, .int .i64 r16.2].toArray) rfl rfl ?_
  refine G.extract (vs := [bs r16.1, .int .i64 r16.2]) (v := bs r16.1) rfl rfl rfl ?_
  refine G.extract (vs := [bs r16.1, .int .i64 r16.2]) (v := .int .i64 r16.2) rfl rfl rfl ?_
  refine G.assign (v := bs r16.1) rfl rfl ?_
  refine G.assign (v := .int .i64 r16.2) rfl rfl ?_
  refine G.nil ?_
  refine G.keep_ (L' := [(0, v0_0), (1, bs a1), (5, bs r16.1), (6, .int .i64 r16.2)]) (is := [0, 1, 5, 6]) rfl ?_
  refine G.next_ hK6 ?_
  refine G.seq fun K23 hK24 => ?_
  refine G.region ?_
  refine G.move (v := .int .i64 r16.2) rfl rfl ?_
  refine G.bin (u := .int .i64 r16.2) (v := .int .i64 0) (r := .bool (r16.2 != 0)) rfl rfl rfl b_neq ?_
  refine G.move (v := .bool (r16.2 != 0)) rfl rfl ?_
  refine G.cut 3 (fun a w' => w20 = w' ∧ Fr 65 [(0, v0_0), (1, bs a1), (26, .bool ((r16.2 != 0) || (r16.1 != ([103, 50] : Str))))] a) ?_ ?_
  · refine G.byb (c := (r16.2 != 0)) (fun hc25 => ?_) (fun hc25 => ?_)
    · refine G.skip_s rfl rfl hc25 rfl ?_
      refine G.skip_s rfl rfl hc25 rfl ?_
      refine G.pick_yes (u := .bool true) rfl rfl hc25 rfl ?_
      refine G.recast (or_yes (x := (r16.1 != ([103, 50] : Str))) hc25) ?_
      refine G.nil ?_
      refine G.keep_ (L' := [(0, v0_0), (1, bs a1), (26, .bool ((r16.2 != 0) || (r16.1 != ([103, 50] : Str))))]) (is := [0, 1, 26]) rfl ?_
      exact G.finE fun _ a ha => ⟨rfl, ha⟩
    · refine G.guard_yes rfl rfl hc25 ?_
      refine G.move (v := bs r16.1) rfl rfl ?_
      refine G.guard_yes rfl rfl hc25 ?_
      refine G.bin (u := bs r16.1) (v := bs ([103, 50] : Str)) (r := .bool (r16.1 != ([103, 50] : Str))) rfl rfl rfl b_sneq ?_
      refine G.pick_no (u := .bool (r16.1 != ([103, 50] : Str))) rfl rfl hc25 rfl ?_
      refine G.recast (or_no (x := (r16.1 != ([103, 50] : Str))) hc25) ?_
      refine G.nil ?_
      refine G.keep_ (L' := [(0, v0_0), (1, bs a1), (26, .bool ((r16.2 != 0) || (r16.1 != ([103, 50] : Str))))]) (is := [0, 1, 26]) rfl ?_
      exact G.finE fun _ a ha => ⟨rfl, ha⟩
  · rintro a _ ⟨rfl, ha⟩ hF
    refine G.use hF ha ?_
    refine G.nil ?_
    refine G.keep_ (L' := [(0, v0_0), (1, bs a1), (26, .bool ((r16.2 != 0) || (r16.1 != ([103, 50] : Str))))]) (is := [0, 1, 26]) rfl ?_
    refine G.next_ hK24 ?_
    refine G.cond (b := ((r16.2 != 0) || (r16.1 != ([103, 50] : Str)))) rfl (fun hc26 => ?_) (fun hc26 => ?_)
    · refine G.keep_ (L' := []) (is := []) rfl ?_
      refine G.seq fun K27 hK28 => ?_
      refine G.region ?_
      refine G.assign (v := .bool false) rfl rfl ?_
      refine G.nil ?_
      refine G.keep_ (L' := [(4, .bool false)]) (is := [4]) rfl ?_
      refine G.next_ hK28 ?_
      refine G.ret ?_
      refine G.thn_ret ?_
      refine G.ret1 (v := .bool false) Tryd.results3 rfl (fun hF29 => ?_)
      obtain rfl := Option.some.inj hF29
      exact ⟨_, hU22, rfl⟩
    · refine G.keep_ (L' := [(0, v0_0), (1, bs a1)]) (is := [0, 1]) rfl ?_
      refine G.skip ?_
      refine G.next_ hK4 ?_
      refine G.seq fun K30 hK31 => ?_
      refine G.region ?_
      refine G.move (v := v0_0) rfl rfl ?_
      have h32 := h0_0.up u9
      have h33 : RdL _ _ S13 _ _ _ := h32.more (by rw [hS13]; exact fun _ h => .inl h)
      have h34 := h33.up u21
      refine G.bind fun r35 hr36 => ?_
      have hc37 := replay_Text_ok hU22.live (hV0.up hU22) a0 v0_0 h34 hr36
      refine G.call (R := replay_Text.Post S19 w20 r35) (vs := [v0_0]) rfl rfl Tryd.call4 ?_ ?_
      · exact hc37
      rintro _ w39 ⟨S38, u40, rfl⟩
      have hU41 := hU22.trans0 u40
      refine G.move (v := .tuple [bs r35.1, .int .i64 r35.2].toArray) rfl rfl ?_
      refine G.extract (vs := [bs r35.1, .int .i64 r35.2]) (v := bs r35.1) rfl rfl rfl ?_
      refine G.extract (vs := [bs r35.1, .int .i64 r35.2]) (v := .int .i64 r35.2) rfl rfl rfl ?_
      refine G.assign (v := bs r35.1) rfl rfl ?_
      refine G.assign (v := .int .i64 r35.2) rfl rfl ?_
      refine G.nil ?_
      refine G.keep_ (L' := [(0, v0_0), (1, bs a1), (7, bs r35.1), (8, .int .i64 r35.2)]) (is := [0, 1, 7, 8]) rfl ?_
      refine G.next_ hK31 ?_
      refine G.seq fun K42 hK43 => ?_
      refine G.region ?_
      refine G.move (v := v0_0) rfl rfl ?_
      have h44 := h0_0.up u9
      have h45 : RdL _ _ S13 _ _ _ := h44.more (by rw [hS13]; exact fun _ h => .inl h)
      have h46 := h45.up u21
      have h47 := h46.up u40
      refine G.bind fun r48 hr49 => ?_
      have hc50 := roadref5_ChoiceText_ok hU41.live (hV0.up hU41) a0 v0_0 h47 hr49
      refine G.call (R := roadref5_ChoiceText.Post S38 w39 r48) (vs := [v0_0]) rfl rfl Tryd.call5 ?_ ?_
      · exact hc50
      rintro _ w52 ⟨S51, u53, rfl⟩
      have hU54 := hU41.trans0 u53
      refine G.move (v := .tuple [bs r48.1, .int .i64 r48.2].toArray) rfl rfl ?_
      refine G.extract (vs := [bs r48.1, .int .i64 r48.2]) (v := bs r48.1) rfl rfl rfl ?_
      refine G.extract (vs := [bs r48.1, .int .i64 r48.2]) (v := .int .i64 r48.2) rfl rfl rfl ?_
      refine G.assign (v := bs r48.1) rfl rfl ?_
      refine G.assign (v := .int .i64 r48.2) rfl rfl ?_
      refine G.nil ?_
      refine G.keep_ (L' := [(1, bs a1), (7, bs r35.1), (8, .int .i64 r35.2), (9, bs r48.1), (10, .int .i64 r48.2)]) (is := [1, 7, 8, 9, 10]) rfl ?_
      refine G.next_ hK43 ?_
      refine G.seq fun K55 hK56 => ?_
      refine G.region ?_
      refine G.move (v := bs a1) rfl rfl ?_
      refine G.bind fun r57 hr58 => ?_
      have hc59 := replay_Read_ok hU54.live (hV0.up hU54) a1 hr58
      refine G.call (R := replay_Read.Post S51 w52 r57) (vs := [bs a1]) rfl rfl Tryd.call6 ?_ ?_
      · exact hc59
      rintro _ w61 ⟨S60, u62, v63, rfl, h64⟩
      have hU65 := hU54.trans0 u62
      refine G.move (v := .tuple [v63, .int .i64 r57.2].toArray) rfl rfl ?_
      refine G.extract (vs := [v63, .int .i64 r57.2]) (v := v63) rfl rfl rfl ?_
      refine G.extract (vs := [v63, .int .i64 r57.2]) (v := .int .i64 r57.2) rfl rfl rfl ?_
      refine G.assign (v := v63) rfl rfl ?_
      refine G.assign (v := .int .i64 r57.2) rfl rfl ?_
      refine G.nil ?_
      refine G.keep_ (L' := [(1, bs a1), (7, bs r35.1), (8, .int .i64 r35.2), (9, bs r48.1), (10, .int .i64 r48.2), (11, v63), (12, .int .i64 r57.2)]) (is := [1, 7, 8, 9, 10, 11, 12]) rfl ?_
      refine G.next_ hK56 ?_
      refine G.seq fun K66 hK67 => ?_
      refine G.region ?_
      refine G.move (v := bs a1) rfl rfl ?_
      refine G.bind fun r68 hr69 => ?_
      have hc70 := roadref5_ChoiceOf_ok hU65.live (hV0.up hU65) a1 hr69
      refine G.call (R := roadref5_ChoiceOf.Post S60 w61 r68) (vs := [bs a1]) rfl rfl Tryd.call7 ?_ ?_
      · exact hc70
      rintro _ w72 ⟨S71, u73, v74, rfl, h75⟩
      have hU76 := hU65.trans0 u73
      refine G.move (v := .tuple [v74, .int .i64 r68.2].toArray) rfl rfl ?_
      refine G.extract (vs := [v74, .int .i64 r68.2]) (v := v74) rfl rfl rfl ?_
      refine G.extract (vs := [v74, .int .i64 r68.2]) (v := .int .i64 r68.2) rfl rfl rfl ?_
      refine G.assign (v := v74) rfl rfl ?_
      refine G.assign (v := .int .i64 r68.2) rfl rfl ?_
      refine G.nil ?_
      refine G.keep_ (L' := [(7, bs r35.1), (8, .int .i64 r35.2), (9, bs r48.1), (10, .int .i64 r48.2), (11, v63), (12, .int .i64 r57.2), (13, v74), (14, .int .i64 r68.2)]) (is := [7, 8, 9, 10, 11, 12, 13, 14]) rfl ?_
      refine G.next_ hK67 ?_
      refine G.seq fun K77 hK78 => ?_
      refine G.region ?_
      refine G.move (v := bs r35.1) rfl rfl ?_
      refine G.move (v := bs r48.1) rfl rfl ?_
      refine G.bin (u := bs r35.1) (v := bs r48.1) (r := .bool (r35.1 == r48.1)) rfl rfl rfl b_seql ?_
      refine G.move (v := .bool (r35.1 == r48.1)) rfl rfl ?_
      refine G.cut 4 (fun a w' => w72 = w' ∧ Fr 65 [(11, v63), (12, .int .i64 r57.2), (13, v74), (14, .int .i64 r68.2), (54, .bool ((r35.1 == r48.1) && (r35.2 == r48.2)))] a) ?_ ?_
      · refine G.byb (c := (r35.1 == r48.1)) (fun hc79 => ?_) (fun hc79 => ?_)
        · refine G.guard_yes rfl rfl hc79 ?_
          refine G.move (v := .int .i64 r35.2) rfl rfl ?_
          refine G.guard_yes rfl rfl hc79 ?_
          refine G.move (v := .int .i64 r48.2) rfl rfl ?_
          refine G.guard_yes rfl rfl hc79 ?_
          refine G.bin (u := .int .i64 r35.2) (v := .int .i64 r48.2) (r := .bool (r35.2 == r48.2)) rfl rfl rfl b_eql ?_
          refine G.pick_yes (u := .bool (r35.2 == r48.2)) rfl rfl hc79 rfl ?_
          refine G.recast (and_yes (x := (r35.2 == r48.2)) hc79) ?_
          refine G.nil ?_
          refine G.keep_ (L' := [(11, v63), (12, .int .i64 r57.2), (13, v74), (14, .int .i64 r68.2), (54, .bool ((r35.1 == r48.1) && (r35.2 == r48.2)))]) (is := [11, 12, 13, 14, 54]) rfl ?_
          exact G.finE fun _ a ha => ⟨rfl, ha⟩
        · refine G.skip_s rfl rfl hc79 rfl ?_
          refine G.skip_s rfl rfl hc79 rfl ?_
          refine G.skip_s rfl rfl hc79 rfl ?_
          refine G.pick_no (u := .bool false) rfl rfl hc79 rfl ?_
          refine G.recast (and_no (x := (r35.2 == r48.2)) hc79) ?_
          refine G.nil ?_
          refine G.keep_ (L' := [(11, v63), (12, .int .i64 r57.2), (13, v74), (14, .int .i64 r68.2), (54, .bool ((r35.1 == r48.1) && (r35.2 == r48.2)))]) (is := [11, 12, 13, 14, 54]) rfl ?_
          exact G.finE fun _ a ha => ⟨rfl, ha⟩
      · rintro a _ ⟨rfl, ha⟩ hF
        refine G.use hF ha ?_
        refine G.move (v := .bool ((r35.1 == r48.1) && (r35.2 == r48.2))) rfl rfl ?_
        refine G.part 4 (fun b a w' => ∃ S', Up [] S71 w72 S' w' ∧ Fr 65 [(12, .int .i64 r57.2), (14, .int .i64 r68.2), (59, .bool b)] a) ?_ ?_
        · intro b
          refine G.ifb (fun hc80 => ?_) (fun hc80 => ?_)
          · refine G.guard_yes rfl rfl hc80 ?_
            refine G.move (v := v63) rfl rfl ?_
            refine G.guard_yes rfl rfl hc80 ?_
            refine G.move (v := v74) rfl rfl ?_
            refine G.guard_yes rfl rfl hc80 ?_
            have h85 := h64.up u73
            refine G.bind fun r86 hr87 => ?_
            have hc88 := slices_Equal_replay_Choice_replay_Choice_ok hU76.live r57.1 r68.1 v63 v74 h85 h75 hr87
            refine G.call (R := slices_Equal_replay_Choice_replay_Choice.Post S71 w72 r86) (vs := [v63, v74]) rfl rfl Tryd.call8 ?_ ?_
            · exact hc88
            rintro _ w90 ⟨S89, u91, rfl⟩
            have hU92 := hU76.trans0 u91
            refine G.pick_yes (u := .bool r86) rfl rfl hc80 rfl ?_
            refine G.nil ?_
            refine G.keep_ (L' := [(12, .int .i64 r57.2), (14, .int .i64 r68.2), (59, .bool r86)]) (is := [12, 14, 59]) rfl ?_
            refine G.finE ?_
            rintro rfl a ha
            exact ⟨_, u91, ha⟩
          · refine G.skip_s rfl rfl hc80 rfl ?_
            refine G.skip_s rfl rfl hc80 rfl ?_
            refine G.skip_s rfl rfl hc80 rfl ?_
            refine G.pick_no (u := .bool false) rfl rfl hc80 rfl ?_
            refine G.nil ?_
            refine G.keep_ (L' := [(12, .int .i64 r57.2), (14, .int .i64 r68.2), (59, .bool false)]) (is := [12, 14, 59]) rfl ?_
            refine G.finE ?_
            rintro rfl a ha
            exact ⟨_, (Up.refl hU76.live), ha⟩
        · rintro t81 a w83 hb93 ⟨S82, u84, ha94⟩ hF95
          refine G.use hF95 ha94 ?_
          have hU96 := hU76.trans0 u84
          refine G.move (v := .bool t81) rfl rfl ?_
          refine G.cut 4 (fun a w' => w83 = w' ∧ Fr 65 [(64, .bool (t81 && (r57.2 == r68.2)))] a) ?_ ?_
          · refine G.byb (c := t81) (fun hc97 => ?_) (fun hc97 => ?_)
            · refine G.guard_yes rfl rfl hc97 ?_
              refine G.move (v := .int .i64 r57.2) rfl rfl ?_
              refine G.guard_yes rfl rfl hc97 ?_
              refine G.move (v := .int .i64 r68.2) rfl rfl ?_
              refine G.guard_yes rfl rfl hc97 ?_
              refine G.bin (u := .int .i64 r57.2) (v := .int .i64 r68.2) (r := .bool (r57.2 == r68.2)) rfl rfl rfl b_eql ?_
              refine G.pick_yes (u := .bool (r57.2 == r68.2)) rfl rfl hc97 rfl ?_
              refine G.recast (and_yes (x := (r57.2 == r68.2)) hc97) ?_
              refine G.nil ?_
              refine G.keep_ (L' := [(64, .bool (t81 && (r57.2 == r68.2)))]) (is := [64]) rfl ?_
              exact G.finE fun _ a ha => ⟨rfl, ha⟩
            · refine G.skip_s rfl rfl hc97 rfl ?_
              refine G.skip_s rfl rfl hc97 rfl ?_
              refine G.skip_s rfl rfl hc97 rfl ?_
              refine G.pick_no (u := .bool false) rfl rfl hc97 rfl ?_
              refine G.recast (and_no (x := (r57.2 == r68.2)) hc97) ?_
              refine G.nil ?_
              refine G.keep_ (L' := [(64, .bool (t81 && (r57.2 == r68.2)))]) (is := [64]) rfl ?_
              exact G.finE fun _ a ha => ⟨rfl, ha⟩
          · rintro a _ ⟨rfl, ha⟩ hF
            refine G.use hF ha ?_
            refine G.assign (v := .bool (t81 && (r57.2 == r68.2))) rfl rfl ?_
            refine G.nil ?_
            refine G.keep_ (L' := [(4, .bool (t81 && (r57.2 == r68.2)))]) (is := [4]) rfl ?_
            refine G.next_ hK78 ?_
            refine G.ret ?_
            refine G.ret1 (v := .bool (t81 && (r57.2 == r68.2))) Tryd.results3 rfl (fun hF98 => ?_)
            obtain rfl := Option.some.inj hF98
            exact ⟨_, hU96, rfl⟩
end Go.Proofs.YtbaaojaoadjnmaeDoor.Gx
