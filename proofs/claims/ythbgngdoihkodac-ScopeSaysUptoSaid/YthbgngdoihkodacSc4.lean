/- roadstead: ScopeSays. This text: Sc. Conditions: none beyond those that the statement itself names. -/
import Derived.Test.YthbgngdoihkodacSc3
namespace Go.Proofs.Ythbgngdoihkodac.Hx
open Go Go.Proofs.Ythbgngdoihkodac.Hx Go.RowKit Go.Proofs Go.Shelf
/-! roadstead/roadref2.ScopeOf -/
def roadref2_ScopeOf.l1  : List (T_Use) → (List Str) → Option (List Str)
  | [], x18 => some x18
  | y21 :: rest22, x18 => (app 8796093022208 x18 ([y21.fName] : List Str)).bind fun l41 => roadref2_ScopeOf.l1 rest22 l41

theorem roadref2_ScopeOf.l1_nil  {x18 : List Str} : roadref2_ScopeOf.l1  [] x18 = some x18 := rfl
theorem roadref2_ScopeOf.l1_cons  {y21 : T_Use} {rest22 : List (T_Use)} {x18 : List Str} : roadref2_ScopeOf.l1  (y21 :: rest22) x18 = (app 8796093022208 x18 ([y21.fName] : List Str)).bind fun l41 => roadref2_ScopeOf.l1 rest22 l41 := rfl
def roadref2_ScopeOf.l2  : List (T_Data) → (List Str) → Option (T_Wrong ⊕ (List Str))
  | [], x54 => some (.inr x54)
  | y57 :: rest58, x54 => (app 8796093022208 x54 ([y57.fName] : List Str)).bind fun l79 => (roadref2_doubled y57.fParams).bind fun r84 => (if r84 = true then some (.inl (T_Wrong.mk 11 0)) else roadref2_ScopeOf.l2 rest58 l79)

theorem roadref2_ScopeOf.l2_nil  {x54 : List Str} : roadref2_ScopeOf.l2  [] x54 = some (.inr x54) := rfl
theorem roadref2_ScopeOf.l2_cons  {y57 : T_Data} {rest58 : List (T_Data)} {x54 : List Str} : roadref2_ScopeOf.l2  (y57 :: rest58) x54 = (app 8796093022208 x54 ([y57.fName] : List Str)).bind fun l79 => (roadref2_doubled y57.fParams).bind fun r84 => (if r84 = true then some (.inl (T_Wrong.mk 11 0)) else roadref2_ScopeOf.l2 rest58 l79) := rfl
def roadref2_ScopeOf.l3  : List (T_Trait) → (List Str) → Option (List Str)
  | [], x103 => some x103
  | y106 :: rest107, x103 => (app 8796093022208 x103 ([y106.fName] : List Str)).bind fun l126 => roadref2_ScopeOf.l3 rest107 l126

theorem roadref2_ScopeOf.l3_nil  {x103 : List Str} : roadref2_ScopeOf.l3  [] x103 = some x103 := rfl
theorem roadref2_ScopeOf.l3_cons  {y106 : T_Trait} {rest107 : List (T_Trait)} {x103 : List Str} : roadref2_ScopeOf.l3  (y106 :: rest107) x103 = (app 8796093022208 x103 ([y106.fName] : List Str)).bind fun l126 => roadref2_ScopeOf.l3 rest107 l126 := rfl
def roadref2_ScopeOf.l4  : List (List Str) → Option (T_Wrong ⊕ (Unit))
  | [] => some (.inr ())
  | y178 :: rest179 => (roadref2_doubled y178).bind fun r198 => (if r198 = true then some (.inl (T_Wrong.mk 11 0)) else roadref2_ScopeOf.l4 rest179)

theorem roadref2_ScopeOf.l4_nil   : roadref2_ScopeOf.l4  []  = some (.inr ()) := rfl
theorem roadref2_ScopeOf.l4_cons  {y178 : List Str} {rest179 : List (List Str)} : roadref2_ScopeOf.l4  (y178 :: rest179)  = (roadref2_doubled y178).bind fun r198 => (if r198 = true then some (.inl (T_Wrong.mk 11 0)) else roadref2_ScopeOf.l4 rest179) := rfl
def roadref2_ScopeOf.l6  : List (T_Func) → Option (T_Wrong ⊕ (Unit))
  | [] => some (.inr ())
  | y240 :: rest241 => (roadref2_doubled y240.fParams).bind fun r261 => (if r261 = true then some true else (roadref2_doubled y240.fNames).bind fun r267 => some r267).bind fun t265 => (if t265 = true then some (.inl (T_Wrong.mk 11 0)) else roadref2_ScopeOf.l6 rest241)

theorem roadref2_ScopeOf.l6_nil   : roadref2_ScopeOf.l6  []  = some (.inr ()) := rfl
theorem roadref2_ScopeOf.l6_cons  {y240 : T_Func} {rest241 : List (T_Func)} : roadref2_ScopeOf.l6  (y240 :: rest241)  = (roadref2_doubled y240.fParams).bind fun r261 => (if r261 = true then some true else (roadref2_doubled y240.fNames).bind fun r267 => some r267).bind fun t265 => (if t265 = true then some (.inl (T_Wrong.mk 11 0)) else roadref2_ScopeOf.l6 rest241) := rfl
def roadref2_ScopeOf.l5  : List (T_Trait) → Option (T_Wrong ⊕ (Unit))
  | [] => some (.inr ())
  | y217 :: rest218 => (roadref2_ScopeOf.l6 y217.fFuncs).bind (retOr2 fun b280 => roadref2_ScopeOf.l5 rest218)

theorem roadref2_ScopeOf.l5_nil   : roadref2_ScopeOf.l5  []  = some (.inr ()) := rfl
theorem roadref2_ScopeOf.l5_cons  {y217 : T_Trait} {rest218 : List (T_Trait)} : roadref2_ScopeOf.l5  (y217 :: rest218)  = (roadref2_ScopeOf.l6 y217.fFuncs).bind (retOr2 fun b280 => roadref2_ScopeOf.l5 rest218) := rfl
def roadref2_ScopeOf.l7 (b0 : T_Program) (k : Nat) : List (T_Func) → Option (T_Wrong ⊕ (Unit))
  | [] => some (.inr ())
  | y295 :: rest296 => (roadref2_doubled y295.fParams).bind fun r318 => (if r318 = true then some true else (roadref2_doubled y295.fNames).bind fun r324 => some r324).bind fun t322 => (if t322 = true then some (.inl (T_Wrong.mk 11 0)) else (roadref2_scopeExpr k b0 y295.fNames y295.fBody).bind fun r335 => (if (r335.fE != 0) = true then some (.inl r335) else roadref2_ScopeOf.l7 b0 k rest296))

theorem roadref2_ScopeOf.l7_nil (b0 : T_Program) (k : Nat)  : roadref2_ScopeOf.l7 b0 k []  = some (.inr ()) := rfl
theorem roadref2_ScopeOf.l7_cons (b0 : T_Program) (k : Nat) {y295 : T_Func} {rest296 : List (T_Func)} : roadref2_ScopeOf.l7 b0 k (y295 :: rest296)  = (roadref2_doubled y295.fParams).bind fun r318 => (if r318 = true then some true else (roadref2_doubled y295.fNames).bind fun r324 => some r324).bind fun t322 => (if t322 = true then some (.inl (T_Wrong.mk 11 0)) else (roadref2_scopeExpr k b0 y295.fNames y295.fBody).bind fun r335 => (if (r335.fE != 0) = true then some (.inl r335) else roadref2_ScopeOf.l7 b0 k rest296)) := rfl
def roadref2_ScopeOf.l8 (b0 : T_Program) (k : Nat) : List (T_Actor) → Option (T_Wrong ⊕ (Unit))
  | [] => some (.inr ())
  | y357 :: rest358 => (roadref2_doubled y357.fNames).bind fun r380 => (if r380 = true then some (.inl (T_Wrong.mk 11 0)) else (roadref2_scopeExpr k b0 y357.fNames y357.fBody).bind fun r391 => (if (r391.fE != 0) = true then some (.inl r391) else roadref2_ScopeOf.l8 b0 k rest358))

theorem roadref2_ScopeOf.l8_nil (b0 : T_Program) (k : Nat)  : roadref2_ScopeOf.l8 b0 k []  = some (.inr ()) := rfl
theorem roadref2_ScopeOf.l8_cons (b0 : T_Program) (k : Nat) {y357 : T_Actor} {rest358 : List (T_Actor)} : roadref2_ScopeOf.l8 b0 k (y357 :: rest358)  = (roadref2_doubled y357.fNames).bind fun r380 => (if r380 = true then some (.inl (T_Wrong.mk 11 0)) else (roadref2_scopeExpr k b0 y357.fNames y357.fBody).bind fun r391 => (if (r391.fE != 0) = true then some (.inl r391) else roadref2_ScopeOf.l8 b0 k rest358)) := rfl
def roadref2_ScopeOf.Spec (F : T_Program → Option (T_Wrong)) : Prop := ∀ {b0 : T_Program} {out : T_Wrong}, F b0 = some out → Ct Gl Try.prog 6 [.agg (lf_T_Program b0)] [] (fun x : Unit => .agg [.val (.int .i64 out.fE), .val (.int .i64 out.fAt)]) (fun x : Unit => [])
def roadref2_ScopeOf (k : Nat) (b0 : T_Program) : Option (T_Wrong) := (roadref2_ScopeOf.l1 b0.fUses ([b0.fName] : List Str)).bind fun b46 => (roadref2_ScopeOf.l2 b0.fDatas ([] : List Str)).bind (retOr fun b95 => (roadref2_ScopeOf.l3 b0.fTraits ([] : List Str)).bind fun b131 => (roadref2_makersOf b0).bind fun r149 => (roadref2_callsOf b0).bind fun r152 => (roadref2_actorsOf b0).bind fun r155 => (roadref2_ScopeOf.l4 ([b46, b95, b131, r149, r152, r155] : List (List Str))).bind (retOr fun b209 => (roadref2_ScopeOf.l5 b0.fTraits).bind (retOr fun b284 => (roadref2_FunsOf b0).bind fun r290 => (roadref2_ScopeOf.l7 b0 k r290).bind (retOr fun b349 => (roadref2_ScopeOf.l8 b0 k b0.fActors).bind (retOr fun b405 => some (T_Wrong.mk 0 0))))))
set_option maxRecDepth 100000 in
theorem roadref2_ScopeOf_ok (k : Nat) : roadref2_ScopeOf.Spec (roadref2_ScopeOf k) := by
 intro b0 out hp
 refine ct_of_G (nt := 168) Try.func6 rfl Try.ntmps6 rfl (fun B => ?_) hp
 unfold roadref2_ScopeOf
 refine G.seq fun K1 hK2 => ?_
 refine G.region ?_
 refine G.op rfl (O.box (.of rfl) (OneC.agg (List.forall_mem_cons.2 ⟨(.val rfl), (List.forall_mem_cons.2 ⟨(.val rfl), (List.forall_mem_cons.2 ⟨.sl, (List.forall_mem_cons.2 ⟨.sl, (List.forall_mem_cons.2 ⟨.sl, (List.forall_mem_cons.2 ⟨.sl, (List.forall_mem_cons.2 ⟨.sl, (List.forall_mem_cons.2 ⟨.sl, (List.forall_mem_nil _)⟩)⟩)⟩)⟩)⟩)⟩)⟩)⟩))) fun g3 => ?_
 refine G.op rfl (O.alloc (ds := [.val (.int .i64 0), .val (.int .i64 0)]) Try.zeroValue36 rfl) fun g4 => ?_
 refine G.nil ?_
 refine G.norm (L' := [(1, .val (.pointer (some ⟨g3, 0, none⟩))), (2, .val (.pointer (some ⟨g4, 0, none⟩)))]) (is := [1, 2]) (R' := [.cells g4 36 [.val (.int .i64 0), .val (.int .i64 0)], .cells g3 29 (lf_T_Program b0)]) (js := [0, 0]) rfl rfl ?_
 refine G.next_ hK2 ?_
 refine G.seq fun K5 hK6 => ?_
 refine G.region ?_
 refine G.q rfl (V.build (out := [.val (.int .i64 11), .val (.int .i64 0)]) blt36 (.cons (.of rfl) (.cons (.of rfl) .nil)) (List.forall_mem_cons.2 ⟨(OneC.leaf (.val rfl)), (List.forall_mem_cons.2 ⟨(OneC.leaf (.val rfl)), (List.forall_mem_nil _)⟩)⟩) rfl) ?_
 refine G.op rfl (O.alloc (ds := [.val (.int .i64 0), .val (.int .i64 0)]) Try.zeroValue36 rfl) fun g7 => ?_
 refine G.opn (O.store (i := 0) (o := 0) (ds := [.val (.int .i64 0), .val (.int .i64 0)]) rfl (.of rfl) rfl (OneC.agg (List.forall_mem_cons.2 ⟨(.val rfl), (List.forall_mem_cons.2 ⟨(.val rfl), (List.forall_mem_nil _)⟩)⟩)) Try.sizeOf36 rfl rfl) fun _ => ?_
 refine G.nil ?_
 refine G.norm (L' := [(1, .val (.pointer (some ⟨g3, 0, none⟩))), (2, .val (.pointer (some ⟨g4, 0, none⟩))), (3, .val (.pointer (some ⟨g7, 0, none⟩)))]) (is := [1, 2, 3]) (R' := [.cells g7 36 [.val (.int .i64 11), .val (.int .i64 0)], .cells g4 36 [.val (.int .i64 0), .val (.int .i64 0)], .cells g3 29 (lf_T_Program b0)]) (js := [0, 0, 0]) rfl rfl ?_
 refine G.next_ hK6 ?_
 refine G.seq fun K8 hK9 => ?_
 refine G.region ?_
 refine G.p rfl (V.fieldAddr (o' := 0) rfl Try.runUnderlying29 rfl Try.sizeOf9 rfl) ?_
 refine G.q rfl (V.load_cell (i := 2) (ds := (lf_T_Program b0)) (d := .val (bs b0.fName)) rfl rfl Try.isAgg9 rfl rfl) ?_
 refine G.op rfl (O.buildSlice (xs := [.tmp 27]) (ds := ([b0.fName] : List Str).map eS) elt30 rfl (.cons (.of rfl) .nil) rfl (by decide) (List.forall_mem_cons.2 ⟨(fun c hc => ((fun _ => one_S) _ c hc).mono), (List.forall_mem_nil _)⟩) (List.forall_mem_cons.2 ⟨rfl, (List.forall_mem_nil _)⟩)) fun v10 => ?_
 refine G.op rfl (O.buildSlice (xs := []) (ds := ([] : List Str).map eS) elt30 rfl (.nil) rfl (by decide) (List.forall_mem_nil _) (List.forall_mem_nil _)) fun v11 => ?_
 refine G.op rfl (O.buildSlice (xs := []) (ds := ([] : List Str).map eS) elt30 rfl (.nil) rfl (by decide) (List.forall_mem_nil _) (List.forall_mem_nil _)) fun v12 => ?_
 refine G.p rfl (V.assign rfl) ?_
 refine G.p rfl (V.assign rfl) ?_
 refine G.p rfl (V.assign rfl) ?_
 refine G.nil ?_
 refine G.norm (L' := [(1, .val (.pointer (some ⟨g3, 0, none⟩))), (2, .val (.pointer (some ⟨g4, 0, none⟩))), (3, .val (.pointer (some ⟨g7, 0, none⟩))), (4, .val v10), (5, .val v11), (6, .val v12)]) (is := [1, 2, 3, 4, 5, 6]) (R' := [.row v12 9 1 (([] : List Str).map eS), .row v11 9 1 (([] : List Str).map eS), .row v10 9 1 (([b0.fName] : List Str).map eS), .cells g7 36 [.val (.int .i64 11), .val (.int .i64 0)], .cells g4 36 [.val (.int .i64 0), .val (.int .i64 0)], .cells g3 29 (lf_T_Program b0)]) (js := [0, 0, 0, 0, 0, 0]) rfl rfl ?_
 refine G.next_ hK9 ?_
 refine G.seq fun K13 hK14 => ?_
 refine G.seq fun K15 hK16 => ?_
 refine G.region ?_
 refine G.p rfl (V.fieldAddr (o' := 2) rfl Try.runUnderlying29 rfl Try.sizeOf22 rfl) ?_
 refine G.q rfl (V.load_cell (i := 5) (ds := (lf_T_Program b0)) (d := eL e_T_Use 3 b0.fUses) rfl rfl Try.isAgg22 rfl rfl) ?_
 refine G.lenb (enc := e_T_Use) (xs := b0.fUses) (sz := 3) (x := .tmp 32) (.of rfl) fun hN17 => ?_
 refine G.p rfl (V.len_sl (enc := e_T_Use) (xs := b0.fUses) (sz := 3) (.of rfl) Try.runUnderlying22) ?_
 refine G.p rfl (V.move rfl) ?_
 refine G.nil ?_
 refine G.norm (L' := [(1, .val (.pointer (some ⟨g3, 0, none⟩))), (2, .val (.pointer (some ⟨g4, 0, none⟩))), (3, .val (.pointer (some ⟨g7, 0, none⟩))), (4, .val v10), (5, .val v11), (6, .val v12), (32, eL e_T_Use 3 b0.fUses), (33, .val (.int .i64 (b0.fUses.length : Int))), (34, .val (.int .i64 0))]) (is := [1, 2, 3, 4, 5, 6, 32, 33, 34]) (R' := [.row v12 9 1 (([] : List Str).map eS), .row v11 9 1 (([] : List Str).map eS), .row v10 9 1 (([b0.fName] : List Str).map eS), .cells g7 36 [.val (.int .i64 11), .val (.int .i64 0)], .cells g4 36 [.val (.int .i64 0), .val (.int .i64 0)], .cells g3 29 (lf_T_Program b0)]) (js := [0, 0, 0, 0, 0, 0]) rfl rfl ?_
 refine G.next_ hK16 ?_
 refine G.join (E := fun b a w => ∃ (g_0 : Value), Ass Gl B 168 [(1, .val (.pointer (some ⟨g3, 0, none⟩))), (2, .val (.pointer (some ⟨g4, 0, none⟩))), (3, .val (.pointer (some ⟨g7, 0, none⟩))), (4, .val g_0), (5, .val v11), (6, .val v12)] [.cells g3 29 (lf_T_Program b0), .cells g4 36 [.val (.int .i64 0), .val (.int .i64 0)], .cells g7 36 [.val (.int .i64 11), .val (.int .i64 0)], .row g_0 9 1 (b.map eS), .row v11 9 1 (([] : List Str).map eS), .row v12 9 1 (([] : List Str).map eS)] a w) ?_ ?_
 ·intro b hF25
  refine G.block ?_
  refine G.norm (L' := [(1, .val (.pointer (some ⟨g3, 0, none⟩))), (2, .val (.pointer (some ⟨g4, 0, none⟩))), (3, .val (.pointer (some ⟨g7, 0, none⟩))), (4, .val v10), (5, .val v11), (6, .val v12), (32, eL e_T_Use 3 b0.fUses), (33, .val (.int .i64 (b0.fUses.length : Int))), (34, .val (.int .i64 ((0 : Nat) : Int)))]) (is := [1, 2, 3, 4, 5, 6, 32, 33, 34]) (R' := [.cells g3 29 (lf_T_Program b0), .cells g4 36 [.val (.int .i64 0), .val (.int .i64 0)], .cells g7 36 [.val (.int .i64 11), .val (.int .i64 0)], .row v10 9 1 (([b0.fName] : List Str).map eS), .row v11 9 1 (([] : List Str).map eS), .row v12 9 1 (([] : List Str).map eS)]) (js := [5, 4, 3, 2, 1, 0]) rfl rfl ?_
  refine G.loop (fun kq a w => ∃ (rest22 : List (T_Use)) (i20 : Nat) (x18 : List Str), kq = rest22.length ∧ roadref2_ScopeOf.l1 rest22 x18 = some b ∧ b0.fUses.drop i20 = rest22 ∧ ∃ (g_0 : Value), Ass Gl B 168 [(1, .val (.pointer (some ⟨g3, 0, none⟩))), (2, .val (.pointer (some ⟨g4, 0, none⟩))), (3, .val (.pointer (some ⟨g7, 0, none⟩))), (4, .val g_0), (5, .val v11), (6, .val v12), (32, eL e_T_Use 3 b0.fUses), (33, .val (.int .i64 (b0.fUses.length : Int))), (34, .val (.int .i64 (i20 : Int)))] [.cells g3 29 (lf_T_Program b0), .cells g4 36 [.val (.int .i64 0), .val (.int .i64 0)], .cells g7 36 [.val (.int .i64 11), .val (.int .i64 0)], .row g_0 9 1 (x18.map eS), .row v11 9 1 (([] : List Str).map eS), .row v12 9 1 (([] : List Str).map eS)] a w) (b0.fUses.length) ?_ ?_
  ·intro hl45 a w hA
   exact ⟨b0.fUses, 0, ([b0.fName] : List Str), rfl, hl45, rfl, ⟨_, hA⟩⟩
  ·rintro _ a w ⟨rest22, i20, x18, rfl, hl26, hd23, ⟨g19, hA⟩⟩
   rcases rest22 with _ | ⟨y21, rest22⟩
   ·rw [roadref2_ScopeOf.l1_nil] at hl26
    refine G.use hl26 hA ?_
    refine G.seq fun K27 hK28 => ?_
    refine G.region ?_
    refine G.p rfl (V.bin (u := .int .i64 (i20 : Int)) (v := .int .i64 (b0.fUses.length : Int)) (r := .bool (decide ((i20 : Int) < (b0.fUses.length : Int)))) rfl rfl b_lss) ?_
    refine G.nil ?_
    refine G.norm (L' := [(1, .val (.pointer (some ⟨g3, 0, none⟩))), (2, .val (.pointer (some ⟨g4, 0, none⟩))), (3, .val (.pointer (some ⟨g7, 0, none⟩))), (4, .val g19), (5, .val v11), (6, .val v12), (32, eL e_T_Use 3 b0.fUses), (33, .val (.int .i64 (b0.fUses.length : Int))), (34, .val (.int .i64 (i20 : Int))), (35, .val (.bool (decide ((i20 : Int) < (b0.fUses.length : Int)))))]) (is := [1, 2, 3, 4, 5, 6, 32, 33, 34, 35]) (R' := [.cells g3 29 (lf_T_Program b0), .cells g4 36 [.val (.int .i64 0), .val (.int .i64 0)], .cells g7 36 [.val (.int .i64 11), .val (.int .i64 0)], .row g19 9 1 (x18.map eS), .row v11 9 1 (([] : List Str).map eS), .row v12 9 1 (([] : List Str).map eS)]) (js := [0, 0, 0, 0, 0, 0]) rfl rfl ?_
    refine G.next_ hK28 ?_
    refine G.seq fun K29 hK30 => ?_
    refine G.no rfl (rng_end hd23) ?_
    refine G.exit ?_
    refine G.thn_exit ?_
    refine G.thn_exit ?_
    refine G.inB_eq ?_
    refine G.norm (L' := [(1, .val (.pointer (some ⟨g3, 0, none⟩))), (2, .val (.pointer (some ⟨g4, 0, none⟩))), (3, .val (.pointer (some ⟨g7, 0, none⟩))), (4, .val g19), (5, .val v11), (6, .val v12)]) (is := [1, 2, 3, 4, 5, 6]) (R' := [.cells g3 29 (lf_T_Program b0), .cells g4 36 [.val (.int .i64 0), .val (.int .i64 0)], .cells g7 36 [.val (.int .i64 11), .val (.int .i64 0)], .row g19 9 1 (x18.map eS), .row v11 9 1 (([] : List Str).map eS), .row v12 9 1 (([] : List Str).map eS)]) (js := [0, 0, 0, 0, 0, 0]) rfl rfl ?_
    exact G.finE fun hb a w hA => by subst hb; exact ⟨_, hA⟩
   ·rw [roadref2_ScopeOf.l1_cons] at hl26
    refine G.use hl26 hA ?_
    refine G.seq fun K31 hK32 => ?_
    refine G.region ?_
    refine G.p rfl (V.bin (u := .int .i64 (i20 : Int)) (v := .int .i64 (b0.fUses.length : Int)) (r := .bool (decide ((i20 : Int) < (b0.fUses.length : Int)))) rfl rfl b_lss) ?_
    refine G.nil ?_
    refine G.norm (L' := [(1, .val (.pointer (some ⟨g3, 0, none⟩))), (2, .val (.pointer (some ⟨g4, 0, none⟩))), (3, .val (.pointer (some ⟨g7, 0, none⟩))), (4, .val g19), (5, .val v11), (6, .val v12), (32, eL e_T_Use 3 b0.fUses), (33, .val (.int .i64 (b0.fUses.length : Int))), (34, .val (.int .i64 (i20 : Int))), (35, .val (.bool (decide ((i20 : Int) < (b0.fUses.length : Int)))))]) (is := [1, 2, 3, 4, 5, 6, 32, 33, 34, 35]) (R' := [.cells g3 29 (lf_T_Program b0), .cells g4 36 [.val (.int .i64 0), .val (.int .i64 0)], .cells g7 36 [.val (.int .i64 11), .val (.int .i64 0)], .row g19 9 1 (x18.map eS), .row v11 9 1 (([] : List Str).map eS), .row v12 9 1 (([] : List Str).map eS)]) (js := [0, 0, 0, 0, 0, 0]) rfl rfl ?_
    refine G.next_ hK32 ?_
    refine G.seq fun K33 hK34 => ?_
    refine G.yes rfl (rng_more hd23) ?_
    refine G.skip ?_
    refine G.next_ hK34 ?_
    refine G.seq fun K35 hK36 => ?_
    refine G.block ?_
    refine G.seq fun K37 hK38 => ?_
    refine G.region ?_
    refine G.p rfl (V.at_sl (k := i20) rfl rfl Try.runUnderlying22 Try.sizeOf70 (map_at (rng_at hd23))) ?_
    refine G.q rfl (V.load_ptrN (ds := (lf_T_Use y21)) rfl (e_T_Use_eq y21) Try.isAgg70 Try.sizeOf70 rfl) ?_
    refine G.op rfl (O.alloc (ds := [.val (bs ([] : Str)), .val (.int .i64 0), .val (.int .i64 0)]) Try.zeroValue70 rfl) fun g39 => ?_
    refine G.opn (O.store (i := 0) (o := 0) (ds := [.val (bs ([] : Str)), .val (.int .i64 0), .val (.int .i64 0)]) rfl (.of rfl) rfl (OneC.agg (List.forall_mem_cons.2 ⟨(.val rfl), (List.forall_mem_cons.2 ⟨(.val rfl), (List.forall_mem_cons.2 ⟨(.val rfl), (List.forall_mem_nil _)⟩)⟩)⟩)) Try.sizeOf70 rfl rfl) fun _ => ?_
    refine G.nil ?_
    refine G.norm (L' := [(1, .val (.pointer (some ⟨g3, 0, none⟩))), (2, .val (.pointer (some ⟨g4, 0, none⟩))), (3, .val (.pointer (some ⟨g7, 0, none⟩))), (4, .val g19), (5, .val v11), (6, .val v12), (8, .val (.pointer (some ⟨g39, 0, none⟩))), (32, eL e_T_Use 3 b0.fUses), (33, .val (.int .i64 (b0.fUses.length : Int))), (34, .val (.int .i64 (i20 : Int)))]) (is := [1, 2, 3, 4, 5, 6, 8, 32, 33, 34]) (R' := [.cells g39 70 (lf_T_Use y21), .cells g3 29 (lf_T_Program b0), .cells g4 36 [.val (.int .i64 0), .val (.int .i64 0)], .cells g7 36 [.val (.int .i64 11), .val (.int .i64 0)], .row g19 9 1 (x18.map eS), .row v11 9 1 (([] : List Str).map eS), .row v12 9 1 (([] : List Str).map eS)]) (js := [0, 0, 0, 0, 0, 0, 0]) rfl rfl ?_
    refine G.next_ hK38 ?_
    refine G.region ?_
    refine G.p rfl (V.move rfl) ?_
    refine G.p rfl (V.fieldAddr (o' := 0) rfl Try.runUnderlying70 rfl Try.sizeOf9 rfl) ?_
    refine G.q rfl (V.load_cell (i := 0) (ds := (lf_T_Use y21)) (d := .val (bs y21.fName)) rfl rfl Try.isAgg9 rfl rfl) ?_
    refine G.op rfl (O.buildSlice (xs := [.tmp 40]) (ds := ([y21.fName] : List Str).map eS) elt30 rfl (.cons (.of rfl) .nil) rfl (by decide) (List.forall_mem_cons.2 ⟨(fun c hc => ((fun _ => one_S) _ c hc).mono), (List.forall_mem_nil _)⟩) (List.forall_mem_cons.2 ⟨rfl, (List.forall_mem_nil _)⟩)) fun v40 => ?_
    refine G.bind fun l41 hl42 => ?_
    refine G.op rfl (O.append_row (i := 5) (j := 0) (enc := eS) (xs := x18) (ys := ([y21.fName] : List Str)) (lim := 8796093022208) elt30 rfl rfl rfl rfl (by decide) (by decide) (fun _ => one_S) hl42) fun v43 => ?_
    refine G.p rfl (V.assign rfl) ?_
    refine G.nil ?_
    refine G.norm (L' := [(1, .val (.pointer (some ⟨g3, 0, none⟩))), (2, .val (.pointer (some ⟨g4, 0, none⟩))), (3, .val (.pointer (some ⟨g7, 0, none⟩))), (4, .val v43), (5, .val v11), (6, .val v12), (32, eL e_T_Use 3 b0.fUses), (33, .val (.int .i64 (b0.fUses.length : Int))), (34, .val (.int .i64 (i20 : Int)))]) (is := [1, 2, 3, 4, 5, 6, 32, 33, 34]) (R' := [.cells g3 29 (lf_T_Program b0), .cells g4 36 [.val (.int .i64 0), .val (.int .i64 0)], .cells g7 36 [.val (.int .i64 11), .val (.int .i64 0)], .row v43 9 1 (l41.map eS), .row v11 9 1 (([] : List Str).map eS), .row v12 9 1 (([] : List Str).map eS)]) (js := [2, 2, 2, 2, 2, 2]) rfl rfl ?_
    refine G.inB ?_
    refine G.next_ hK36 ?_
    refine G.region ?_
    refine G.p rfl (V.incr (i := i20) (N := b0.fUses.length) rfl rfl (rng_lt hd23) (hN17)) ?_
    refine G.p rfl (V.move rfl) ?_
    refine G.nil ?_
    refine G.norm (L' := [(1, .val (.pointer (some ⟨g3, 0, none⟩))), (2, .val (.pointer (some ⟨g4, 0, none⟩))), (3, .val (.pointer (some ⟨g7, 0, none⟩))), (4, .val v43), (5, .val v11), (6, .val v12), (32, eL e_T_Use 3 b0.fUses), (33, .val (.int .i64 (b0.fUses.length : Int))), (34, .val (.int .i64 ((i20 + 1 : Nat) : Int)))]) (is := [1, 2, 3, 4, 5, 6, 32, 33, 34]) (R' := [.cells g3 29 (lf_T_Program b0), .cells g4 36 [.val (.int .i64 0), .val (.int .i64 0)], .cells g7 36 [.val (.int .i64 11), .val (.int .i64 0)], .row v43 9 1 (l41.map eS), .row v11 9 1 (([] : List Str).map eS), .row v12 9 1 (([] : List Str).map eS)]) (js := [0, 0, 0, 0, 0, 0]) rfl rfl ?_
    refine G.again ?_
    intro hl44 a w hA
    exact ⟨_, Nat.lt_succ_self _, rest22, i20 + 1, l41, rfl, hl44, rng_next hd23, ⟨_, hA⟩⟩
 ·rintro b46 hb a w ⟨g47, hA⟩ hF48
  refine G.use hF48 hA ?_
  refine G.next_ hK14 ?_
  refine G.seq fun K49 hK50 => ?_
  refine G.seq fun K51 hK52 => ?_
  refine G.region ?_
  refine G.p rfl (V.fieldAddr (o' := 3) rfl Try.runUnderlying29 rfl Try.sizeOf23 rfl) ?_
  refine G.q rfl (V.load_cell (i := 0) (ds := (lf_T_Program b0)) (d := eL e_T_Data 3 b0.fDatas) rfl rfl Try.isAgg23 rfl rfl) ?_
  refine G.lenb (enc := e_T_Data) (xs := b0.fDatas) (sz := 3) (x := .tmp 45) (.of rfl) fun hN53 => ?_
  refine G.p rfl (V.len_sl (enc := e_T_Data) (xs := b0.fDatas) (sz := 3) (.of rfl) Try.runUnderlying23) ?_
  refine G.p rfl (V.move rfl) ?_
  refine G.nil ?_
  refine G.norm (L' := [(1, .val (.pointer (some ⟨g3, 0, none⟩))), (2, .val (.pointer (some ⟨g4, 0, none⟩))), (3, .val (.pointer (some ⟨g7, 0, none⟩))), (4, .val g47), (5, .val v11), (6, .val v12), (45, eL e_T_Data 3 b0.fDatas), (46, .val (.int .i64 (b0.fDatas.length : Int))), (47, .val (.int .i64 0))]) (is := [1, 2, 3, 4, 5, 6, 45, 46, 47]) (R' := [.cells g3 29 (lf_T_Program b0), .cells g4 36 [.val (.int .i64 0), .val (.int .i64 0)], .cells g7 36 [.val (.int .i64 11), .val (.int .i64 0)], .row g47 9 1 (b46.map eS), .row v11 9 1 (([] : List Str).map eS), .row v12 9 1 (([] : List Str).map eS)]) (js := [0, 0, 0, 0, 0, 0]) rfl rfl ?_
  refine G.next_ hK52 ?_
  refine G.join (E := fun o a w => ∃ b, o = .inr b ∧ ∃ (g_0 : Value), Ass Gl B 168 [(1, .val (.pointer (some ⟨g3, 0, none⟩))), (2, .val (.pointer (some ⟨g4, 0, none⟩))), (3, .val (.pointer (some ⟨g7, 0, none⟩))), (4, .val g47), (5, .val g_0), (6, .val v12)] [.cells g3 29 (lf_T_Program b0), .cells g4 36 [.val (.int .i64 0), .val (.int .i64 0)], .cells g7 36 [.val (.int .i64 11), .val (.int .i64 0)], .row g47 9 1 (b46.map eS), .row g_0 9 1 (b.map eS), .row v12 9 1 (([] : List Str).map eS)] a w) ?_ ?_
  ·intro b hF61
   refine G.block ?_
   refine G.norm (L' := [(1, .val (.pointer (some ⟨g3, 0, none⟩))), (2, .val (.pointer (some ⟨g4, 0, none⟩))), (3, .val (.pointer (some ⟨g7, 0, none⟩))), (4, .val g47), (5, .val v11), (6, .val v12), (45, eL e_T_Data 3 b0.fDatas), (46, .val (.int .i64 (b0.fDatas.length : Int))), (47, .val (.int .i64 ((0 : Nat) : Int)))]) (is := [1, 2, 3, 4, 5, 6, 45, 46, 47]) (R' := [.cells g3 29 (lf_T_Program b0), .cells g4 36 [.val (.int .i64 0), .val (.int .i64 0)], .cells g7 36 [.val (.int .i64 11), .val (.int .i64 0)], .row g47 9 1 (b46.map eS), .row v11 9 1 (([] : List Str).map eS), .row v12 9 1 (([] : List Str).map eS)]) (js := [0, 0, 0, 0, 0, 0]) rfl rfl ?_
   refine G.loop (fun kq a w => ∃ (rest58 : List (T_Data)) (i56 : Nat) (x54 : List Str), kq = rest58.length ∧ roadref2_ScopeOf.l2 rest58 x54 = some b ∧ b0.fDatas.drop i56 = rest58 ∧ ∃ (g_0 : Value), Ass Gl B 168 [(1, .val (.pointer (some ⟨g3, 0, none⟩))), (2, .val (.pointer (some ⟨g4, 0, none⟩))), (3, .val (.pointer (some ⟨g7, 0, none⟩))), (4, .val g47), (5, .val g_0), (6, .val v12), (45, eL e_T_Data 3 b0.fDatas), (46, .val (.int .i64 (b0.fDatas.length : Int))), (47, .val (.int .i64 (i56 : Int)))] [.cells g3 29 (lf_T_Program b0), .cells g4 36 [.val (.int .i64 0), .val (.int .i64 0)], .cells g7 36 [.val (.int .i64 11), .val (.int .i64 0)], .row g47 9 1 (b46.map eS), .row g_0 9 1 (x54.map eS), .row v12 9 1 (([] : List Str).map eS)] a w) (b0.fDatas.length) ?_ ?_
   ·intro hl94 a w hA
    exact ⟨b0.fDatas, 0, ([] : List Str), rfl, hl94, rfl, ⟨_, hA⟩⟩
   ·rintro _ a w ⟨rest58, i56, x54, rfl, hl62, hd59, ⟨g55, hA⟩⟩
    rcases rest58 with _ | ⟨y57, rest58⟩
    ·rw [roadref2_ScopeOf.l2_nil] at hl62
     refine G.use hl62 hA ?_
     refine G.seq fun K63 hK64 => ?_
     refine G.region ?_
     refine G.p rfl (V.bin (u := .int .i64 (i56 : Int)) (v := .int .i64 (b0.fDatas.length : Int)) (r := .bool (decide ((i56 : Int) < (b0.fDatas.length : Int)))) rfl rfl b_lss) ?_
     refine G.nil ?_
     refine G.norm (L' := [(1, .val (.pointer (some ⟨g3, 0, none⟩))), (2, .val (.pointer (some ⟨g4, 0, none⟩))), (3, .val (.pointer (some ⟨g7, 0, none⟩))), (4, .val g47), (5, .val g55), (6, .val v12), (45, eL e_T_Data 3 b0.fDatas), (46, .val (.int .i64 (b0.fDatas.length : Int))), (47, .val (.int .i64 (i56 : Int))), (48, .val (.bool (decide ((i56 : Int) < (b0.fDatas.length : Int)))))]) (is := [1, 2, 3, 4, 5, 6, 45, 46, 47, 48]) (R' := [.cells g3 29 (lf_T_Program b0), .cells g4 36 [.val (.int .i64 0), .val (.int .i64 0)], .cells g7 36 [.val (.int .i64 11), .val (.int .i64 0)], .row g47 9 1 (b46.map eS), .row g55 9 1 (x54.map eS), .row v12 9 1 (([] : List Str).map eS)]) (js := [0, 0, 0, 0, 0, 0]) rfl rfl ?_
     refine G.next_ hK64 ?_
     refine G.seq fun K65 hK66 => ?_
     refine G.no rfl (rng_end hd59) ?_
     refine G.exit ?_
     refine G.thn_exit ?_
     refine G.thn_exit ?_
     refine G.inB_eq ?_
     refine G.norm (L' := [(1, .val (.pointer (some ⟨g3, 0, none⟩))), (2, .val (.pointer (some ⟨g4, 0, none⟩))), (3, .val (.pointer (some ⟨g7, 0, none⟩))), (4, .val g47), (5, .val g55), (6, .val v12)]) (is := [1, 2, 3, 4, 5, 6]) (R' := [.cells g3 29 (lf_T_Program b0), .cells g4 36 [.val (.int .i64 0), .val (.int .i64 0)], .cells g7 36 [.val (.int .i64 11), .val (.int .i64 0)], .row g47 9 1 (b46.map eS), .row g55 9 1 (x54.map eS), .row v12 9 1 (([] : List Str).map eS)]) (js := [0, 0, 0, 0, 0, 0]) rfl rfl ?_
     exact G.finE fun hb a w hA => by subst hb; exact ⟨_, rfl, ⟨_, hA⟩⟩
    ·rw [roadref2_ScopeOf.l2_cons] at hl62
     refine G.use hl62 hA ?_
     refine G.seq fun K67 hK68 => ?_
     refine G.region ?_
     refine G.p rfl (V.bin (u := .int .i64 (i56 : Int)) (v := .int .i64 (b0.fDatas.length : Int)) (r := .bool (decide ((i56 : Int) < (b0.fDatas.length : Int)))) rfl rfl b_lss) ?_
     refine G.nil ?_
     refine G.norm (L' := [(1, .val (.pointer (some ⟨g3, 0, none⟩))), (2, .val (.pointer (some ⟨g4, 0, none⟩))), (3, .val (.pointer (some ⟨g7, 0, none⟩))), (4, .val g47), (5, .val g55), (6, .val v12), (45, eL e_T_Data 3 b0.fDatas), (46, .val (.int .i64 (b0.fDatas.length : Int))), (47, .val (.int .i64 (i56 : Int))), (48, .val (.bool (decide ((i56 : Int) < (b0.fDatas.length : Int)))))]) (is := [1, 2, 3, 4, 5, 6, 45, 46, 47, 48]) (R' := [.cells g3 29 (lf_T_Program b0), .cells g4 36 [.val (.int .i64 0), .val (.int .i64 0)], .cells g7 36 [.val (.int .i64 11), .val (.int .i64 0)], .row g47 9 1 (b46.map eS), .row g55 9 1 (x54.map eS), .row v12 9 1 (([] : List Str).map eS)]) (js := [0, 0, 0, 0, 0, 0]) rfl rfl ?_
     refine G.next_ hK68 ?_
     refine G.seq fun K69 hK70 => ?_
     refine G.yes rfl (rng_more hd59) ?_
     refine G.skip ?_
     refine G.next_ hK70 ?_
     refine G.seq fun K71 hK72 => ?_
     refine G.block ?_
     refine G.seq fun K73 hK74 => ?_
     refine G.region ?_
     refine G.p rfl (V.at_sl (k := i56) rfl rfl Try.runUnderlying23 Try.sizeOf73 (map_at (rng_at hd59))) ?_
     refine G.q rfl (V.load_ptrN (ds := (lf_T_Data y57)) rfl (e_T_Data_eq y57) Try.isAgg73 Try.sizeOf73 rfl) ?_
     refine G.op rfl (O.alloc (ds := [.val (bs ([] : Str)), .val (.slice none 0 0), .val (.slice none 0 0)]) Try.zeroValue73 rfl) fun g75 => ?_
     refine G.opn (O.store (i := 0) (o := 0) (ds := [.val (bs ([] : Str)), .val (.slice none 0 0), .val (.slice none 0 0)]) rfl (.of rfl) rfl (OneC.agg (List.forall_mem_cons.2 ⟨(.val rfl), (List.forall_mem_cons.2 ⟨.sl, (List.forall_mem_cons.2 ⟨.sl, (List.forall_mem_nil _)⟩)⟩)⟩)) Try.sizeOf73 rfl rfl) fun _ => ?_
     refine G.nil ?_
     refine G.norm (L' := [(1, .val (.pointer (some ⟨g3, 0, none⟩))), (2, .val (.pointer (some ⟨g4, 0, none⟩))), (3, .val (.pointer (some ⟨g7, 0, none⟩))), (4, .val g47), (5, .val g55), (6, .val v12), (10, .val (.pointer (some ⟨g75, 0, none⟩))), (45, eL e_T_Data 3 b0.fDatas), (46, .val (.int .i64 (b0.fDatas.length : Int))), (47, .val (.int .i64 (i56 : Int)))]) (is := [1, 2, 3, 4, 5, 6, 10, 45, 46, 47]) (R' := [.cells g75 73 (lf_T_Data y57), .cells g3 29 (lf_T_Program b0), .cells g4 36 [.val (.int .i64 0), .val (.int .i64 0)], .cells g7 36 [.val (.int .i64 11), .val (.int .i64 0)], .row g47 9 1 (b46.map eS), .row g55 9 1 (x54.map eS), .row v12 9 1 (([] : List Str).map eS)]) (js := [0, 0, 0, 0, 0, 0, 0]) rfl rfl ?_
     refine G.next_ hK74 ?_
     refine G.seq fun K76 hK77 => ?_
     refine G.region ?_
     refine G.p rfl (V.move rfl) ?_
     refine G.p rfl (V.fieldAddr (o' := 0) rfl Try.runUnderlying73 rfl Try.sizeOf9 rfl) ?_
     refine G.q rfl (V.load_cell (i := 0) (ds := (lf_T_Data y57)) (d := .val (bs y57.fName)) rfl rfl Try.isAgg9 rfl rfl) ?_
     refine G.op rfl (O.buildSlice (xs := [.tmp 53]) (ds := ([y57.fName] : List Str).map eS) elt30 rfl (.cons (.of rfl) .nil) rfl (by decide) (List.forall_mem_cons.2 ⟨(fun c hc => ((fun _ => one_S) _ c hc).mono), (List.forall_mem_nil _)⟩) (List.forall_mem_cons.2 ⟨rfl, (List.forall_mem_nil _)⟩)) fun v78 => ?_
     refine G.bind fun l79 hl80 => ?_
     refine G.op rfl (O.append_row (i := 6) (j := 0) (enc := eS) (xs := x54) (ys := ([y57.fName] : List Str)) (lim := 8796093022208) elt30 rfl rfl rfl rfl (by decide) (by decide) (fun _ => one_S) hl80) fun v81 => ?_
     refine G.p rfl (V.assign rfl) ?_
     refine G.nil ?_
     refine G.norm (L' := [(1, .val (.pointer (some ⟨g3, 0, none⟩))), (2, .val (.pointer (some ⟨g4, 0, none⟩))), (3, .val (.pointer (some ⟨g7, 0, none⟩))), (4, .val g47), (5, .val v81), (6, .val v12), (10, .val (.pointer (some ⟨g75, 0, none⟩))), (45, eL e_T_Data 3 b0.fDatas), (46, .val (.int .i64 (b0.fDatas.length : Int))), (47, .val (.int .i64 (i56 : Int)))]) (is := [1, 2, 3, 4, 5, 6, 10, 45, 46, 47]) (R' := [.cells g75 73 (lf_T_Data y57), .cells g3 29 (lf_T_Program b0), .cells g4 36 [.val (.int .i64 0), .val (.int .i64 0)], .cells g7 36 [.val (.int .i64 11), .val (.int .i64 0)], .row g47 9 1 (b46.map eS), .row v81 9 1 (l79.map eS), .row v12 9 1 (([] : List Str).map eS)]) (js := [1, 1, 1, 1, 1, 1, 1]) rfl rfl ?_
     refine G.next_ hK77 ?_
     refine G.seq fun K82 hK83 => ?_
     refine G.region ?_
     refine G.p rfl (V.fieldAddr (o' := 1) rfl Try.runUnderlying73 rfl Try.sizeOf30 rfl) ?_
     refine G.q rfl (V.load_cell (i := 0) (ds := (lf_T_Data y57)) (d := eL eS 1 y57.fParams) rfl rfl Try.isAgg30 rfl rfl) ?_
     refine G.bind fun r84 hr85 => ?_
     refine G.op rfl (O.call (xs := [.tmp 57]) (is := []) (Rp := []) (Rr := [.cells g75 73 (lf_T_Data y57), .cells g3 29 (lf_T_Program b0), .cells g4 36 [.val (.int .i64 0), .val (.int .i64 0)], .cells g7 36 [.val (.int .i64 11), .val (.int .i64 0)], .row g47 9 1 (b46.map eS), .row v81 9 1 (l79.map eS), .row v12 9 1 (([] : List Str).map eS)]) (roadref2_doubled_ok hr85) (.cons (.of rfl) .nil) Try.call22 rfl) fun x86 => ?_
     refine G.nil ?_
     refine G.norm (L' := [(1, .val (.pointer (some ⟨g3, 0, none⟩))), (2, .val (.pointer (some ⟨g4, 0, none⟩))), (3, .val (.pointer (some ⟨g7, 0, none⟩))), (4, .val g47), (5, .val v81), (6, .val v12), (45, eL e_T_Data 3 b0.fDatas), (46, .val (.int .i64 (b0.fDatas.length : Int))), (47, .val (.int .i64 (i56 : Int))), (58, .val (.bool r84))]) (is := [1, 2, 3, 4, 5, 6, 45, 46, 47, 58]) (R' := [.cells g3 29 (lf_T_Program b0), .cells g4 36 [.val (.int .i64 0), .val (.int .i64 0)], .cells g7 36 [.val (.int .i64 11), .val (.int .i64 0)], .row g47 9 1 (b46.map eS), .row v81 9 1 (l79.map eS), .row v12 9 1 (([] : List Str).map eS)]) (js := [1, 1, 1, 1, 1, 1]) rfl rfl ?_
     refine G.next_ hK83 ?_
     refine G.cond (b := r84) rfl (fun hc87 => ?_) (fun hc87 => ?_)
     ·refine G.norm (L' := [(2, .val (.pointer (some ⟨g4, 0, none⟩))), (3, .val (.pointer (some ⟨g7, 0, none⟩)))]) (is := [2, 3]) (R' := [.cells g4 36 [.val (.int .i64 0), .val (.int .i64 0)], .cells g7 36 [.val (.int .i64 11), .val (.int .i64 0)]]) (js := [1, 1]) rfl rfl ?_
      refine G.seq fun K88 hK89 => ?_
      refine G.region ?_
      refine G.q rfl (V.load_cellN (i := 1) (ds := [.val (.int .i64 11), .val (.int .i64 0)]) (c1 := [.val (.int .i64 11), .val (.int .i64 0)]) rfl rfl Try.isAgg36 Try.sizeOf36 rfl rfl rfl) ?_
      refine G.opn (O.store (i := 0) (o := 0) (ds := [.val (.int .i64 0), .val (.int .i64 0)]) rfl (.of rfl) rfl (OneC.agg (List.forall_mem_cons.2 ⟨(.val rfl), (List.forall_mem_cons.2 ⟨(.val rfl), (List.forall_mem_nil _)⟩)⟩)) Try.sizeOf36 rfl rfl) fun _ => ?_
      refine G.nil ?_
      refine G.norm (L' := [(2, .val (.pointer (some ⟨g4, 0, none⟩)))]) (is := [2]) (R' := [.cells g4 36 [.val (.int .i64 11), .val (.int .i64 0)]]) (js := [0]) rfl rfl ?_
      refine G.next_ hK89 ?_
      refine G.ret ?_
      refine G.inB_ret ?_
      refine G.thn_ret ?_
      refine G.thn_ret ?_
      refine G.inB_ret ?_
      refine G.thn_ret ?_
      refine G.thn_ret ?_
      refine G.fin_ fun hF90 => ?_
      have hb91 := Option.some.inj hF90
      subst hb91
      have hF92 : (some (T_Wrong.mk 11 0) : Option (T_Wrong)) = some _ := hF61
      obtain rfl := Option.some.inj hF92
      exact G.retc (i := 0) (ds := [.val (.int .i64 11), .val (.int .i64 0)]) Try.results6 () (is := []) rfl rfl Try.isAgg36 Try.sizeOf36 rfl rfl rfl
     ·refine G.norm (L' := [(1, .val (.pointer (some ⟨g3, 0, none⟩))), (2, .val (.pointer (some ⟨g4, 0, none⟩))), (3, .val (.pointer (some ⟨g7, 0, none⟩))), (4, .val g47), (5, .val v81), (6, .val v12), (45, eL e_T_Data 3 b0.fDatas), (46, .val (.int .i64 (b0.fDatas.length : Int))), (47, .val (.int .i64 (i56 : Int)))]) (is := [1, 2, 3, 4, 5, 6, 45, 46, 47]) (R' := [.cells g3 29 (lf_T_Program b0), .cells g4 36 [.val (.int .i64 0), .val (.int .i64 0)], .cells g7 36 [.val (.int .i64 11), .val (.int .i64 0)], .row g47 9 1 (b46.map eS), .row v81 9 1 (l79.map eS), .row v12 9 1 (([] : List Str).map eS)]) (js := [0, 0, 0, 0, 0, 0]) rfl rfl ?_
      refine G.skip ?_
      refine G.inB ?_
      refine G.next_ hK72 ?_
      refine G.region ?_
      refine G.p rfl (V.incr (i := i56) (N := b0.fDatas.length) rfl rfl (rng_lt hd59) (hN53)) ?_
      refine G.p rfl (V.move rfl) ?_
      refine G.nil ?_
      refine G.norm (L' := [(1, .val (.pointer (some ⟨g3, 0, none⟩))), (2, .val (.pointer (some ⟨g4, 0, none⟩))), (3, .val (.pointer (some ⟨g7, 0, none⟩))), (4, .val g47), (5, .val v81), (6, .val v12), (45, eL e_T_Data 3 b0.fDatas), (46, .val (.int .i64 (b0.fDatas.length : Int))), (47, .val (.int .i64 ((i56 + 1 : Nat) : Int)))]) (is := [1, 2, 3, 4, 5, 6, 45, 46, 47]) (R' := [.cells g3 29 (lf_T_Program b0), .cells g4 36 [.val (.int .i64 0), .val (.int .i64 0)], .cells g7 36 [.val (.int .i64 11), .val (.int .i64 0)], .row g47 9 1 (b46.map eS), .row v81 9 1 (l79.map eS), .row v12 9 1 (([] : List Str).map eS)]) (js := [0, 0, 0, 0, 0, 0]) rfl rfl ?_
      refine G.again ?_
      intro hl93 a w hA
      exact ⟨_, Nat.lt_succ_self _, rest58, i56 + 1, l79, rfl, hl93, rng_next hd59, ⟨_, hA⟩⟩
  ·rintro _ hb a w ⟨b95, rfl, ⟨g96, hA⟩⟩ hF97
   refine G.use hF97 hA ?_
   refine G.inr ?_
   refine G.next_ hK50 ?_
   refine G.seq fun K98 hK99 => ?_
   refine G.seq fun K100 hK101 => ?_
   refine G.region ?_
   refine G.p rfl (V.fieldAddr (o' := 4) rfl Try.runUnderlying29 rfl Try.sizeOf24 rfl) ?_
   refine G.q rfl (V.load_cell (i := 0) (ds := (lf_T_Program b0)) (d := eL e_T_Trait 2 b0.fTraits) rfl rfl Try.isAgg24 rfl rfl) ?_
   refine G.lenb (enc := e_T_Trait) (xs := b0.fTraits) (sz := 2) (x := .tmp 62) (.of rfl) fun hN102 => ?_
   refine G.p rfl (V.len_sl (enc := e_T_Trait) (xs := b0.fTraits) (sz := 2) (.of rfl) Try.runUnderlying24) ?_
   refine G.p rfl (V.move rfl) ?_
   refine G.nil ?_
   refine G.norm (L' := [(1, .val (.pointer (some ⟨g3, 0, none⟩))), (2, .val (.pointer (some ⟨g4, 0, none⟩))), (3, .val (.pointer (some ⟨g7, 0, none⟩))), (4, .val g47), (5, .val g96), (6, .val v12), (62, eL e_T_Trait 2 b0.fTraits), (63, .val (.int .i64 (b0.fTraits.length : Int))), (64, .val (.int .i64 0))]) (is := [1, 2, 3, 4, 5, 6, 62, 63, 64]) (R' := [.cells g3 29 (lf_T_Program b0), .cells g4 36 [.val (.int .i64 0), .val (.int .i64 0)], .cells g7 36 [.val (.int .i64 11), .val (.int .i64 0)], .row g47 9 1 (b46.map eS), .row g96 9 1 (b95.map eS), .row v12 9 1 (([] : List Str).map eS)]) (js := [0, 0, 0, 0, 0, 0]) rfl rfl ?_
   refine G.next_ hK101 ?_
   refine G.join (E := fun b a w => ∃ (g_0 : Value), Ass Gl B 168 [(1, .val (.pointer (some ⟨g3, 0, none⟩))), (2, .val (.pointer (some ⟨g4, 0, none⟩))), (3, .val (.pointer (some ⟨g7, 0, none⟩))), (4, .val g47), (5, .val g96), (6, .val g_0)] [.cells g3 29 (lf_T_Program b0), .cells g4 36 [.val (.int .i64 0), .val (.int .i64 0)], .cells g7 36 [.val (.int .i64 11), .val (.int .i64 0)], .row g47 9 1 (b46.map eS), .row g96 9 1 (b95.map eS), .row g_0 9 1 (b.map eS)] a w) ?_ ?_
   ·intro b hF110
    refine G.block ?_
    refine G.norm (L' := [(1, .val (.pointer (some ⟨g3, 0, none⟩))), (2, .val (.pointer (some ⟨g4, 0, none⟩))), (3, .val (.pointer (some ⟨g7, 0, none⟩))), (4, .val g47), (5, .val g96), (6, .val v12), (62, eL e_T_Trait 2 b0.fTraits), (63, .val (.int .i64 (b0.fTraits.length : Int))), (64, .val (.int .i64 ((0 : Nat) : Int)))]) (is := [1, 2, 3, 4, 5, 6, 62, 63, 64]) (R' := [.cells g3 29 (lf_T_Program b0), .cells g4 36 [.val (.int .i64 0), .val (.int .i64 0)], .cells g7 36 [.val (.int .i64 11), .val (.int .i64 0)], .row g47 9 1 (b46.map eS), .row g96 9 1 (b95.map eS), .row v12 9 1 (([] : List Str).map eS)]) (js := [0, 0, 0, 0, 0, 0]) rfl rfl ?_
    refine G.loop (fun kq a w => ∃ (rest107 : List (T_Trait)) (i105 : Nat) (x103 : List Str), kq = rest107.length ∧ roadref2_ScopeOf.l3 rest107 x103 = some b ∧ b0.fTraits.drop i105 = rest107 ∧ ∃ (g_0 : Value), Ass Gl B 168 [(1, .val (.pointer (some ⟨g3, 0, none⟩))), (2, .val (.pointer (some ⟨g4, 0, none⟩))), (3, .val (.pointer (some ⟨g7, 0, none⟩))), (4, .val g47), (5, .val g96), (6, .val g_0), (62, eL e_T_Trait 2 b0.fTraits), (63, .val (.int .i64 (b0.fTraits.length : Int))), (64, .val (.int .i64 (i105 : Int)))] [.cells g3 29 (lf_T_Program b0), .cells g4 36 [.val (.int .i64 0), .val (.int .i64 0)], .cells g7 36 [.val (.int .i64 11), .val (.int .i64 0)], .row g47 9 1 (b46.map eS), .row g96 9 1 (b95.map eS), .row g_0 9 1 (x103.map eS)] a w) (b0.fTraits.length) ?_ ?_
    ·intro hl130 a w hA
     exact ⟨b0.fTraits, 0, ([] : List Str), rfl, hl130, rfl, ⟨_, hA⟩⟩
    ·rintro _ a w ⟨rest107, i105, x103, rfl, hl111, hd108, ⟨g104, hA⟩⟩
     rcases rest107 with _ | ⟨y106, rest107⟩
     ·rw [roadref2_ScopeOf.l3_nil] at hl111
      refine G.use hl111 hA ?_
      refine G.seq fun K112 hK113 => ?_
      refine G.region ?_
      refine G.p rfl (V.bin (u := .int .i64 (i105 : Int)) (v := .int .i64 (b0.fTraits.length : Int)) (r := .bool (decide ((i105 : Int) < (b0.fTraits.length : Int)))) rfl rfl b_lss) ?_
      refine G.nil ?_
      refine G.norm (L' := [(1, .val (.pointer (some ⟨g3, 0, none⟩))), (2, .val (.pointer (some ⟨g4, 0, none⟩))), (3, .val (.pointer (some ⟨g7, 0, none⟩))), (4, .val g47), (5, .val g96), (6, .val g104), (62, eL e_T_Trait 2 b0.fTraits), (63, .val (.int .i64 (b0.fTraits.length : Int))), (64, .val (.int .i64 (i105 : Int))), (65, .val (.bool (decide ((i105 : Int) < (b0.fTraits.length : Int)))))]) (is := [1, 2, 3, 4, 5, 6, 62, 63, 64, 65]) (R' := [.cells g3 29 (lf_T_Program b0), .cells g4 36 [.val (.int .i64 0), .val (.int .i64 0)], .cells g7 36 [.val (.int .i64 11), .val (.int .i64 0)], .row g47 9 1 (b46.map eS), .row g96 9 1 (b95.map eS), .row g104 9 1 (x103.map eS)]) (js := [0, 0, 0, 0, 0, 0]) rfl rfl ?_
      refine G.next_ hK113 ?_
      refine G.seq fun K114 hK115 => ?_
      refine G.no rfl (rng_end hd108) ?_
      refine G.exit ?_
      refine G.thn_exit ?_
      refine G.thn_exit ?_
      refine G.inB_eq ?_
      refine G.norm (L' := [(1, .val (.pointer (some ⟨g3, 0, none⟩))), (2, .val (.pointer (some ⟨g4, 0, none⟩))), (3, .val (.pointer (some ⟨g7, 0, none⟩))), (4, .val g47), (5, .val g96), (6, .val g104)]) (is := [1, 2, 3, 4, 5, 6]) (R' := [.cells g3 29 (lf_T_Program b0), .cells g4 36 [.val (.int .i64 0), .val (.int .i64 0)], .cells g7 36 [.val (.int .i64 11), .val (.int .i64 0)], .row g47 9 1 (b46.map eS), .row g96 9 1 (b95.map eS), .row g104 9 1 (x103.map eS)]) (js := [0, 0, 0, 0, 0, 0]) rfl rfl ?_
      exact G.finE fun hb a w hA => by subst hb; exact ⟨_, hA⟩
     ·rw [roadref2_ScopeOf.l3_cons] at hl111
      refine G.use hl111 hA ?_
      refine G.seq fun K116 hK117 => ?_
      refine G.region ?_
      refine G.p rfl (V.bin (u := .int .i64 (i105 : Int)) (v := .int .i64 (b0.fTraits.length : Int)) (r := .bool (decide ((i105 : Int) < (b0.fTraits.length : Int)))) rfl rfl b_lss) ?_
      refine G.nil ?_
      refine G.norm (L' := [(1, .val (.pointer (some ⟨g3, 0, none⟩))), (2, .val (.pointer (some ⟨g4, 0, none⟩))), (3, .val (.pointer (some ⟨g7, 0, none⟩))), (4, .val g47), (5, .val g96), (6, .val g104), (62, eL e_T_Trait 2 b0.fTraits), (63, .val (.int .i64 (b0.fTraits.length : Int))), (64, .val (.int .i64 (i105 : Int))), (65, .val (.bool (decide ((i105 : Int) < (b0.fTraits.length : Int)))))]) (is := [1, 2, 3, 4, 5, 6, 62, 63, 64, 65]) (R' := [.cells g3 29 (lf_T_Program b0), .cells g4 36 [.val (.int .i64 0), .val (.int .i64 0)], .cells g7 36 [.val (.int .i64 11), .val (.int .i64 0)], .row g47 9 1 (b46.map eS), .row g96 9 1 (b95.map eS), .row g104 9 1 (x103.map eS)]) (js := [0, 0, 0, 0, 0, 0]) rfl rfl ?_
      refine G.next_ hK117 ?_
      refine G.seq fun K118 hK119 => ?_
      refine G.yes rfl (rng_more hd108) ?_
      refine G.skip ?_
      refine G.next_ hK119 ?_
      refine G.seq fun K120 hK121 => ?_
      refine G.block ?_
      refine G.seq fun K122 hK123 => ?_
      refine G.region ?_
      refine G.p rfl (V.at_sl (k := i105) rfl rfl Try.runUnderlying24 Try.sizeOf55 (map_at (rng_at hd108))) ?_
      refine G.q rfl (V.load_ptrN (ds := [.val (bs y106.fName), eL e_T_Func 15 y106.fFuncs]) rfl (e_T_Trait_eq y106) Try.isAgg55 Try.sizeOf55 rfl) ?_
      refine G.op rfl (O.alloc (ds := [.val (bs ([] : Str)), .val (.slice none 0 0)]) Try.zeroValue55 rfl) fun g124 => ?_
      refine G.opn (O.store (i := 0) (o := 0) (ds := [.val (bs ([] : Str)), .val (.slice none 0 0)]) rfl (.of rfl) rfl (OneC.agg (List.forall_mem_cons.2 ⟨(.val rfl), (List.forall_mem_cons.2 ⟨.sl, (List.forall_mem_nil _)⟩)⟩)) Try.sizeOf55 rfl rfl) fun _ => ?_
      refine G.nil ?_
      refine G.norm (L' := [(1, .val (.pointer (some ⟨g3, 0, none⟩))), (2, .val (.pointer (some ⟨g4, 0, none⟩))), (3, .val (.pointer (some ⟨g7, 0, none⟩))), (4, .val g47), (5, .val g96), (6, .val g104), (12, .val (.pointer (some ⟨g124, 0, none⟩))), (62, eL e_T_Trait 2 b0.fTraits), (63, .val (.int .i64 (b0.fTraits.length : Int))), (64, .val (.int .i64 (i105 : Int)))]) (is := [1, 2, 3, 4, 5, 6, 12, 62, 63, 64]) (R' := [.cells g124 55 [.val (bs y106.fName), eL e_T_Func 15 y106.fFuncs], .cells g3 29 (lf_T_Program b0), .cells g4 36 [.val (.int .i64 0), .val (.int .i64 0)], .cells g7 36 [.val (.int .i64 11), .val (.int .i64 0)], .row g47 9 1 (b46.map eS), .row g96 9 1 (b95.map eS), .row g104 9 1 (x103.map eS)]) (js := [0, 0, 0, 0, 0, 0, 0]) rfl rfl ?_
      refine G.next_ hK123 ?_
      refine G.region ?_
      refine G.p rfl (V.move rfl) ?_
      refine G.p rfl (V.fieldAddr (o' := 0) rfl Try.runUnderlying55 rfl Try.sizeOf9 rfl) ?_
      refine G.q rfl (V.load_cell (i := 0) (ds := [.val (bs y106.fName), eL e_T_Func 15 y106.fFuncs]) (d := .val (bs y106.fName)) rfl rfl Try.isAgg9 rfl rfl) ?_
      refine G.op rfl (O.buildSlice (xs := [.tmp 70]) (ds := ([y106.fName] : List Str).map eS) elt30 rfl (.cons (.of rfl) .nil) rfl (by decide) (List.forall_mem_cons.2 ⟨(fun c hc => ((fun _ => one_S) _ c hc).mono), (List.forall_mem_nil _)⟩) (List.forall_mem_cons.2 ⟨rfl, (List.forall_mem_nil _)⟩)) fun v125 => ?_
      refine G.bind fun l126 hl127 => ?_
      refine G.op rfl (O.append_row (i := 7) (j := 0) (enc := eS) (xs := x103) (ys := ([y106.fName] : List Str)) (lim := 8796093022208) elt30 rfl rfl rfl rfl (by decide) (by decide) (fun _ => one_S) hl127) fun v128 => ?_
      refine G.p rfl (V.assign rfl) ?_
      refine G.nil ?_
      refine G.norm (L' := [(1, .val (.pointer (some ⟨g3, 0, none⟩))), (2, .val (.pointer (some ⟨g4, 0, none⟩))), (3, .val (.pointer (some ⟨g7, 0, none⟩))), (4, .val g47), (5, .val g96), (6, .val v128), (62, eL e_T_Trait 2 b0.fTraits), (63, .val (.int .i64 (b0.fTraits.length : Int))), (64, .val (.int .i64 (i105 : Int)))]) (is := [1, 2, 3, 4, 5, 6, 62, 63, 64]) (R' := [.cells g3 29 (lf_T_Program b0), .cells g4 36 [.val (.int .i64 0), .val (.int .i64 0)], .cells g7 36 [.val (.int .i64 11), .val (.int .i64 0)], .row g47 9 1 (b46.map eS), .row g96 9 1 (b95.map eS), .row v128 9 1 (l126.map eS)]) (js := [2, 2, 2, 2, 2, 2]) rfl rfl ?_
      refine G.inB ?_
      refine G.next_ hK121 ?_
      refine G.region ?_
      refine G.p rfl (V.incr (i := i105) (N := b0.fTraits.length) rfl rfl (rng_lt hd108) (hN102)) ?_
      refine G.p rfl (V.move rfl) ?_
      refine G.nil ?_
      refine G.norm (L' := [(1, .val (.pointer (some ⟨g3, 0, none⟩))), (2, .val (.pointer (some ⟨g4, 0, none⟩))), (3, .val (.pointer (some ⟨g7, 0, none⟩))), (4, .val g47), (5, .val g96), (6, .val v128), (62, eL e_T_Trait 2 b0.fTraits), (63, .val (.int .i64 (b0.fTraits.length : Int))), (64, .val (.int .i64 ((i105 + 1 : Nat) : Int)))]) (is := [1, 2, 3, 4, 5, 6, 62, 63, 64]) (R' := [.cells g3 29 (lf_T_Program b0), .cells g4 36 [.val (.int .i64 0), .val (.int .i64 0)], .cells g7 36 [.val (.int .i64 11), .val (.int .i64 0)], .row g47 9 1 (b46.map eS), .row g96 9 1 (b95.map eS), .row v128 9 1 (l126.map eS)]) (js := [0, 0, 0, 0, 0, 0]) rfl rfl ?_
      refine G.again ?_
      intro hl129 a w hA
      exact ⟨_, Nat.lt_succ_self _, rest107, i105 + 1, l126, rfl, hl129, rng_next hd108, ⟨_, hA⟩⟩
   ·rintro b131 hb a w ⟨g132, hA⟩ hF133
    refine G.use hF133 hA ?_
    refine G.next_ hK99 ?_
    refine G.seq fun K134 hK135 => ?_
    refine G.seq fun K136 hK137 => ?_
    refine G.norm (L' := [(1, .val (.pointer (some ⟨g3, 0, none⟩))), (2, .val (.pointer (some ⟨g4, 0, none⟩))), (3, .val (.pointer (some ⟨g7, 0, none⟩))), (4, .val g47), (5, .val g96), (6, .val g132)]) (is := [1, 2, 3, 4, 5, 6]) (R' := [.cells g3 29 (lf_T_Program b0), .cells g4 36 [.val (.int .i64 0), .val (.int .i64 0)], .cells g7 36 [.val (.int .i64 11), .val (.int .i64 0)], .row g47 9 1 (b46.map eS), .row g96 9 1 (b95.map eS), .row g132 9 1 (b131.map eS)]) (js := [0, 0, 0, 0, 0, 0]) rfl rfl ?_
    refine G.freeze 3 (L' := [(1, .val (.pointer (some ⟨g3, 0, none⟩))), (2, .val (.pointer (some ⟨g4, 0, none⟩))), (3, .val (.pointer (some ⟨g7, 0, none⟩))), (4, eL eS 1 b46), (5, .val g96), (6, .val g132)]) (R' := [.cells g3 29 (lf_T_Program b0), .cells g4 36 [.val (.int .i64 0), .val (.int .i64 0)], .cells g7 36 [.val (.int .i64 11), .val (.int .i64 0)], .row g96 9 1 (b95.map eS), .row g132 9 1 (b131.map eS)]) rfl (fun S w h => .cons .refl (.cons .refl (.cons .refl (.cons (.fz h) (.cons .refl (.cons .refl .nil)))))) (fun S w h => .same (.same (.same (.same (.same .nil))))) ?_
    refine G.norm (L' := [(1, .val (.pointer (some ⟨g3, 0, none⟩))), (2, .val (.pointer (some ⟨g4, 0, none⟩))), (3, .val (.pointer (some ⟨g7, 0, none⟩))), (4, eL eS 1 b46), (5, .val g96), (6, .val g132)]) (is := [1, 2, 3, 4, 5, 6]) (R' := [.cells g3 29 (lf_T_Program b0), .cells g4 36 [.val (.int .i64 0), .val (.int .i64 0)], .cells g7 36 [.val (.int .i64 11), .val (.int .i64 0)], .row g96 9 1 (b95.map eS), .row g132 9 1 (b131.map eS)]) (js := [0, 0, 0, 0, 0]) rfl rfl ?_
    refine G.freeze 3 (L' := [(1, .val (.pointer (some ⟨g3, 0, none⟩))), (2, .val (.pointer (some ⟨g4, 0, none⟩))), (3, .val (.pointer (some ⟨g7, 0, none⟩))), (4, eL eS 1 b46), (5, eL eS 1 b95), (6, .val g132)]) (R' := [.cells g3 29 (lf_T_Program b0), .cells g4 36 [.val (.int .i64 0), .val (.int .i64 0)], .cells g7 36 [.val (.int .i64 11), .val (.int .i64 0)], .row g132 9 1 (b131.map eS)]) rfl (fun S w h => .cons .refl (.cons .refl (.cons .refl (.cons .refl (.cons (.fz h) (.cons .refl .nil)))))) (fun S w h => .same (.same (.same (.same .nil)))) ?_
    refine G.norm (L' := [(1, .val (.pointer (some ⟨g3, 0, none⟩))), (2, .val (.pointer (some ⟨g4, 0, none⟩))), (3, .val (.pointer (some ⟨g7, 0, none⟩))), (4, eL eS 1 b46), (5, eL eS 1 b95), (6, .val g132)]) (is := [1, 2, 3, 4, 5, 6]) (R' := [.cells g3 29 (lf_T_Program b0), .cells g4 36 [.val (.int .i64 0), .val (.int .i64 0)], .cells g7 36 [.val (.int .i64 11), .val (.int .i64 0)], .row g132 9 1 (b131.map eS)]) (js := [0, 0, 0, 0]) rfl rfl ?_
    refine G.freeze 3 (L' := [(1, .val (.pointer (some ⟨g3, 0, none⟩))), (2, .val (.pointer (some ⟨g4, 0, none⟩))), (3, .val (.pointer (some ⟨g7, 0, none⟩))), (4, eL eS 1 b46), (5, eL eS 1 b95), (6, eL eS 1 b131)]) (R' := [.cells g3 29 (lf_T_Program b0), .cells g4 36 [.val (.int .i64 0), .val (.int .i64 0)], .cells g7 36 [.val (.int .i64 11), .val (.int .i64 0)]]) rfl (fun S w h => .cons .refl (.cons .refl (.cons .refl (.cons .refl (.cons .refl (.cons (.fz h) .nil)))))) (fun S w h => .same (.same (.same .nil))) ?_
    refine G.norm (L' := [(1, .val (.pointer (some ⟨g3, 0, none⟩))), (2, .val (.pointer (some ⟨g4, 0, none⟩))), (3, .val (.pointer (some ⟨g7, 0, none⟩))), (4, eL eS 1 b46), (5, eL eS 1 b95), (6, eL eS 1 b131)]) (is := [1, 2, 3, 4, 5, 6]) (R' := [.cells g3 29 (lf_T_Program b0), .cells g4 36 [.val (.int .i64 0), .val (.int .i64 0)], .cells g7 36 [.val (.int .i64 11), .val (.int .i64 0)]]) (js := [0, 0, 0]) rfl rfl ?_
    refine G.bind fun r149 hr150 => ?_
    refine G.bind fun r152 hr153 => ?_
    refine G.bind fun r155 hr156 => ?_
    refine G.draw [] Try_mixed 12 rfl rfl (fun B1 => ?_)
    refine GH.take 0 rfl rfl (by kernel_rfl) (by kernel_rfl) (by kernel_rfl) (Qp.qv (V.move rfl)) (fun _ _ _ _ h => h) ?_
    refine GH.take 1 rfl rfl (by kernel_rfl) (by kernel_rfl) (by kernel_rfl) (Qp.qv (V.move rfl)) (fun _ _ _ _ h => h) ?_
    refine GH.take 2 rfl rfl (by kernel_rfl) (by kernel_rfl) (by kernel_rfl) (Qp.qv (V.move rfl)) (fun _ _ _ _ h => h) ?_
    refine GH.take 3 rfl rfl (by kernel_rfl) (by kernel_rfl) (by kernel_rfl) (V.load_cellN (i := 0) (ds := (lf_T_Program b0)) (c1 := (lf_T_Program b0)) rfl rfl Try.isAgg29 Try.sizeOf29 rfl rfl rfl) (fun _ _ _ _ h => h) ?_
    refine GH.take 5 rfl rfl (by kernel_rfl) (by kernel_rfl) (by kernel_rfl) (V.load_cellN (i := 0) (ds := (lf_T_Program b0)) (c1 := (lf_T_Program b0)) rfl rfl Try.isAgg29 Try.sizeOf29 rfl rfl rfl) (fun _ _ _ _ h => h) ?_
    refine GH.take 7 rfl rfl (by kernel_rfl) (by kernel_rfl) (by kernel_rfl) (V.load_cellN (i := 0) (ds := (lf_T_Program b0)) (c1 := (lf_T_Program b0)) rfl rfl Try.isAgg29 Try.sizeOf29 rfl rfl rfl) (fun _ _ _ _ h => h) ?_
    refine GH.take 11 rfl rfl (by kernel_rfl) (by kernel_rfl) (by kernel_rfl) (Qp.qv (V.move rfl)) (fun _ _ _ _ h => h) ?_
    refine GH.all [4] (by kernel_rfl) (by decide) ?_
    refine (all_cons ?_ (List.forall_mem_nil _))
    ·refine GH.loud rfl rfl (O.call (xs := [.tmp 77]) (is := []) (Rp := []) (Rr := []) (roadref2_makersOf_ok hr150) (.cons (.of rfl) .nil) Try.call23 rfl) fun x168 => ?_
     refine GH.all [6] (by kernel_rfl) (by decide) ?_
     refine (all_cons ?_ (List.forall_mem_nil _))
     ·refine GH.loud rfl rfl (O.call (xs := [.tmp 79]) (is := []) (Rp := []) (Rr := [.row x168 9 1 (r149.map eS)]) (roadref2_callsOf_ok hr153) (.cons (.of rfl) .nil) Try.call24 rfl) fun x171 => ?_
      refine GH.all [8] (by kernel_rfl) (by decide) ?_
      refine (all_cons ?_ (List.forall_mem_nil _))
      ·refine GH.loud rfl rfl (O.call (xs := [.tmp 81]) (is := []) (Rp := []) (Rr := [.row x171 9 1 (r152.map eS), .row x168 9 1 (r149.map eS)]) (roadref2_actorsOf_ok hr156) (.cons (.of rfl) .nil) Try.call25 rfl) fun x174 => ?_
       refine GH.all [9] (by kernel_rfl) (by decide) ?_
       refine (all_cons ?_ (List.forall_mem_nil _))
       ·refine GH.freeze 2 (L2' := [(82, .val x174), (80, .val x171), (78, eL eS 1 r149)]) (R' := [.row x174 9 1 (r155.map eS), .row x171 9 1 (r152.map eS)]) rfl (fun S w h => .cons .refl (.cons .refl (.cons (.fz h) .nil))) (fun S w h => .same (.same .nil)) ?_
        refine GH.freeze 1 (L2' := [(82, .val x174), (80, eL eS 1 r152), (78, eL eS 1 r149)]) (R' := [.row x174 9 1 (r155.map eS)]) rfl (fun S w h => .cons .refl (.cons (.fz h) (.cons .refl .nil))) (fun S w h => .same .nil) ?_
        refine GH.freeze 0 (L2' := [(82, eL eS 1 r155), (80, eL eS 1 r152), (78, eL eS 1 r149)]) (R' := []) rfl (fun S w h => .cons (.fz h) (.cons .refl (.cons .refl .nil))) (fun S w h => .nil) ?_
        refine GH.loud rfl rfl (O.buildSlice (xs := [.tmp 74, .tmp 75, .tmp 76, .tmp 78, .tmp 80, .tmp 82]) (ds := ([b46, b95, b131, r149, r152, r155] : List (List Str)).map (eL eS 1)) elt74 rfl (.cons (.of rfl) (.cons (.of rfl) (.cons (.of rfl) (.cons (.of rfl) (.cons (.of rfl) (.cons (.of rfl) .nil)))))) rfl (by decide) (List.forall_mem_cons.2 ⟨(fun c hc => ((fun _ => one_L) _ c hc).mono), (List.forall_mem_cons.2 ⟨(fun c hc => ((fun _ => one_L) _ c hc).mono), (List.forall_mem_cons.2 ⟨(fun c hc => ((fun _ => one_L) _ c hc).mono), (List.forall_mem_cons.2 ⟨(fun c hc => ((fun _ => one_L) _ c hc).mono), (List.forall_mem_cons.2 ⟨(fun c hc => ((fun _ => one_L) _ c hc).mono), (List.forall_mem_cons.2 ⟨(fun c hc => ((fun _ => one_L) _ c hc).mono), (List.forall_mem_nil _)⟩)⟩)⟩)⟩)⟩)⟩) (List.forall_mem_cons.2 ⟨rfl, (List.forall_mem_cons.2 ⟨rfl, (List.forall_mem_cons.2 ⟨rfl, (List.forall_mem_cons.2 ⟨rfl, (List.forall_mem_cons.2 ⟨rfl, (List.forall_mem_cons.2 ⟨rfl, (List.forall_mem_nil _)⟩)⟩)⟩)⟩)⟩)⟩)) fun v175 => ?_
        refine GH.all [10] (by kernel_rfl) (by decide) ?_
        refine (all_cons ?_ (List.forall_mem_nil _))
        ·refine GH.lenr (i := 0) (enc := (eL eS 1)) (xs := ([b46, b95, b131, r149, r152, r155] : List (List Str))) rfl fun hN176 => ?_
         refine GH.loud rfl rfl (Op1.q (V.len_row (j := 0) (enc := (eL eS 1)) (xs := ([b46, b95, b131, r149, r152, r155] : List (List Str))) rfl rfl Try.runUnderlying74)) fun _ => ?_
         refine GH.lift Ind.val ?_
         refine GH.done (is := [1, 2, 3, 83, 84, 85]) (js := [0, 0, 0, 0]) (L' := [(1, .val (.pointer (some ⟨g3, 0, none⟩))), (2, .val (.pointer (some ⟨g4, 0, none⟩))), (3, .val (.pointer (some ⟨g7, 0, none⟩))), (83, .val v175), (84, .val (.int .i64 (([b46, b95, b131, r149, r152, r155] : List (List Str)).length : Int))), (85, .val (.int .i64 0))]) (R' := [.row v175 30 1 (([b46, b95, b131, r149, r152, r155] : List (List Str)).map (eL eS 1)), .cells g3 29 (lf_T_Program b0), .cells g4 36 [.val (.int .i64 0), .val (.int .i64 0)], .cells g7 36 [.val (.int .i64 11), .val (.int .i64 0)]]) (by kernel_rfl) rfl rfl ?_
         refine G.next_ hK137 ?_
         refine G.norm (L' := [(1, .val (.pointer (some ⟨g3, 0, none⟩))), (2, .val (.pointer (some ⟨g4, 0, none⟩))), (3, .val (.pointer (some ⟨g7, 0, none⟩))), (83, .val v175), (84, .val (.int .i64 (([b46, b95, b131, r149, r152, r155] : List (List Str)).length : Int))), (85, .val (.int .i64 0))]) (is := [1, 2, 3, 83, 84, 85]) (R' := [.row v175 30 1 (([b46, b95, b131, r149, r152, r155] : List (List Str)).map (eL eS 1)), .cells g3 29 (lf_T_Program b0), .cells g4 36 [.val (.int .i64 0), .val (.int .i64 0)], .cells g7 36 [.val (.int .i64 11), .val (.int .i64 0)]]) (js := [0, 0, 0, 0]) rfl rfl ?_
         refine G.join (E := fun o a w => ∃ b, o = .inr b ∧ Ass Gl B 168 [(1, .val (.pointer (some ⟨g3, 0, none⟩))), (2, .val (.pointer (some ⟨g4, 0, none⟩))), (3, .val (.pointer (some ⟨g7, 0, none⟩)))] [.cells g3 29 (lf_T_Program b0), .cells g4 36 [.val (.int .i64 0), .val (.int .i64 0)], .cells g7 36 [.val (.int .i64 11), .val (.int .i64 0)]] a w) ?_ ?_
         ·intro b hF182
          refine G.block ?_
          refine G.norm (L' := [(1, .val (.pointer (some ⟨g3, 0, none⟩))), (2, .val (.pointer (some ⟨g4, 0, none⟩))), (3, .val (.pointer (some ⟨g7, 0, none⟩))), (83, .val v175), (84, .val (.int .i64 (([b46, b95, b131, r149, r152, r155] : List (List Str)).length : Int))), (85, .val (.int .i64 ((0 : Nat) : Int)))]) (is := [1, 2, 3, 83, 84, 85]) (R' := [.cells g3 29 (lf_T_Program b0), .cells g4 36 [.val (.int .i64 0), .val (.int .i64 0)], .cells g7 36 [.val (.int .i64 11), .val (.int .i64 0)], .row v175 30 1 (([b46, b95, b131, r149, r152, r155] : List (List Str)).map (eL eS 1))]) (js := [1, 1, 1, 0]) rfl rfl ?_
          refine G.loop (fun kq a w => ∃ (rest179 : List (List Str)) (i177 : Nat), kq = rest179.length ∧ roadref2_ScopeOf.l4 rest179 = some b ∧ ([b46, b95, b131, r149, r152, r155] : List (List Str)).drop i177 = rest179 ∧ Ass Gl B 168 [(1, .val (.pointer (some ⟨g3, 0, none⟩))), (2, .val (.pointer (some ⟨g4, 0, none⟩))), (3, .val (.pointer (some ⟨g7, 0, none⟩))), (83, .val v175), (84, .val (.int .i64 (([b46, b95, b131, r149, r152, r155] : List (List Str)).length : Int))), (85, .val (.int .i64 (i177 : Int)))] [.cells g3 29 (lf_T_Program b0), .cells g4 36 [.val (.int .i64 0), .val (.int .i64 0)], .cells g7 36 [.val (.int .i64 11), .val (.int .i64 0)], .row v175 30 1 (([b46, b95, b131, r149, r152, r155] : List (List Str)).map (eL eS 1))] a w) (([b46, b95, b131, r149, r152, r155] : List (List Str)).length) ?_ ?_
          ·intro hl208 a w hA
           exact ⟨([b46, b95, b131, r149, r152, r155] : List (List Str)), 0, rfl, hl208, rfl, hA⟩
          ·rintro _ a w ⟨rest179, i177, rfl, hl183, hd180, hA⟩
           rcases rest179 with _ | ⟨y178, rest179⟩
           ·rw [roadref2_ScopeOf.l4_nil] at hl183
            refine G.use hl183 hA ?_
            refine G.seq fun K184 hK185 => ?_
            refine G.region ?_
            refine G.p rfl (V.bin (u := .int .i64 (i177 : Int)) (v := .int .i64 (([b46, b95, b131, r149, r152, r155] : List (List Str)).length : Int)) (r := .bool (decide ((i177 : Int) < (([b46, b95, b131, r149, r152, r155] : List (List Str)).length : Int)))) rfl rfl b_lss) ?_
            refine G.nil ?_
            refine G.norm (L' := [(1, .val (.pointer (some ⟨g3, 0, none⟩))), (2, .val (.pointer (some ⟨g4, 0, none⟩))), (3, .val (.pointer (some ⟨g7, 0, none⟩))), (83, .val v175), (84, .val (.int .i64 (([b46, b95, b131, r149, r152, r155] : List (List Str)).length : Int))), (85, .val (.int .i64 (i177 : Int))), (86, .val (.bool (decide ((i177 : Int) < (([b46, b95, b131, r149, r152, r155] : List (List Str)).length : Int)))))]) (is := [1, 2, 3, 83, 84, 85, 86]) (R' := [.cells g3 29 (lf_T_Program b0), .cells g4 36 [.val (.int .i64 0), .val (.int .i64 0)], .cells g7 36 [.val (.int .i64 11), .val (.int .i64 0)], .row v175 30 1 (([b46, b95, b131, r149, r152, r155] : List (List Str)).map (eL eS 1))]) (js := [0, 0, 0, 0]) rfl rfl ?_
            refine G.next_ hK185 ?_
            refine G.seq fun K186 hK187 => ?_
            refine G.no rfl (rng_end hd180) ?_
            refine G.exit ?_
            refine G.thn_exit ?_
            refine G.thn_exit ?_
            refine G.inB_eq ?_
            refine G.norm (L' := [(1, .val (.pointer (some ⟨g3, 0, none⟩))), (2, .val (.pointer (some ⟨g4, 0, none⟩))), (3, .val (.pointer (some ⟨g7, 0, none⟩)))]) (is := [1, 2, 3]) (R' := [.cells g3 29 (lf_T_Program b0), .cells g4 36 [.val (.int .i64 0), .val (.int .i64 0)], .cells g7 36 [.val (.int .i64 11), .val (.int .i64 0)]]) (js := [0, 0, 0]) rfl rfl ?_
            exact G.finE fun hb a w hA => by subst hb; exact ⟨_, rfl, hA⟩
           ·rw [roadref2_ScopeOf.l4_cons] at hl183
            refine G.use hl183 hA ?_
            refine G.seq fun K188 hK189 => ?_
            refine G.region ?_
            refine G.p rfl (V.bin (u := .int .i64 (i177 : Int)) (v := .int .i64 (([b46, b95, b131, r149, r152, r155] : List (List Str)).length : Int)) (r := .bool (decide ((i177 : Int) < (([b46, b95, b131, r149, r152, r155] : List (List Str)).length : Int)))) rfl rfl b_lss) ?_
            refine G.nil ?_
            refine G.norm (L' := [(1, .val (.pointer (some ⟨g3, 0, none⟩))), (2, .val (.pointer (some ⟨g4, 0, none⟩))), (3, .val (.pointer (some ⟨g7, 0, none⟩))), (83, .val v175), (84, .val (.int .i64 (([b46, b95, b131, r149, r152, r155] : List (List Str)).length : Int))), (85, .val (.int .i64 (i177 : Int))), (86, .val (.bool (decide ((i177 : Int) < (([b46, b95, b131, r149, r152, r155] : List (List Str)).length : Int)))))]) (is := [1, 2, 3, 83, 84, 85, 86]) (R' := [.cells g3 29 (lf_T_Program b0), .cells g4 36 [.val (.int .i64 0), .val (.int .i64 0)], .cells g7 36 [.val (.int .i64 11), .val (.int .i64 0)], .row v175 30 1 (([b46, b95, b131, r149, r152, r155] : List (List Str)).map (eL eS 1))]) (js := [0, 0, 0, 0]) rfl rfl ?_
            refine G.next_ hK189 ?_
            refine G.seq fun K190 hK191 => ?_
            refine G.yes rfl (rng_more hd180) ?_
            refine G.skip ?_
            refine G.next_ hK191 ?_
            refine G.seq fun K192 hK193 => ?_
            refine G.block ?_
            refine G.seq fun K194 hK195 => ?_
            refine G.region ?_
            refine G.q rfl (V.atT_row (k := i177) (i := 3) (enc := (eL eS 1)) (xs := ([b46, b95, b131, r149, r152, r155] : List (List Str))) rfl rfl rfl Try.runUnderlying74 Try.sizeOf30 (rng_at hd180)) ?_
            refine G.q rfl (V.rowT1 (i := 3) (enc := (eL eS 1)) (xs := ([b46, b95, b131, r149, r152, r155] : List (List Str))) (y := y178) (j := 0) (d' := eL eS 1 y178) i177 rfl rfl (rng_at hd180) rfl rfl rfl Try.isAgg30) ?_
            refine G.p rfl (V.assign rfl) ?_
            refine G.nil ?_
            refine G.norm (L' := [(1, .val (.pointer (some ⟨g3, 0, none⟩))), (2, .val (.pointer (some ⟨g4, 0, none⟩))), (3, .val (.pointer (some ⟨g7, 0, none⟩))), (14, eL eS 1 y178), (83, .val v175), (84, .val (.int .i64 (([b46, b95, b131, r149, r152, r155] : List (List Str)).length : Int))), (85, .val (.int .i64 (i177 : Int)))]) (is := [1, 2, 3, 14, 83, 84, 85]) (R' := [.cells g3 29 (lf_T_Program b0), .cells g4 36 [.val (.int .i64 0), .val (.int .i64 0)], .cells g7 36 [.val (.int .i64 11), .val (.int .i64 0)], .row v175 30 1 (([b46, b95, b131, r149, r152, r155] : List (List Str)).map (eL eS 1))]) (js := [0, 0, 0, 0]) rfl rfl ?_
            refine G.next_ hK195 ?_
            refine G.seq fun K196 hK197 => ?_
            refine G.region ?_
            refine G.p rfl (V.move rfl) ?_
            refine G.bind fun r198 hr199 => ?_
            refine G.op rfl (O.call (xs := [.tmp 89]) (is := []) (Rp := []) (Rr := [.cells g3 29 (lf_T_Program b0), .cells g4 36 [.val (.int .i64 0), .val (.int .i64 0)], .cells g7 36 [.val (.int .i64 11), .val (.int .i64 0)], .row v175 30 1 (([b46, b95, b131, r149, r152, r155] : List (List Str)).map (eL eS 1))]) (roadref2_doubled_ok hr199) (.cons (.of rfl) .nil) Try.call22 rfl) fun x200 => ?_
            refine G.nil ?_
            refine G.norm (L' := [(1, .val (.pointer (some ⟨g3, 0, none⟩))), (2, .val (.pointer (some ⟨g4, 0, none⟩))), (3, .val (.pointer (some ⟨g7, 0, none⟩))), (83, .val v175), (84, .val (.int .i64 (([b46, b95, b131, r149, r152, r155] : List (List Str)).length : Int))), (85, .val (.int .i64 (i177 : Int))), (90, .val (.bool r198))]) (is := [1, 2, 3, 83, 84, 85, 90]) (R' := [.cells g3 29 (lf_T_Program b0), .cells g4 36 [.val (.int .i64 0), .val (.int .i64 0)], .cells g7 36 [.val (.int .i64 11), .val (.int .i64 0)], .row v175 30 1 (([b46, b95, b131, r149, r152, r155] : List (List Str)).map (eL eS 1))]) (js := [0, 0, 0, 0]) rfl rfl ?_
            refine G.next_ hK197 ?_
            refine G.cond (b := r198) rfl (fun hc201 => ?_) (fun hc201 => ?_)
            ·refine G.norm (L' := [(2, .val (.pointer (some ⟨g4, 0, none⟩))), (3, .val (.pointer (some ⟨g7, 0, none⟩)))]) (is := [2, 3]) (R' := [.cells g4 36 [.val (.int .i64 0), .val (.int .i64 0)], .cells g7 36 [.val (.int .i64 11), .val (.int .i64 0)]]) (js := [1, 1]) rfl rfl ?_
             refine G.seq fun K202 hK203 => ?_
             refine G.region ?_
             refine G.q rfl (V.load_cellN (i := 1) (ds := [.val (.int .i64 11), .val (.int .i64 0)]) (c1 := [.val (.int .i64 11), .val (.int .i64 0)]) rfl rfl Try.isAgg36 Try.sizeOf36 rfl rfl rfl) ?_
             refine G.opn (O.store (i := 0) (o := 0) (ds := [.val (.int .i64 0), .val (.int .i64 0)]) rfl (.of rfl) rfl (OneC.agg (List.forall_mem_cons.2 ⟨(.val rfl), (List.forall_mem_cons.2 ⟨(.val rfl), (List.forall_mem_nil _)⟩)⟩)) Try.sizeOf36 rfl rfl) fun _ => ?_
             refine G.nil ?_
             refine G.norm (L' := [(2, .val (.pointer (some ⟨g4, 0, none⟩)))]) (is := [2]) (R' := [.cells g4 36 [.val (.int .i64 11), .val (.int .i64 0)]]) (js := [0]) rfl rfl ?_
             refine G.next_ hK203 ?_
             refine G.ret ?_
             refine G.inB_ret ?_
             refine G.thn_ret ?_
             refine G.thn_ret ?_
             refine G.inB_ret ?_
             refine G.thn_ret ?_
             refine G.thn_ret ?_
             refine G.fin_ fun hF204 => ?_
             have hb205 := Option.some.inj hF204
             subst hb205
             have hF206 : (some (T_Wrong.mk 11 0) : Option (T_Wrong)) = some _ := hF182
             obtain rfl := Option.some.inj hF206
             exact G.retc (i := 0) (ds := [.val (.int .i64 11), .val (.int .i64 0)]) Try.results6 () (is := []) rfl rfl Try.isAgg36 Try.sizeOf36 rfl rfl rfl
            ·refine G.norm (L' := [(1, .val (.pointer (some ⟨g3, 0, none⟩))), (2, .val (.pointer (some ⟨g4, 0, none⟩))), (3, .val (.pointer (some ⟨g7, 0, none⟩))), (83, .val v175), (84, .val (.int .i64 (([b46, b95, b131, r149, r152, r155] : List (List Str)).length : Int))), (85, .val (.int .i64 (i177 : Int)))]) (is := [1, 2, 3, 83, 84, 85]) (R' := [.cells g3 29 (lf_T_Program b0), .cells g4 36 [.val (.int .i64 0), .val (.int .i64 0)], .cells g7 36 [.val (.int .i64 11), .val (.int .i64 0)], .row v175 30 1 (([b46, b95, b131, r149, r152, r155] : List (List Str)).map (eL eS 1))]) (js := [0, 0, 0, 0]) rfl rfl ?_
             refine G.skip ?_
             refine G.inB ?_
             refine G.next_ hK193 ?_
             refine G.region ?_
             refine G.p rfl (V.incr (i := i177) (N := ([b46, b95, b131, r149, r152, r155] : List (List Str)).length) rfl rfl (rng_lt hd180) (hN176)) ?_
             refine G.p rfl (V.move rfl) ?_
             refine G.nil ?_
             refine G.norm (L' := [(1, .val (.pointer (some ⟨g3, 0, none⟩))), (2, .val (.pointer (some ⟨g4, 0, none⟩))), (3, .val (.pointer (some ⟨g7, 0, none⟩))), (83, .val v175), (84, .val (.int .i64 (([b46, b95, b131, r149, r152, r155] : List (List Str)).length : Int))), (85, .val (.int .i64 ((i177 + 1 : Nat) : Int)))]) (is := [1, 2, 3, 83, 84, 85]) (R' := [.cells g3 29 (lf_T_Program b0), .cells g4 36 [.val (.int .i64 0), .val (.int .i64 0)], .cells g7 36 [.val (.int .i64 11), .val (.int .i64 0)], .row v175 30 1 (([b46, b95, b131, r149, r152, r155] : List (List Str)).map (eL eS 1))]) (js := [0, 0, 0, 0]) rfl rfl ?_
             refine G.again ?_
             intro hl207 a w hA
             exact ⟨_, Nat.lt_succ_self _, rest179, i177 + 1, rfl, hl207, rng_next hd180, hA⟩
         ·rintro _ hb a w ⟨b209, rfl, hA⟩ hF210
          refine G.use hF210 hA ?_
          refine G.inr ?_
          refine G.next_ hK135 ?_
          refine G.seq fun K211 hK212 => ?_
          refine G.seq fun K213 hK214 => ?_
          refine G.region ?_
          refine G.p rfl (V.fieldAddr (o' := 4) rfl Try.runUnderlying29 rfl Try.sizeOf24 rfl) ?_
          refine G.q rfl (V.load_cell (i := 0) (ds := (lf_T_Program b0)) (d := eL e_T_Trait 2 b0.fTraits) rfl rfl Try.isAgg24 rfl rfl) ?_
          refine G.lenb (enc := e_T_Trait) (xs := b0.fTraits) (sz := 2) (x := .tmp 94) (.of rfl) fun hN215 => ?_
          refine G.p rfl (V.len_sl (enc := e_T_Trait) (xs := b0.fTraits) (sz := 2) (.of rfl) Try.runUnderlying24) ?_
          refine G.p rfl (V.move rfl) ?_
          refine G.nil ?_
          refine G.norm (L' := [(1, .val (.pointer (some ⟨g3, 0, none⟩))), (2, .val (.pointer (some ⟨g4, 0, none⟩))), (3, .val (.pointer (some ⟨g7, 0, none⟩))), (94, eL e_T_Trait 2 b0.fTraits), (95, .val (.int .i64 (b0.fTraits.length : Int))), (96, .val (.int .i64 0))]) (is := [1, 2, 3, 94, 95, 96]) (R' := [.cells g3 29 (lf_T_Program b0), .cells g4 36 [.val (.int .i64 0), .val (.int .i64 0)], .cells g7 36 [.val (.int .i64 11), .val (.int .i64 0)]]) (js := [0, 0, 0]) rfl rfl ?_
          refine G.next_ hK214 ?_
          refine G.join (E := fun o a w => ∃ b, o = .inr b ∧ Ass Gl B 168 [(1, .val (.pointer (some ⟨g3, 0, none⟩))), (2, .val (.pointer (some ⟨g4, 0, none⟩))), (3, .val (.pointer (some ⟨g7, 0, none⟩)))] [.cells g3 29 (lf_T_Program b0), .cells g4 36 [.val (.int .i64 0), .val (.int .i64 0)], .cells g7 36 [.val (.int .i64 11), .val (.int .i64 0)]] a w) ?_ ?_
          ·intro b hF221
           refine G.block ?_
           refine G.norm (L' := [(1, .val (.pointer (some ⟨g3, 0, none⟩))), (2, .val (.pointer (some ⟨g4, 0, none⟩))), (3, .val (.pointer (some ⟨g7, 0, none⟩))), (94, eL e_T_Trait 2 b0.fTraits), (95, .val (.int .i64 (b0.fTraits.length : Int))), (96, .val (.int .i64 ((0 : Nat) : Int)))]) (is := [1, 2, 3, 94, 95, 96]) (R' := [.cells g3 29 (lf_T_Program b0), .cells g4 36 [.val (.int .i64 0), .val (.int .i64 0)], .cells g7 36 [.val (.int .i64 11), .val (.int .i64 0)]]) (js := [0, 0, 0]) rfl rfl ?_
           refine G.loop (fun kq a w => ∃ (rest218 : List (T_Trait)) (i216 : Nat), kq = rest218.length ∧ roadref2_ScopeOf.l5 rest218 = some b ∧ b0.fTraits.drop i216 = rest218 ∧ Ass Gl B 168 [(1, .val (.pointer (some ⟨g3, 0, none⟩))), (2, .val (.pointer (some ⟨g4, 0, none⟩))), (3, .val (.pointer (some ⟨g7, 0, none⟩))), (94, eL e_T_Trait 2 b0.fTraits), (95, .val (.int .i64 (b0.fTraits.length : Int))), (96, .val (.int .i64 (i216 : Int)))] [.cells g3 29 (lf_T_Program b0), .cells g4 36 [.val (.int .i64 0), .val (.int .i64 0)], .cells g7 36 [.val (.int .i64 11), .val (.int .i64 0)]] a w) (b0.fTraits.length) ?_ ?_
           ·intro hl283 a w hA
            exact ⟨b0.fTraits, 0, rfl, hl283, rfl, hA⟩
           ·rintro _ a w ⟨rest218, i216, rfl, hl222, hd219, hA⟩
            rcases rest218 with _ | ⟨y217, rest218⟩
            ·rw [roadref2_ScopeOf.l5_nil] at hl222
             refine G.use hl222 hA ?_
             refine G.seq fun K223 hK224 => ?_
             refine G.region ?_
             refine G.p rfl (V.bin (u := .int .i64 (i216 : Int)) (v := .int .i64 (b0.fTraits.length : Int)) (r := .bool (decide ((i216 : Int) < (b0.fTraits.length : Int)))) rfl rfl b_lss) ?_
             refine G.nil ?_
             refine G.norm (L' := [(1, .val (.pointer (some ⟨g3, 0, none⟩))), (2, .val (.pointer (some ⟨g4, 0, none⟩))), (3, .val (.pointer (some ⟨g7, 0, none⟩))), (94, eL e_T_Trait 2 b0.fTraits), (95, .val (.int .i64 (b0.fTraits.length : Int))), (96, .val (.int .i64 (i216 : Int))), (97, .val (.bool (decide ((i216 : Int) < (b0.fTraits.length : Int)))))]) (is := [1, 2, 3, 94, 95, 96, 97]) (R' := [.cells g3 29 (lf_T_Program b0), .cells g4 36 [.val (.int .i64 0), .val (.int .i64 0)], .cells g7 36 [.val (.int .i64 11), .val (.int .i64 0)]]) (js := [0, 0, 0]) rfl rfl ?_
             refine G.next_ hK224 ?_
             refine G.seq fun K225 hK226 => ?_
             refine G.no rfl (rng_end hd219) ?_
             refine G.exit ?_
             refine G.thn_exit ?_
             refine G.thn_exit ?_
             refine G.inB_eq ?_
             refine G.norm (L' := [(1, .val (.pointer (some ⟨g3, 0, none⟩))), (2, .val (.pointer (some ⟨g4, 0, none⟩))), (3, .val (.pointer (some ⟨g7, 0, none⟩)))]) (is := [1, 2, 3]) (R' := [.cells g3 29 (lf_T_Program b0), .cells g4 36 [.val (.int .i64 0), .val (.int .i64 0)], .cells g7 36 [.val (.int .i64 11), .val (.int .i64 0)]]) (js := [0, 0, 0]) rfl rfl ?_
             exact G.finE fun hb a w hA => by subst hb; exact ⟨_, rfl, hA⟩
            ·rw [roadref2_ScopeOf.l5_cons] at hl222
             refine G.use hl222 hA ?_
             refine G.seq fun K227 hK228 => ?_
             refine G.region ?_
             refine G.p rfl (V.bin (u := .int .i64 (i216 : Int)) (v := .int .i64 (b0.fTraits.length : Int)) (r := .bool (decide ((i216 : Int) < (b0.fTraits.length : Int)))) rfl rfl b_lss) ?_
             refine G.nil ?_
             refine G.norm (L' := [(1, .val (.pointer (some ⟨g3, 0, none⟩))), (2, .val (.pointer (some ⟨g4, 0, none⟩))), (3, .val (.pointer (some ⟨g7, 0, none⟩))), (94, eL e_T_Trait 2 b0.fTraits), (95, .val (.int .i64 (b0.fTraits.length : Int))), (96, .val (.int .i64 (i216 : Int))), (97, .val (.bool (decide ((i216 : Int) < (b0.fTraits.length : Int)))))]) (is := [1, 2, 3, 94, 95, 96, 97]) (R' := [.cells g3 29 (lf_T_Program b0), .cells g4 36 [.val (.int .i64 0), .val (.int .i64 0)], .cells g7 36 [.val (.int .i64 11), .val (.int .i64 0)]]) (js := [0, 0, 0]) rfl rfl ?_
             refine G.next_ hK228 ?_
             refine G.seq fun K229 hK230 => ?_
             refine G.yes rfl (rng_more hd219) ?_
             refine G.skip ?_
             refine G.next_ hK230 ?_
             refine G.seq fun K231 hK232 => ?_
             refine G.block ?_
             refine G.seq fun K233 hK234 => ?_
             refine G.region ?_
             refine G.p rfl (V.at_sl (k := i216) rfl rfl Try.runUnderlying24 Try.sizeOf55 (map_at (rng_at hd219))) ?_
             refine G.q rfl (V.load_ptrN (ds := [.val (bs y217.fName), eL e_T_Func 15 y217.fFuncs]) rfl (e_T_Trait_eq y217) Try.isAgg55 Try.sizeOf55 rfl) ?_
             refine G.op rfl (O.alloc (ds := [.val (bs ([] : Str)), .val (.slice none 0 0)]) Try.zeroValue55 rfl) fun g235 => ?_
             refine G.opn (O.store (i := 0) (o := 0) (ds := [.val (bs ([] : Str)), .val (.slice none 0 0)]) rfl (.of rfl) rfl (OneC.agg (List.forall_mem_cons.2 ⟨(.val rfl), (List.forall_mem_cons.2 ⟨.sl, (List.forall_mem_nil _)⟩)⟩)) Try.sizeOf55 rfl rfl) fun _ => ?_
             refine G.nil ?_
             refine G.norm (L' := [(1, .val (.pointer (some ⟨g3, 0, none⟩))), (2, .val (.pointer (some ⟨g4, 0, none⟩))), (3, .val (.pointer (some ⟨g7, 0, none⟩))), (16, .val (.pointer (some ⟨g235, 0, none⟩))), (94, eL e_T_Trait 2 b0.fTraits), (95, .val (.int .i64 (b0.fTraits.length : Int))), (96, .val (.int .i64 (i216 : Int)))]) (is := [1, 2, 3, 16, 94, 95, 96]) (R' := [.cells g235 55 [.val (bs y217.fName), eL e_T_Func 15 y217.fFuncs], .cells g3 29 (lf_T_Program b0), .cells g4 36 [.val (.int .i64 0), .val (.int .i64 0)], .cells g7 36 [.val (.int .i64 11), .val (.int .i64 0)]]) (js := [0, 0, 0, 0]) rfl rfl ?_
             refine G.next_ hK234 ?_
             refine G.seq fun K236 hK237 => ?_
             refine G.region ?_
             refine G.p rfl (V.fieldAddr (o' := 1) rfl Try.runUnderlying55 rfl Try.sizeOf26 rfl) ?_
             refine G.q rfl (V.load_cell (i := 0) (ds := [.val (bs y217.fName), eL e_T_Func 15 y217.fFuncs]) (d := eL e_T_Func 15 y217.fFuncs) rfl rfl Try.isAgg26 rfl rfl) ?_
             refine G.lenb (enc := e_T_Func) (xs := y217.fFuncs) (sz := 15) (x := .tmp 101) (.of rfl) fun hN238 => ?_
             refine G.p rfl (V.len_sl (enc := e_T_Func) (xs := y217.fFuncs) (sz := 15) (.of rfl) Try.runUnderlying26) ?_
             refine G.p rfl (V.move rfl) ?_
             refine G.nil ?_
             refine G.norm (L' := [(1, .val (.pointer (some ⟨g3, 0, none⟩))), (2, .val (.pointer (some ⟨g4, 0, none⟩))), (3, .val (.pointer (some ⟨g7, 0, none⟩))), (94, eL e_T_Trait 2 b0.fTraits), (95, .val (.int .i64 (b0.fTraits.length : Int))), (96, .val (.int .i64 (i216 : Int))), (101, eL e_T_Func 15 y217.fFuncs), (102, .val (.int .i64 (y217.fFuncs.length : Int))), (103, .val (.int .i64 0))]) (is := [1, 2, 3, 94, 95, 96, 101, 102, 103]) (R' := [.cells g3 29 (lf_T_Program b0), .cells g4 36 [.val (.int .i64 0), .val (.int .i64 0)], .cells g7 36 [.val (.int .i64 11), .val (.int .i64 0)]]) (js := [1, 1, 1]) rfl rfl ?_
             refine G.next_ hK237 ?_
             refine G.join (E := fun o a w => ∃ b, o = .inr b ∧ Ass Gl B 168 [(1, .val (.pointer (some ⟨g3, 0, none⟩))), (2, .val (.pointer (some ⟨g4, 0, none⟩))), (3, .val (.pointer (some ⟨g7, 0, none⟩))), (94, eL e_T_Trait 2 b0.fTraits), (95, .val (.int .i64 (b0.fTraits.length : Int))), (96, .val (.int .i64 (i216 : Int)))] [.cells g3 29 (lf_T_Program b0), .cells g4 36 [.val (.int .i64 0), .val (.int .i64 0)], .cells g7 36 [.val (.int .i64 11), .val (.int .i64 0)]] a w) ?_ ?_
             ·intro b hF244
              refine G.block ?_
              refine G.norm (L' := [(1, .val (.pointer (some ⟨g3, 0, none⟩))), (2, .val (.pointer (some ⟨g4, 0, none⟩))), (3, .val (.pointer (some ⟨g7, 0, none⟩))), (94, eL e_T_Trait 2 b0.fTraits), (95, .val (.int .i64 (b0.fTraits.length : Int))), (96, .val (.int .i64 (i216 : Int))), (101, eL e_T_Func 15 y217.fFuncs), (102, .val (.int .i64 (y217.fFuncs.length : Int))), (103, .val (.int .i64 ((0 : Nat) : Int)))]) (is := [1, 2, 3, 94, 95, 96, 101, 102, 103]) (R' := [.cells g3 29 (lf_T_Program b0), .cells g4 36 [.val (.int .i64 0), .val (.int .i64 0)], .cells g7 36 [.val (.int .i64 11), .val (.int .i64 0)]]) (js := [0, 0, 0]) rfl rfl ?_
              refine G.loop (fun kq a w => ∃ (rest241 : List (T_Func)) (i239 : Nat), kq = rest241.length ∧ roadref2_ScopeOf.l6 rest241 = some b ∧ y217.fFuncs.drop i239 = rest241 ∧ Ass Gl B 168 [(1, .val (.pointer (some ⟨g3, 0, none⟩))), (2, .val (.pointer (some ⟨g4, 0, none⟩))), (3, .val (.pointer (some ⟨g7, 0, none⟩))), (94, eL e_T_Trait 2 b0.fTraits), (95, .val (.int .i64 (b0.fTraits.length : Int))), (96, .val (.int .i64 (i216 : Int))), (101, eL e_T_Func 15 y217.fFuncs), (102, .val (.int .i64 (y217.fFuncs.length : Int))), (103, .val (.int .i64 (i239 : Int)))] [.cells g3 29 (lf_T_Program b0), .cells g4 36 [.val (.int .i64 0), .val (.int .i64 0)], .cells g7 36 [.val (.int .i64 11), .val (.int .i64 0)]] a w) (y217.fFuncs.length) ?_ ?_
              ·intro hl279 a w hA
               exact ⟨y217.fFuncs, 0, rfl, hl279, rfl, hA⟩
              ·rintro _ a w ⟨rest241, i239, rfl, hl245, hd242, hA⟩
               rcases rest241 with _ | ⟨y240, rest241⟩
               ·rw [roadref2_ScopeOf.l6_nil] at hl245
                refine G.use hl245 hA ?_
                refine G.seq fun K246 hK247 => ?_
                refine G.region ?_
                refine G.p rfl (V.bin (u := .int .i64 (i239 : Int)) (v := .int .i64 (y217.fFuncs.length : Int)) (r := .bool (decide ((i239 : Int) < (y217.fFuncs.length : Int)))) rfl rfl b_lss) ?_
                refine G.nil ?_
                refine G.norm (L' := [(1, .val (.pointer (some ⟨g3, 0, none⟩))), (2, .val (.pointer (some ⟨g4, 0, none⟩))), (3, .val (.pointer (some ⟨g7, 0, none⟩))), (94, eL e_T_Trait 2 b0.fTraits), (95, .val (.int .i64 (b0.fTraits.length : Int))), (96, .val (.int .i64 (i216 : Int))), (101, eL e_T_Func 15 y217.fFuncs), (102, .val (.int .i64 (y217.fFuncs.length : Int))), (103, .val (.int .i64 (i239 : Int))), (104, .val (.bool (decide ((i239 : Int) < (y217.fFuncs.length : Int)))))]) (is := [1, 2, 3, 94, 95, 96, 101, 102, 103, 104]) (R' := [.cells g3 29 (lf_T_Program b0), .cells g4 36 [.val (.int .i64 0), .val (.int .i64 0)], .cells g7 36 [.val (.int .i64 11), .val (.int .i64 0)]]) (js := [0, 0, 0]) rfl rfl ?_
                refine G.next_ hK247 ?_
                refine G.seq fun K248 hK249 => ?_
                refine G.no rfl (rng_end hd242) ?_
                refine G.exit ?_
                refine G.thn_exit ?_
                refine G.thn_exit ?_
                refine G.inB_eq ?_
                refine G.norm (L' := [(1, .val (.pointer (some ⟨g3, 0, none⟩))), (2, .val (.pointer (some ⟨g4, 0, none⟩))), (3, .val (.pointer (some ⟨g7, 0, none⟩))), (94, eL e_T_Trait 2 b0.fTraits), (95, .val (.int .i64 (b0.fTraits.length : Int))), (96, .val (.int .i64 (i216 : Int)))]) (is := [1, 2, 3, 94, 95, 96]) (R' := [.cells g3 29 (lf_T_Program b0), .cells g4 36 [.val (.int .i64 0), .val (.int .i64 0)], .cells g7 36 [.val (.int .i64 11), .val (.int .i64 0)]]) (js := [0, 0, 0]) rfl rfl ?_
                exact G.finE fun hb a w hA => by subst hb; exact ⟨_, rfl, hA⟩
               ·rw [roadref2_ScopeOf.l6_cons] at hl245
                refine G.use hl245 hA ?_
                refine G.seq fun K250 hK251 => ?_
                refine G.region ?_
                refine G.p rfl (V.bin (u := .int .i64 (i239 : Int)) (v := .int .i64 (y217.fFuncs.length : Int)) (r := .bool (decide ((i239 : Int) < (y217.fFuncs.length : Int)))) rfl rfl b_lss) ?_
                refine G.nil ?_
                refine G.norm (L' := [(1, .val (.pointer (some ⟨g3, 0, none⟩))), (2, .val (.pointer (some ⟨g4, 0, none⟩))), (3, .val (.pointer (some ⟨g7, 0, none⟩))), (94, eL e_T_Trait 2 b0.fTraits), (95, .val (.int .i64 (b0.fTraits.length : Int))), (96, .val (.int .i64 (i216 : Int))), (101, eL e_T_Func 15 y217.fFuncs), (102, .val (.int .i64 (y217.fFuncs.length : Int))), (103, .val (.int .i64 (i239 : Int))), (104, .val (.bool (decide ((i239 : Int) < (y217.fFuncs.length : Int)))))]) (is := [1, 2, 3, 94, 95, 96, 101, 102, 103, 104]) (R' := [.cells g3 29 (lf_T_Program b0), .cells g4 36 [.val (.int .i64 0), .val (.int .i64 0)], .cells g7 36 [.val (.int .i64 11), .val (.int .i64 0)]]) (js := [0, 0, 0]) rfl rfl ?_
                refine G.next_ hK251 ?_
                refine G.seq fun K252 hK253 => ?_
                refine G.yes rfl (rng_more hd242) ?_
                refine G.skip ?_
                refine G.next_ hK253 ?_
                refine G.seq fun K254 hK255 => ?_
                refine G.block ?_
                refine G.seq fun K256 hK257 => ?_
                refine G.region ?_
                refine G.p rfl (V.at_sl (k := i239) rfl rfl Try.runUnderlying26 Try.sizeOf59 (map_at (rng_at hd242))) ?_
                refine G.q rfl (V.load_ptrN (ds := (lf_T_Func y240)) rfl (e_T_Func_eq y240) Try.isAgg59 Try.sizeOf59 rfl) ?_
                refine G.op rfl (O.alloc (ds := [.val (bs ([] : Str)), .val (.slice none 0 0), .val (.slice none 0 0), .val (.slice none 0 0), .val (.int .i64 0), .val (bs ([] : Str)), .val (.slice none 0 0), .val (.int .i64 0), .val (.int .i64 0), .val (bs ([] : Str)), .val (.slice none 0 0), .val (.slice none 0 0), .val (.slice none 0 0), .val (.slice none 0 0), .val (.int .i64 0)]) Try.zeroValue59 rfl) fun g258 => ?_
                refine G.opn (O.store (i := 0) (o := 0) (ds := [.val (bs ([] : Str)), .val (.slice none 0 0), .val (.slice none 0 0), .val (.slice none 0 0), .val (.int .i64 0), .val (bs ([] : Str)), .val (.slice none 0 0), .val (.int .i64 0), .val (.int .i64 0), .val (bs ([] : Str)), .val (.slice none 0 0), .val (.slice none 0 0), .val (.slice none 0 0), .val (.slice none 0 0), .val (.int .i64 0)]) rfl (.of rfl) rfl (OneC.agg (List.forall_mem_cons.2 ⟨(.val rfl), (List.forall_mem_cons.2 ⟨.sl, (List.forall_mem_cons.2 ⟨.sl, (List.forall_mem_cons.2 ⟨.sl, (List.forall_mem_cons.2 ⟨(.val rfl), (List.forall_mem_cons.2 ⟨(.val rfl), (List.forall_mem_cons.2 ⟨.sl, (List.forall_mem_cons.2 ⟨(.val rfl), (List.forall_mem_cons.2 ⟨(.val rfl), (List.forall_mem_cons.2 ⟨(.val rfl), (List.forall_mem_cons.2 ⟨.sl, (List.forall_mem_cons.2 ⟨.sl, (List.forall_mem_cons.2 ⟨.sl, (List.forall_mem_cons.2 ⟨.sl, (List.forall_mem_cons.2 ⟨(.val rfl), (List.forall_mem_nil _)⟩)⟩)⟩)⟩)⟩)⟩)⟩)⟩)⟩)⟩)⟩)⟩)⟩)⟩)⟩)) Try.sizeOf59 rfl rfl) fun _ => ?_
                refine G.nil ?_
                refine G.norm (L' := [(1, .val (.pointer (some ⟨g3, 0, none⟩))), (2, .val (.pointer (some ⟨g4, 0, none⟩))), (3, .val (.pointer (some ⟨g7, 0, none⟩))), (18, .val (.pointer (some ⟨g258, 0, none⟩))), (94, eL e_T_Trait 2 b0.fTraits), (95, .val (.int .i64 (b0.fTraits.length : Int))), (96, .val (.int .i64 (i216 : Int))), (101, eL e_T_Func 15 y217.fFuncs), (102, .val (.int .i64 (y217.fFuncs.length : Int))), (103, .val (.int .i64 (i239 : Int)))]) (is := [1, 2, 3, 18, 94, 95, 96, 101, 102, 103]) (R' := [.cells g258 59 (lf_T_Func y240), .cells g3 29 (lf_T_Program b0), .cells g4 36 [.val (.int .i64 0), .val (.int .i64 0)], .cells g7 36 [.val (.int .i64 11), .val (.int .i64 0)]]) (js := [0, 0, 0, 0]) rfl rfl ?_
                refine G.next_ hK257 ?_
                refine G.seq fun K259 hK260 => ?_
                refine G.region ?_
                refine G.p rfl (V.fieldAddr (o' := 1) rfl Try.runUnderlying59 rfl Try.sizeOf30 rfl) ?_
                refine G.q rfl (V.load_cell (i := 0) (ds := (lf_T_Func y240)) (d := eL eS 1 y240.fParams) rfl rfl Try.isAgg30 rfl rfl) ?_
                refine G.bind fun r261 hr262 => ?_
                refine G.op rfl (O.call (xs := [.tmp 108]) (is := []) (Rp := []) (Rr := [.cells g258 59 (lf_T_Func y240), .cells g3 29 (lf_T_Program b0), .cells g4 36 [.val (.int .i64 0), .val (.int .i64 0)], .cells g7 36 [.val (.int .i64 11), .val (.int .i64 0)]]) (roadref2_doubled_ok hr262) (.cons (.of rfl) .nil) Try.call22 rfl) fun x263 => ?_
                refine G.p rfl (V.move rfl) ?_
                refine G.part 4 (fun b a w => Ass Gl B 168 [(1, .val (.pointer (some ⟨g3, 0, none⟩))), (2, .val (.pointer (some ⟨g4, 0, none⟩))), (3, .val (.pointer (some ⟨g7, 0, none⟩))), (18, .val (.pointer (some ⟨g258, 0, none⟩))), (94, eL e_T_Trait 2 b0.fTraits), (95, .val (.int .i64 (b0.fTraits.length : Int))), (96, .val (.int .i64 (i216 : Int))), (101, eL e_T_Func 15 y217.fFuncs), (102, .val (.int .i64 (y217.fFuncs.length : Int))), (103, .val (.int .i64 (i239 : Int))), (107, .val (.pointer (some ⟨g258, 1, none⟩))), (108, eL eS 1 y240.fParams), (109, .val (.bool r261)), (110, .val (.bool r261)), (114, .val (.bool b))] [.cells g3 29 (lf_T_Program b0), .cells g258 59 (lf_T_Func y240), .cells g4 36 [.val (.int .i64 0), .val (.int .i64 0)], .cells g7 36 [.val (.int .i64 11), .val (.int .i64 0)]] a w) ?_ ?_
                ·intro b
                 refine G.ifb (fun hc264 => ?_) (fun hc264 => ?_)
                 ·refine G.skip_s rfl rfl hc264 rfl ?_
                  refine G.skip_s rfl rfl hc264 rfl ?_
                  refine G.skip_s rfl rfl hc264 rfl ?_
                  refine G.p rfl (V.pick_yes (dv := .val (.bool true)) rfl hc264 rfl) ?_
                  refine G.nil ?_
                  refine G.norm (L' := [(1, .val (.pointer (some ⟨g3, 0, none⟩))), (2, .val (.pointer (some ⟨g4, 0, none⟩))), (3, .val (.pointer (some ⟨g7, 0, none⟩))), (18, .val (.pointer (some ⟨g258, 0, none⟩))), (94, eL e_T_Trait 2 b0.fTraits), (95, .val (.int .i64 (b0.fTraits.length : Int))), (96, .val (.int .i64 (i216 : Int))), (101, eL e_T_Func 15 y217.fFuncs), (102, .val (.int .i64 (y217.fFuncs.length : Int))), (103, .val (.int .i64 (i239 : Int))), (107, .val (.pointer (some ⟨g258, 1, none⟩))), (108, eL eS 1 y240.fParams), (109, .val (.bool r261)), (110, .val (.bool r261)), (114, .val (.bool true))]) (is := [1, 2, 3, 18, 94, 95, 96, 101, 102, 103, 107, 108, 109, 110, 114]) (R' := [.cells g3 29 (lf_T_Program b0), .cells g258 59 (lf_T_Func y240), .cells g4 36 [.val (.int .i64 0), .val (.int .i64 0)], .cells g7 36 [.val (.int .i64 11), .val (.int .i64 0)]]) (js := [1, 0, 0, 0]) rfl rfl ?_
                  exact G.finE fun hb a w hA => by subst hb; exact hA
                 ·refine G.guard_yes rfl rfl hc264 ?_
                  refine G.p rfl (V.fieldAddr (o' := 2) rfl Try.runUnderlying59 rfl Try.sizeOf30 rfl) ?_
                  refine G.guard_yes rfl rfl hc264 ?_
                  refine G.q rfl (V.load_cell (i := 0) (ds := (lf_T_Func y240)) (d := eL eS 1 y240.fNames) rfl rfl Try.isAgg30 rfl rfl) ?_
                  refine G.guard_yes rfl rfl hc264 ?_
                  refine G.bind fun r267 hr268 => ?_
                  refine G.op rfl (O.call (xs := [.tmp 112]) (is := []) (Rp := []) (Rr := [.cells g258 59 (lf_T_Func y240), .cells g3 29 (lf_T_Program b0), .cells g4 36 [.val (.int .i64 0), .val (.int .i64 0)], .cells g7 36 [.val (.int .i64 11), .val (.int .i64 0)]]) (roadref2_doubled_ok hr268) (.cons (.of rfl) .nil) Try.call22 rfl) fun x269 => ?_
                  refine G.p rfl (V.pick_no (dv := .val (.bool r267)) rfl hc264 rfl) ?_
                  refine G.nil ?_
                  refine G.norm (L' := [(1, .val (.pointer (some ⟨g3, 0, none⟩))), (2, .val (.pointer (some ⟨g4, 0, none⟩))), (3, .val (.pointer (some ⟨g7, 0, none⟩))), (18, .val (.pointer (some ⟨g258, 0, none⟩))), (94, eL e_T_Trait 2 b0.fTraits), (95, .val (.int .i64 (b0.fTraits.length : Int))), (96, .val (.int .i64 (i216 : Int))), (101, eL e_T_Func 15 y217.fFuncs), (102, .val (.int .i64 (y217.fFuncs.length : Int))), (103, .val (.int .i64 (i239 : Int))), (107, .val (.pointer (some ⟨g258, 1, none⟩))), (108, eL eS 1 y240.fParams), (109, .val (.bool r261)), (110, .val (.bool r261)), (114, .val (.bool r267))]) (is := [1, 2, 3, 18, 94, 95, 96, 101, 102, 103, 107, 108, 109, 110, 114]) (R' := [.cells g3 29 (lf_T_Program b0), .cells g258 59 (lf_T_Func y240), .cells g4 36 [.val (.int .i64 0), .val (.int .i64 0)], .cells g7 36 [.val (.int .i64 11), .val (.int .i64 0)]]) (js := [1, 0, 0, 0]) rfl rfl ?_
                  exact G.finE fun hb a w hA => by subst hb; exact hA
                ·rintro t265 hb a w hA hF
                 refine G.use hF hA ?_
                 refine G.nil ?_
                 refine G.norm (L' := [(1, .val (.pointer (some ⟨g3, 0, none⟩))), (2, .val (.pointer (some ⟨g4, 0, none⟩))), (3, .val (.pointer (some ⟨g7, 0, none⟩))), (94, eL e_T_Trait 2 b0.fTraits), (95, .val (.int .i64 (b0.fTraits.length : Int))), (96, .val (.int .i64 (i216 : Int))), (101, eL e_T_Func 15 y217.fFuncs), (102, .val (.int .i64 (y217.fFuncs.length : Int))), (103, .val (.int .i64 (i239 : Int))), (114, .val (.bool t265))]) (is := [1, 2, 3, 94, 95, 96, 101, 102, 103, 114]) (R' := [.cells g3 29 (lf_T_Program b0), .cells g4 36 [.val (.int .i64 0), .val (.int .i64 0)], .cells g7 36 [.val (.int .i64 11), .val (.int .i64 0)]]) (js := [0, 1, 1]) rfl rfl ?_
                 refine G.next_ hK260 ?_
                 refine G.cond (b := t265) rfl (fun hc270 => ?_) (fun hc270 => ?_)
                 ·refine G.norm (L' := [(2, .val (.pointer (some ⟨g4, 0, none⟩))), (3, .val (.pointer (some ⟨g7, 0, none⟩)))]) (is := [2, 3]) (R' := [.cells g4 36 [.val (.int .i64 0), .val (.int .i64 0)], .cells g7 36 [.val (.int .i64 11), .val (.int .i64 0)]]) (js := [1, 1]) rfl rfl ?_
                  refine G.seq fun K271 hK272 => ?_
                  refine G.region ?_
                  refine G.q rfl (V.load_cellN (i := 1) (ds := [.val (.int .i64 11), .val (.int .i64 0)]) (c1 := [.val (.int .i64 11), .val (.int .i64 0)]) rfl rfl Try.isAgg36 Try.sizeOf36 rfl rfl rfl) ?_
                  refine G.opn (O.store (i := 0) (o := 0) (ds := [.val (.int .i64 0), .val (.int .i64 0)]) rfl (.of rfl) rfl (OneC.agg (List.forall_mem_cons.2 ⟨(.val rfl), (List.forall_mem_cons.2 ⟨(.val rfl), (List.forall_mem_nil _)⟩)⟩)) Try.sizeOf36 rfl rfl) fun _ => ?_
                  refine G.nil ?_
                  refine G.norm (L' := [(2, .val (.pointer (some ⟨g4, 0, none⟩)))]) (is := [2]) (R' := [.cells g4 36 [.val (.int .i64 11), .val (.int .i64 0)]]) (js := [0]) rfl rfl ?_
                  refine G.next_ hK272 ?_
                  refine G.ret ?_
                  refine G.inB_ret ?_
                  refine G.thn_ret ?_
                  refine G.thn_ret ?_
                  refine G.inB_ret ?_
                  refine G.thn_ret ?_
                  refine G.inB_ret ?_
                  refine G.thn_ret ?_
                  refine G.thn_ret ?_
                  refine G.inB_ret ?_
                  refine G.thn_ret ?_
                  refine G.thn_ret ?_
                  refine G.fin_ fun hF273 => ?_
                  have hb274 := Option.some.inj hF273
                  subst hb274
                  have hF275 : some (Sum.inl ((T_Wrong.mk 11 0) : T_Wrong)) = some _ := hF244
                  have hb276 := Option.some.inj hF275
                  subst hb276
                  have hF277 : (some (T_Wrong.mk 11 0) : Option (T_Wrong)) = some _ := hF221
                  obtain rfl := Option.some.inj hF277
                  exact G.retc (i := 0) (ds := [.val (.int .i64 11), .val (.int .i64 0)]) Try.results6 () (is := []) rfl rfl Try.isAgg36 Try.sizeOf36 rfl rfl rfl
                 ·refine G.norm (L' := [(1, .val (.pointer (some ⟨g3, 0, none⟩))), (2, .val (.pointer (some ⟨g4, 0, none⟩))), (3, .val (.pointer (some ⟨g7, 0, none⟩))), (94, eL e_T_Trait 2 b0.fTraits), (95, .val (.int .i64 (b0.fTraits.length : Int))), (96, .val (.int .i64 (i216 : Int))), (101, eL e_T_Func 15 y217.fFuncs), (102, .val (.int .i64 (y217.fFuncs.length : Int))), (103, .val (.int .i64 (i239 : Int)))]) (is := [1, 2, 3, 94, 95, 96, 101, 102, 103]) (R' := [.cells g3 29 (lf_T_Program b0), .cells g4 36 [.val (.int .i64 0), .val (.int .i64 0)], .cells g7 36 [.val (.int .i64 11), .val (.int .i64 0)]]) (js := [0, 0, 0]) rfl rfl ?_
                  refine G.skip ?_
                  refine G.inB ?_
                  refine G.next_ hK255 ?_
                  refine G.region ?_
                  refine G.p rfl (V.incr (i := i239) (N := y217.fFuncs.length) rfl rfl (rng_lt hd242) (hN238)) ?_
                  refine G.p rfl (V.move rfl) ?_
                  refine G.nil ?_
                  refine G.norm (L' := [(1, .val (.pointer (some ⟨g3, 0, none⟩))), (2, .val (.pointer (some ⟨g4, 0, none⟩))), (3, .val (.pointer (some ⟨g7, 0, none⟩))), (94, eL e_T_Trait 2 b0.fTraits), (95, .val (.int .i64 (b0.fTraits.length : Int))), (96, .val (.int .i64 (i216 : Int))), (101, eL e_T_Func 15 y217.fFuncs), (102, .val (.int .i64 (y217.fFuncs.length : Int))), (103, .val (.int .i64 ((i239 + 1 : Nat) : Int)))]) (is := [1, 2, 3, 94, 95, 96, 101, 102, 103]) (R' := [.cells g3 29 (lf_T_Program b0), .cells g4 36 [.val (.int .i64 0), .val (.int .i64 0)], .cells g7 36 [.val (.int .i64 11), .val (.int .i64 0)]]) (js := [0, 0, 0]) rfl rfl ?_
                  refine G.again ?_
                  intro hl278 a w hA
                  exact ⟨_, Nat.lt_succ_self _, rest241, i239 + 1, rfl, hl278, rng_next hd242, hA⟩
             ·rintro _ hb a w ⟨b280, rfl, hA⟩ hF281
              refine G.use hF281 hA ?_
              refine G.inr2 ?_
              refine G.inB ?_
              refine G.next_ hK232 ?_
              refine G.region ?_
              refine G.p rfl (V.incr (i := i216) (N := b0.fTraits.length) rfl rfl (rng_lt hd219) (hN215)) ?_
              refine G.p rfl (V.move rfl) ?_
              refine G.nil ?_
              refine G.norm (L' := [(1, .val (.pointer (some ⟨g3, 0, none⟩))), (2, .val (.pointer (some ⟨g4, 0, none⟩))), (3, .val (.pointer (some ⟨g7, 0, none⟩))), (94, eL e_T_Trait 2 b0.fTraits), (95, .val (.int .i64 (b0.fTraits.length : Int))), (96, .val (.int .i64 ((i216 + 1 : Nat) : Int)))]) (is := [1, 2, 3, 94, 95, 96]) (R' := [.cells g3 29 (lf_T_Program b0), .cells g4 36 [.val (.int .i64 0), .val (.int .i64 0)], .cells g7 36 [.val (.int .i64 11), .val (.int .i64 0)]]) (js := [0, 0, 0]) rfl rfl ?_
              refine G.again ?_
              intro hl282 a w hA
              exact ⟨_, Nat.lt_succ_self _, rest218, i216 + 1, rfl, hl282, rng_next hd219, hA⟩
          ·rintro _ hb a w ⟨b284, rfl, hA⟩ hF285
           refine G.use hF285 hA ?_
           refine G.inr ?_
           refine G.next_ hK212 ?_
           refine G.seq fun K286 hK287 => ?_
           refine G.seq fun K288 hK289 => ?_
           refine G.region ?_
           refine G.q rfl (V.load_cellN (i := 0) (ds := (lf_T_Program b0)) (c1 := (lf_T_Program b0)) rfl rfl Try.isAgg29 Try.sizeOf29 rfl rfl rfl) ?_
           refine G.bind fun r290 hr291 => ?_
           refine G.op rfl (O.call (xs := [.tmp 118]) (is := []) (Rp := []) (Rr := [.cells g3 29 (lf_T_Program b0), .cells g4 36 [.val (.int .i64 0), .val (.int .i64 0)], .cells g7 36 [.val (.int .i64 11), .val (.int .i64 0)]]) (roadref2_FunsOf_ok hr291) (.cons (.of rfl) .nil) Try.call26 rfl) fun x292 => ?_
           refine G.lenr (i := 0) (enc := e_T_Func) (xs := r290) rfl fun hN293 => ?_
           refine G.q rfl (V.len_row (j := 0) (enc := e_T_Func) (xs := r290) rfl rfl Try.runUnderlying26) ?_
           refine G.p rfl (V.move rfl) ?_
           refine G.nil ?_
           refine G.norm (L' := [(1, .val (.pointer (some ⟨g3, 0, none⟩))), (2, .val (.pointer (some ⟨g4, 0, none⟩))), (3, .val (.pointer (some ⟨g7, 0, none⟩))), (119, .val x292), (120, .val (.int .i64 (r290.length : Int))), (121, .val (.int .i64 0))]) (is := [1, 2, 3, 119, 120, 121]) (R' := [.row x292 59 15 (r290.map e_T_Func), .cells g3 29 (lf_T_Program b0), .cells g4 36 [.val (.int .i64 0), .val (.int .i64 0)], .cells g7 36 [.val (.int .i64 11), .val (.int .i64 0)]]) (js := [0, 0, 0, 0]) rfl rfl ?_
           refine G.next_ hK289 ?_
           refine G.join (E := fun o a w => ∃ b, o = .inr b ∧ Ass Gl B 168 [(1, .val (.pointer (some ⟨g3, 0, none⟩))), (2, .val (.pointer (some ⟨g4, 0, none⟩))), (3, .val (.pointer (some ⟨g7, 0, none⟩)))] [.cells g3 29 (lf_T_Program b0), .cells g4 36 [.val (.int .i64 0), .val (.int .i64 0)], .cells g7 36 [.val (.int .i64 11), .val (.int .i64 0)]] a w) ?_ ?_
           ·intro b hF299
            refine G.block ?_
            refine G.norm (L' := [(1, .val (.pointer (some ⟨g3, 0, none⟩))), (2, .val (.pointer (some ⟨g4, 0, none⟩))), (3, .val (.pointer (some ⟨g7, 0, none⟩))), (119, .val x292), (120, .val (.int .i64 (r290.length : Int))), (121, .val (.int .i64 ((0 : Nat) : Int)))]) (is := [1, 2, 3, 119, 120, 121]) (R' := [.cells g3 29 (lf_T_Program b0), .row x292 59 15 (r290.map e_T_Func), .cells g4 36 [.val (.int .i64 0), .val (.int .i64 0)], .cells g7 36 [.val (.int .i64 11), .val (.int .i64 0)]]) (js := [1, 0, 0, 0]) rfl rfl ?_
            refine G.loop (fun kq a w => ∃ (rest296 : List (T_Func)) (i294 : Nat), kq = rest296.length ∧ roadref2_ScopeOf.l7 b0 k rest296 = some b ∧ r290.drop i294 = rest296 ∧ Ass Gl B 168 [(1, .val (.pointer (some ⟨g3, 0, none⟩))), (2, .val (.pointer (some ⟨g4, 0, none⟩))), (3, .val (.pointer (some ⟨g7, 0, none⟩))), (119, .val x292), (120, .val (.int .i64 (r290.length : Int))), (121, .val (.int .i64 (i294 : Int)))] [.cells g3 29 (lf_T_Program b0), .row x292 59 15 (r290.map e_T_Func), .cells g4 36 [.val (.int .i64 0), .val (.int .i64 0)], .cells g7 36 [.val (.int .i64 11), .val (.int .i64 0)]] a w) (r290.length) ?_ ?_
            ·intro hl348 a w hA
             exact ⟨r290, 0, rfl, hl348, rfl, hA⟩
            ·rintro _ a w ⟨rest296, i294, rfl, hl300, hd297, hA⟩
             rcases rest296 with _ | ⟨y295, rest296⟩
             ·rw [roadref2_ScopeOf.l7_nil] at hl300
              refine G.use hl300 hA ?_
              refine G.seq fun K301 hK302 => ?_
              refine G.region ?_
              refine G.p rfl (V.bin (u := .int .i64 (i294 : Int)) (v := .int .i64 (r290.length : Int)) (r := .bool (decide ((i294 : Int) < (r290.length : Int)))) rfl rfl b_lss) ?_
              refine G.nil ?_
              refine G.norm (L' := [(1, .val (.pointer (some ⟨g3, 0, none⟩))), (2, .val (.pointer (some ⟨g4, 0, none⟩))), (3, .val (.pointer (some ⟨g7, 0, none⟩))), (119, .val x292), (120, .val (.int .i64 (r290.length : Int))), (121, .val (.int .i64 (i294 : Int))), (122, .val (.bool (decide ((i294 : Int) < (r290.length : Int)))))]) (is := [1, 2, 3, 119, 120, 121, 122]) (R' := [.cells g3 29 (lf_T_Program b0), .row x292 59 15 (r290.map e_T_Func), .cells g4 36 [.val (.int .i64 0), .val (.int .i64 0)], .cells g7 36 [.val (.int .i64 11), .val (.int .i64 0)]]) (js := [0, 0, 0, 0]) rfl rfl ?_
              refine G.next_ hK302 ?_
              refine G.seq fun K303 hK304 => ?_
              refine G.no rfl (rng_end hd297) ?_
              refine G.exit ?_
              refine G.thn_exit ?_
              refine G.thn_exit ?_
              refine G.inB_eq ?_
              refine G.norm (L' := [(1, .val (.pointer (some ⟨g3, 0, none⟩))), (2, .val (.pointer (some ⟨g4, 0, none⟩))), (3, .val (.pointer (some ⟨g7, 0, none⟩)))]) (is := [1, 2, 3]) (R' := [.cells g3 29 (lf_T_Program b0), .cells g4 36 [.val (.int .i64 0), .val (.int .i64 0)], .cells g7 36 [.val (.int .i64 11), .val (.int .i64 0)]]) (js := [0, 1, 1]) rfl rfl ?_
              exact G.finE fun hb a w hA => by subst hb; exact ⟨_, rfl, hA⟩
             ·rw [roadref2_ScopeOf.l7_cons] at hl300
              refine G.use hl300 hA ?_
              refine G.seq fun K305 hK306 => ?_
              refine G.region ?_
              refine G.p rfl (V.bin (u := .int .i64 (i294 : Int)) (v := .int .i64 (r290.length : Int)) (r := .bool (decide ((i294 : Int) < (r290.length : Int)))) rfl rfl b_lss) ?_
              refine G.nil ?_
              refine G.norm (L' := [(1, .val (.pointer (some ⟨g3, 0, none⟩))), (2, .val (.pointer (some ⟨g4, 0, none⟩))), (3, .val (.pointer (some ⟨g7, 0, none⟩))), (119, .val x292), (120, .val (.int .i64 (r290.length : Int))), (121, .val (.int .i64 (i294 : Int))), (122, .val (.bool (decide ((i294 : Int) < (r290.length : Int)))))]) (is := [1, 2, 3, 119, 120, 121, 122]) (R' := [.cells g3 29 (lf_T_Program b0), .row x292 59 15 (r290.map e_T_Func), .cells g4 36 [.val (.int .i64 0), .val (.int .i64 0)], .cells g7 36 [.val (.int .i64 11), .val (.int .i64 0)]]) (js := [0, 0, 0, 0]) rfl rfl ?_
              refine G.next_ hK306 ?_
              refine G.seq fun K307 hK308 => ?_
              refine G.yes rfl (rng_more hd297) ?_
              refine G.skip ?_
              refine G.next_ hK308 ?_
              refine G.seq fun K309 hK310 => ?_
              refine G.block ?_
              refine G.seq fun K311 hK312 => ?_
              refine G.region ?_
              refine G.q rfl (V.atT_row (k := i294) (i := 1) (enc := e_T_Func) (xs := r290) rfl rfl rfl Try.runUnderlying26 Try.sizeOf59 (rng_at hd297)) ?_
              refine G.q rfl (V.rowTN (i := 1) (enc := e_T_Func) (xs := r290) (j := 0) (c1 := (lf_T_Func y295)) i294 rfl rfl (rng_at hd297) rfl (c_T_Func _) rfl rfl rfl Try.isAgg59 Try.sizeOf59) ?_
              refine G.op rfl (O.alloc (ds := [.val (bs ([] : Str)), .val (.slice none 0 0), .val (.slice none 0 0), .val (.slice none 0 0), .val (.int .i64 0), .val (bs ([] : Str)), .val (.slice none 0 0), .val (.int .i64 0), .val (.int .i64 0), .val (bs ([] : Str)), .val (.slice none 0 0), .val (.slice none 0 0), .val (.slice none 0 0), .val (.slice none 0 0), .val (.int .i64 0)]) Try.zeroValue59 rfl) fun g313 => ?_
              refine G.opn (O.store (i := 0) (o := 0) (ds := [.val (bs ([] : Str)), .val (.slice none 0 0), .val (.slice none 0 0), .val (.slice none 0 0), .val (.int .i64 0), .val (bs ([] : Str)), .val (.slice none 0 0), .val (.int .i64 0), .val (.int .i64 0), .val (bs ([] : Str)), .val (.slice none 0 0), .val (.slice none 0 0), .val (.slice none 0 0), .val (.slice none 0 0), .val (.int .i64 0)]) rfl (.of rfl) rfl (OneC.agg (List.forall_mem_cons.2 ⟨(.val rfl), (List.forall_mem_cons.2 ⟨.sl, (List.forall_mem_cons.2 ⟨.sl, (List.forall_mem_cons.2 ⟨.sl, (List.forall_mem_cons.2 ⟨(.val rfl), (List.forall_mem_cons.2 ⟨(.val rfl), (List.forall_mem_cons.2 ⟨.sl, (List.forall_mem_cons.2 ⟨(.val rfl), (List.forall_mem_cons.2 ⟨(.val rfl), (List.forall_mem_cons.2 ⟨(.val rfl), (List.forall_mem_cons.2 ⟨.sl, (List.forall_mem_cons.2 ⟨.sl, (List.forall_mem_cons.2 ⟨.sl, (List.forall_mem_cons.2 ⟨.sl, (List.forall_mem_cons.2 ⟨(.val rfl), (List.forall_mem_nil _)⟩)⟩)⟩)⟩)⟩)⟩)⟩)⟩)⟩)⟩)⟩)⟩)⟩)⟩)⟩)) Try.sizeOf59 rfl rfl) fun _ => ?_
              refine G.nil ?_
              refine G.norm (L' := [(1, .val (.pointer (some ⟨g3, 0, none⟩))), (2, .val (.pointer (some ⟨g4, 0, none⟩))), (3, .val (.pointer (some ⟨g7, 0, none⟩))), (20, .val (.pointer (some ⟨g313, 0, none⟩))), (119, .val x292), (120, .val (.int .i64 (r290.length : Int))), (121, .val (.int .i64 (i294 : Int)))]) (is := [1, 2, 3, 20, 119, 120, 121]) (R' := [.cells g313 59 (lf_T_Func y295), .cells g3 29 (lf_T_Program b0), .row x292 59 15 (r290.map e_T_Func), .cells g4 36 [.val (.int .i64 0), .val (.int .i64 0)], .cells g7 36 [.val (.int .i64 11), .val (.int .i64 0)]]) (js := [0, 0, 0, 0, 0]) rfl rfl ?_
              refine G.next_ hK312 ?_
              refine G.seq fun K314 hK315 => ?_
              refine G.seq fun K316 hK317 => ?_
              refine G.region ?_
              refine G.p rfl (V.fieldAddr (o' := 1) rfl Try.runUnderlying59 rfl Try.sizeOf30 rfl) ?_
              refine G.q rfl (V.load_cell (i := 0) (ds := (lf_T_Func y295)) (d := eL eS 1 y295.fParams) rfl rfl Try.isAgg30 rfl rfl) ?_
              refine G.bind fun r318 hr319 => ?_
              refine G.op rfl (O.call (xs := [.tmp 126]) (is := []) (Rp := []) (Rr := [.cells g313 59 (lf_T_Func y295), .cells g3 29 (lf_T_Program b0), .row x292 59 15 (r290.map e_T_Func), .cells g4 36 [.val (.int .i64 0), .val (.int .i64 0)], .cells g7 36 [.val (.int .i64 11), .val (.int .i64 0)]]) (roadref2_doubled_ok hr319) (.cons (.of rfl) .nil) Try.call22 rfl) fun x320 => ?_
              refine G.p rfl (V.move rfl) ?_
              refine G.part 4 (fun b a w => Ass Gl B 168 [(1, .val (.pointer (some ⟨g3, 0, none⟩))), (2, .val (.pointer (some ⟨g4, 0, none⟩))), (3, .val (.pointer (some ⟨g7, 0, none⟩))), (20, .val (.pointer (some ⟨g313, 0, none⟩))), (119, .val x292), (120, .val (.int .i64 (r290.length : Int))), (121, .val (.int .i64 (i294 : Int))), (125, .val (.pointer (some ⟨g313, 1, none⟩))), (126, eL eS 1 y295.fParams), (127, .val (.bool r318)), (128, .val (.bool r318)), (132, .val (.bool b))] [.cells g3 29 (lf_T_Program b0), .row x292 59 15 (r290.map e_T_Func), .cells g313 59 (lf_T_Func y295), .cells g4 36 [.val (.int .i64 0), .val (.int .i64 0)], .cells g7 36 [.val (.int .i64 11), .val (.int .i64 0)]] a w) ?_ ?_
              ·intro b
               refine G.ifb (fun hc321 => ?_) (fun hc321 => ?_)
               ·refine G.skip_s rfl rfl hc321 rfl ?_
                refine G.skip_s rfl rfl hc321 rfl ?_
                refine G.skip_s rfl rfl hc321 rfl ?_
                refine G.p rfl (V.pick_yes (dv := .val (.bool true)) rfl hc321 rfl) ?_
                refine G.nil ?_
                refine G.norm (L' := [(1, .val (.pointer (some ⟨g3, 0, none⟩))), (2, .val (.pointer (some ⟨g4, 0, none⟩))), (3, .val (.pointer (some ⟨g7, 0, none⟩))), (20, .val (.pointer (some ⟨g313, 0, none⟩))), (119, .val x292), (120, .val (.int .i64 (r290.length : Int))), (121, .val (.int .i64 (i294 : Int))), (125, .val (.pointer (some ⟨g313, 1, none⟩))), (126, eL eS 1 y295.fParams), (127, .val (.bool r318)), (128, .val (.bool r318)), (132, .val (.bool true))]) (is := [1, 2, 3, 20, 119, 120, 121, 125, 126, 127, 128, 132]) (R' := [.cells g3 29 (lf_T_Program b0), .row x292 59 15 (r290.map e_T_Func), .cells g313 59 (lf_T_Func y295), .cells g4 36 [.val (.int .i64 0), .val (.int .i64 0)], .cells g7 36 [.val (.int .i64 11), .val (.int .i64 0)]]) (js := [1, 1, 0, 0, 0]) rfl rfl ?_
                exact G.finE fun hb a w hA => by subst hb; exact hA
               ·refine G.guard_yes rfl rfl hc321 ?_
                refine G.p rfl (V.fieldAddr (o' := 2) rfl Try.runUnderlying59 rfl Try.sizeOf30 rfl) ?_
                refine G.guard_yes rfl rfl hc321 ?_
                refine G.q rfl (V.load_cell (i := 0) (ds := (lf_T_Func y295)) (d := eL eS 1 y295.fNames) rfl rfl Try.isAgg30 rfl rfl) ?_
                refine G.guard_yes rfl rfl hc321 ?_
                refine G.bind fun r324 hr325 => ?_
                refine G.op rfl (O.call (xs := [.tmp 130]) (is := []) (Rp := []) (Rr := [.cells g313 59 (lf_T_Func y295), .cells g3 29 (lf_T_Program b0), .row x292 59 15 (r290.map e_T_Func), .cells g4 36 [.val (.int .i64 0), .val (.int .i64 0)], .cells g7 36 [.val (.int .i64 11), .val (.int .i64 0)]]) (roadref2_doubled_ok hr325) (.cons (.of rfl) .nil) Try.call22 rfl) fun x326 => ?_
                refine G.p rfl (V.pick_no (dv := .val (.bool r324)) rfl hc321 rfl) ?_
                refine G.nil ?_
                refine G.norm (L' := [(1, .val (.pointer (some ⟨g3, 0, none⟩))), (2, .val (.pointer (some ⟨g4, 0, none⟩))), (3, .val (.pointer (some ⟨g7, 0, none⟩))), (20, .val (.pointer (some ⟨g313, 0, none⟩))), (119, .val x292), (120, .val (.int .i64 (r290.length : Int))), (121, .val (.int .i64 (i294 : Int))), (125, .val (.pointer (some ⟨g313, 1, none⟩))), (126, eL eS 1 y295.fParams), (127, .val (.bool r318)), (128, .val (.bool r318)), (132, .val (.bool r324))]) (is := [1, 2, 3, 20, 119, 120, 121, 125, 126, 127, 128, 132]) (R' := [.cells g3 29 (lf_T_Program b0), .row x292 59 15 (r290.map e_T_Func), .cells g313 59 (lf_T_Func y295), .cells g4 36 [.val (.int .i64 0), .val (.int .i64 0)], .cells g7 36 [.val (.int .i64 11), .val (.int .i64 0)]]) (js := [1, 1, 0, 0, 0]) rfl rfl ?_
                exact G.finE fun hb a w hA => by subst hb; exact hA
              ·rintro t322 hb a w hA hF
               refine G.use hF hA ?_
               refine G.nil ?_
               refine G.norm (L' := [(1, .val (.pointer (some ⟨g3, 0, none⟩))), (2, .val (.pointer (some ⟨g4, 0, none⟩))), (3, .val (.pointer (some ⟨g7, 0, none⟩))), (20, .val (.pointer (some ⟨g313, 0, none⟩))), (119, .val x292), (120, .val (.int .i64 (r290.length : Int))), (121, .val (.int .i64 (i294 : Int))), (132, .val (.bool t322))]) (is := [1, 2, 3, 20, 119, 120, 121, 132]) (R' := [.cells g3 29 (lf_T_Program b0), .row x292 59 15 (r290.map e_T_Func), .cells g313 59 (lf_T_Func y295), .cells g4 36 [.val (.int .i64 0), .val (.int .i64 0)], .cells g7 36 [.val (.int .i64 11), .val (.int .i64 0)]]) (js := [0, 0, 0, 0, 0]) rfl rfl ?_
               refine G.next_ hK317 ?_
               refine G.cond (b := t322) rfl (fun hc327 => ?_) (fun hc327 => ?_)
               ·refine G.norm (L' := [(2, .val (.pointer (some ⟨g4, 0, none⟩))), (3, .val (.pointer (some ⟨g7, 0, none⟩)))]) (is := [2, 3]) (R' := [.cells g4 36 [.val (.int .i64 0), .val (.int .i64 0)], .cells g7 36 [.val (.int .i64 11), .val (.int .i64 0)]]) (js := [3, 3]) rfl rfl ?_
                refine G.seq fun K328 hK329 => ?_
                refine G.region ?_
                refine G.q rfl (V.load_cellN (i := 1) (ds := [.val (.int .i64 11), .val (.int .i64 0)]) (c1 := [.val (.int .i64 11), .val (.int .i64 0)]) rfl rfl Try.isAgg36 Try.sizeOf36 rfl rfl rfl) ?_
                refine G.opn (O.store (i := 0) (o := 0) (ds := [.val (.int .i64 0), .val (.int .i64 0)]) rfl (.of rfl) rfl (OneC.agg (List.forall_mem_cons.2 ⟨(.val rfl), (List.forall_mem_cons.2 ⟨(.val rfl), (List.forall_mem_nil _)⟩)⟩)) Try.sizeOf36 rfl rfl) fun _ => ?_
                refine G.nil ?_
                refine G.norm (L' := [(2, .val (.pointer (some ⟨g4, 0, none⟩)))]) (is := [2]) (R' := [.cells g4 36 [.val (.int .i64 11), .val (.int .i64 0)]]) (js := [0]) rfl rfl ?_
                refine G.next_ hK329 ?_
                refine G.ret ?_
                refine G.thn_ret ?_
                refine G.inB_ret ?_
                refine G.thn_ret ?_
                refine G.thn_ret ?_
                refine G.inB_ret ?_
                refine G.thn_ret ?_
                refine G.thn_ret ?_
                refine G.fin_ fun hF330 => ?_
                have hb331 := Option.some.inj hF330
                subst hb331
                have hF332 : (some (T_Wrong.mk 11 0) : Option (T_Wrong)) = some _ := hF299
                obtain rfl := Option.some.inj hF332
                exact G.retc (i := 0) (ds := [.val (.int .i64 11), .val (.int .i64 0)]) Try.results6 () (is := []) rfl rfl Try.isAgg36 Try.sizeOf36 rfl rfl rfl
               ·refine G.norm (L' := [(1, .val (.pointer (some ⟨g3, 0, none⟩))), (2, .val (.pointer (some ⟨g4, 0, none⟩))), (3, .val (.pointer (some ⟨g7, 0, none⟩))), (20, .val (.pointer (some ⟨g313, 0, none⟩))), (119, .val x292), (120, .val (.int .i64 (r290.length : Int))), (121, .val (.int .i64 (i294 : Int)))]) (is := [1, 2, 3, 20, 119, 120, 121]) (R' := [.cells g3 29 (lf_T_Program b0), .row x292 59 15 (r290.map e_T_Func), .cells g313 59 (lf_T_Func y295), .cells g4 36 [.val (.int .i64 0), .val (.int .i64 0)], .cells g7 36 [.val (.int .i64 11), .val (.int .i64 0)]]) (js := [0, 0, 0, 0, 0]) rfl rfl ?_
                refine G.skip ?_
                refine G.next_ hK315 ?_
                refine G.seq fun K333 hK334 => ?_
                refine G.region ?_
                refine G.q rfl (V.load_cellN (i := 0) (ds := (lf_T_Program b0)) (c1 := (lf_T_Program b0)) rfl rfl Try.isAgg29 Try.sizeOf29 rfl rfl rfl) ?_
                refine G.p rfl (V.fieldAddr (o' := 2) rfl Try.runUnderlying59 rfl Try.sizeOf30 rfl) ?_
                refine G.q rfl (V.load_cell (i := 2) (ds := (lf_T_Func y295)) (d := eL eS 1 y295.fNames) rfl rfl Try.isAgg30 rfl rfl) ?_
                refine G.p rfl (V.fieldAddr (o' := 7) rfl Try.runUnderlying59 rfl Try.sizeOf47 rfl) ?_
                refine G.q rfl (V.load_cellN (i := 2) (ds := (lf_T_Func y295)) (c1 := (lf_T_Expr y295.fBody)) rfl rfl Try.isAgg47 Try.sizeOf47 rfl rfl rfl) ?_
                refine G.bind fun r335 hr336 => ?_
                refine G.op rfl (O.call (xs := [.tmp 134, .tmp 136, .tmp 138]) (is := []) (Rp := []) (Rr := [.cells g3 29 (lf_T_Program b0), .row x292 59 15 (r290.map e_T_Func), .cells g313 59 (lf_T_Func y295), .cells g4 36 [.val (.int .i64 0), .val (.int .i64 0)], .cells g7 36 [.val (.int .i64 11), .val (.int .i64 0)]]) (roadref2_scopeExpr_ok k hr336) (.cons (.of rfl) (.cons (.of rfl) (.cons (.of rfl) .nil))) Try.call27 rfl) fun x337 => ?_
                refine G.op rfl (O.alloc (ds := [.val (.int .i64 0), .val (.int .i64 0)]) Try.zeroValue36 rfl) fun g338 => ?_
                refine G.opn (O.store (i := 0) (o := 0) (ds := [.val (.int .i64 0), .val (.int .i64 0)]) rfl (.of rfl) rfl (OneC.agg (List.forall_mem_cons.2 ⟨(.val rfl), (List.forall_mem_cons.2 ⟨(.val rfl), (List.forall_mem_nil _)⟩)⟩)) Try.sizeOf36 rfl rfl) fun _ => ?_
                refine G.nil ?_
                refine G.norm (L' := [(1, .val (.pointer (some ⟨g3, 0, none⟩))), (2, .val (.pointer (some ⟨g4, 0, none⟩))), (3, .val (.pointer (some ⟨g7, 0, none⟩))), (21, .val (.pointer (some ⟨g338, 0, none⟩))), (119, .val x292), (120, .val (.int .i64 (r290.length : Int))), (121, .val (.int .i64 (i294 : Int)))]) (is := [1, 2, 3, 21, 119, 120, 121]) (R' := [.cells g338 36 [.val (.int .i64 r335.fE), .val (.int .i64 r335.fAt)], .cells g3 29 (lf_T_Program b0), .row x292 59 15 (r290.map e_T_Func), .cells g4 36 [.val (.int .i64 0), .val (.int .i64 0)], .cells g7 36 [.val (.int .i64 11), .val (.int .i64 0)]]) (js := [0, 0, 0, 1, 1]) rfl rfl ?_
                refine G.next_ hK334 ?_
                refine G.seq fun K339 hK340 => ?_
                refine G.region ?_
                refine G.p rfl (V.fieldAddr (o' := 0) rfl Try.runUnderlying36 rfl Try.sizeOf32 rfl) ?_
                refine G.q rfl (V.load_cell (i := 0) (ds := [.val (.int .i64 r335.fE), .val (.int .i64 r335.fAt)]) (d := .val (.int .i64 r335.fE)) rfl rfl Try.isAgg32 rfl rfl) ?_
                refine G.p rfl (V.bin (u := .int .i64 r335.fE) (v := .int .i64 0) (r := .bool (r335.fE != 0)) rfl rfl b_neq) ?_
                refine G.nil ?_
                refine G.norm (L' := [(1, .val (.pointer (some ⟨g3, 0, none⟩))), (2, .val (.pointer (some ⟨g4, 0, none⟩))), (3, .val (.pointer (some ⟨g7, 0, none⟩))), (21, .val (.pointer (some ⟨g338, 0, none⟩))), (119, .val x292), (120, .val (.int .i64 (r290.length : Int))), (121, .val (.int .i64 (i294 : Int))), (142, .val (.bool (r335.fE != 0)))]) (is := [1, 2, 3, 21, 119, 120, 121, 142]) (R' := [.cells g338 36 [.val (.int .i64 r335.fE), .val (.int .i64 r335.fAt)], .cells g3 29 (lf_T_Program b0), .row x292 59 15 (r290.map e_T_Func), .cells g4 36 [.val (.int .i64 0), .val (.int .i64 0)], .cells g7 36 [.val (.int .i64 11), .val (.int .i64 0)]]) (js := [0, 0, 0, 0, 0]) rfl rfl ?_
                refine G.next_ hK340 ?_
                refine G.cond (b := (r335.fE != 0)) rfl (fun hc341 => ?_) (fun hc341 => ?_)
                ·refine G.norm (L' := [(2, .val (.pointer (some ⟨g4, 0, none⟩))), (21, .val (.pointer (some ⟨g338, 0, none⟩)))]) (is := [2, 21]) (R' := [.cells g338 36 [.val (.int .i64 r335.fE), .val (.int .i64 r335.fAt)], .cells g4 36 [.val (.int .i64 0), .val (.int .i64 0)]]) (js := [0, 2]) rfl rfl ?_
                 refine G.seq fun K342 hK343 => ?_
                 refine G.region ?_
                 refine G.q rfl (V.load_cellN (i := 0) (ds := [.val (.int .i64 r335.fE), .val (.int .i64 r335.fAt)]) (c1 := [.val (.int .i64 r335.fE), .val (.int .i64 r335.fAt)]) rfl rfl Try.isAgg36 Try.sizeOf36 rfl rfl rfl) ?_
                 refine G.opn (O.store (i := 1) (o := 0) (ds := [.val (.int .i64 0), .val (.int .i64 0)]) rfl (.of rfl) rfl (OneC.agg (List.forall_mem_cons.2 ⟨(.val rfl), (List.forall_mem_cons.2 ⟨(.val rfl), (List.forall_mem_nil _)⟩)⟩)) Try.sizeOf36 rfl rfl) fun _ => ?_
                 refine G.nil ?_
                 refine G.norm (L' := [(2, .val (.pointer (some ⟨g4, 0, none⟩)))]) (is := [2]) (R' := [.cells g4 36 [.val (.int .i64 r335.fE), .val (.int .i64 r335.fAt)]]) (js := [1]) rfl rfl ?_
                 refine G.next_ hK343 ?_
                 refine G.ret ?_
                 refine G.inB_ret ?_
                 refine G.thn_ret ?_
                 refine G.thn_ret ?_
                 refine G.inB_ret ?_
                 refine G.thn_ret ?_
                 refine G.thn_ret ?_
                 refine G.fin_ fun hF344 => ?_
                 have hb345 := Option.some.inj hF344
                 subst hb345
                 have hF346 : (some r335 : Option (T_Wrong)) = some _ := hF299
                 obtain rfl := Option.some.inj hF346
                 exact G.retc (i := 0) (ds := [.val (.int .i64 r335.fE), .val (.int .i64 r335.fAt)]) Try.results6 () (is := []) rfl rfl Try.isAgg36 Try.sizeOf36 rfl rfl rfl
                ·refine G.norm (L' := [(1, .val (.pointer (some ⟨g3, 0, none⟩))), (2, .val (.pointer (some ⟨g4, 0, none⟩))), (3, .val (.pointer (some ⟨g7, 0, none⟩))), (119, .val x292), (120, .val (.int .i64 (r290.length : Int))), (121, .val (.int .i64 (i294 : Int)))]) (is := [1, 2, 3, 119, 120, 121]) (R' := [.cells g3 29 (lf_T_Program b0), .row x292 59 15 (r290.map e_T_Func), .cells g4 36 [.val (.int .i64 0), .val (.int .i64 0)], .cells g7 36 [.val (.int .i64 11), .val (.int .i64 0)]]) (js := [1, 1, 1, 1]) rfl rfl ?_
                 refine G.skip ?_
                 refine G.inB ?_
                 refine G.next_ hK310 ?_
                 refine G.region ?_
                 refine G.p rfl (V.incr (i := i294) (N := r290.length) rfl rfl (rng_lt hd297) (hN293)) ?_
                 refine G.p rfl (V.move rfl) ?_
                 refine G.nil ?_
                 refine G.norm (L' := [(1, .val (.pointer (some ⟨g3, 0, none⟩))), (2, .val (.pointer (some ⟨g4, 0, none⟩))), (3, .val (.pointer (some ⟨g7, 0, none⟩))), (119, .val x292), (120, .val (.int .i64 (r290.length : Int))), (121, .val (.int .i64 ((i294 + 1 : Nat) : Int)))]) (is := [1, 2, 3, 119, 120, 121]) (R' := [.cells g3 29 (lf_T_Program b0), .row x292 59 15 (r290.map e_T_Func), .cells g4 36 [.val (.int .i64 0), .val (.int .i64 0)], .cells g7 36 [.val (.int .i64 11), .val (.int .i64 0)]]) (js := [0, 0, 0, 0]) rfl rfl ?_
                 refine G.again ?_
                 intro hl347 a w hA
                 exact ⟨_, Nat.lt_succ_self _, rest296, i294 + 1, rfl, hl347, rng_next hd297, hA⟩
           ·rintro _ hb a w ⟨b349, rfl, hA⟩ hF350
            refine G.use hF350 hA ?_
            refine G.inr ?_
            refine G.next_ hK287 ?_
            refine G.seq fun K351 hK352 => ?_
            refine G.seq fun K353 hK354 => ?_
            refine G.region ?_
            refine G.p rfl (V.fieldAddr (o' := 7) rfl Try.runUnderlying29 rfl Try.sizeOf27 rfl) ?_
            refine G.q rfl (V.load_cell (i := 0) (ds := (lf_T_Program b0)) (d := eL e_T_Actor 14 b0.fActors) rfl rfl Try.isAgg27 rfl rfl) ?_
            refine G.lenb (enc := e_T_Actor) (xs := b0.fActors) (sz := 14) (x := .tmp 146) (.of rfl) fun hN355 => ?_
            refine G.p rfl (V.len_sl (enc := e_T_Actor) (xs := b0.fActors) (sz := 14) (.of rfl) Try.runUnderlying27) ?_
            refine G.p rfl (V.move rfl) ?_
            refine G.nil ?_
            refine G.norm (L' := [(1, .val (.pointer (some ⟨g3, 0, none⟩))), (2, .val (.pointer (some ⟨g4, 0, none⟩))), (3, .val (.pointer (some ⟨g7, 0, none⟩))), (146, eL e_T_Actor 14 b0.fActors), (147, .val (.int .i64 (b0.fActors.length : Int))), (148, .val (.int .i64 0))]) (is := [1, 2, 3, 146, 147, 148]) (R' := [.cells g3 29 (lf_T_Program b0), .cells g4 36 [.val (.int .i64 0), .val (.int .i64 0)], .cells g7 36 [.val (.int .i64 11), .val (.int .i64 0)]]) (js := [0, 0, 0]) rfl rfl ?_
            refine G.next_ hK354 ?_
            refine G.join (E := fun o a w => ∃ b, o = .inr b ∧ Ass Gl B 168 [(2, .val (.pointer (some ⟨g4, 0, none⟩)))] [.cells g4 36 [.val (.int .i64 0), .val (.int .i64 0)]] a w) ?_ ?_
            ·intro b hF361
             refine G.block ?_
             refine G.norm (L' := [(1, .val (.pointer (some ⟨g3, 0, none⟩))), (2, .val (.pointer (some ⟨g4, 0, none⟩))), (3, .val (.pointer (some ⟨g7, 0, none⟩))), (146, eL e_T_Actor 14 b0.fActors), (147, .val (.int .i64 (b0.fActors.length : Int))), (148, .val (.int .i64 ((0 : Nat) : Int)))]) (is := [1, 2, 3, 146, 147, 148]) (R' := [.cells g3 29 (lf_T_Program b0), .cells g4 36 [.val (.int .i64 0), .val (.int .i64 0)], .cells g7 36 [.val (.int .i64 11), .val (.int .i64 0)]]) (js := [0, 0, 0]) rfl rfl ?_
             refine G.loop (fun kq a w => ∃ (rest358 : List (T_Actor)) (i356 : Nat), kq = rest358.length ∧ roadref2_ScopeOf.l8 b0 k rest358 = some b ∧ b0.fActors.drop i356 = rest358 ∧ Ass Gl B 168 [(1, .val (.pointer (some ⟨g3, 0, none⟩))), (2, .val (.pointer (some ⟨g4, 0, none⟩))), (3, .val (.pointer (some ⟨g7, 0, none⟩))), (146, eL e_T_Actor 14 b0.fActors), (147, .val (.int .i64 (b0.fActors.length : Int))), (148, .val (.int .i64 (i356 : Int)))] [.cells g3 29 (lf_T_Program b0), .cells g4 36 [.val (.int .i64 0), .val (.int .i64 0)], .cells g7 36 [.val (.int .i64 11), .val (.int .i64 0)]] a w) (b0.fActors.length) ?_ ?_
             ·intro hl404 a w hA
              exact ⟨b0.fActors, 0, rfl, hl404, rfl, hA⟩
             ·rintro _ a w ⟨rest358, i356, rfl, hl362, hd359, hA⟩
              rcases rest358 with _ | ⟨y357, rest358⟩
              ·rw [roadref2_ScopeOf.l8_nil] at hl362
               refine G.use hl362 hA ?_
               refine G.seq fun K363 hK364 => ?_
               refine G.region ?_
               refine G.p rfl (V.bin (u := .int .i64 (i356 : Int)) (v := .int .i64 (b0.fActors.length : Int)) (r := .bool (decide ((i356 : Int) < (b0.fActors.length : Int)))) rfl rfl b_lss) ?_
               refine G.nil ?_
               refine G.norm (L' := [(1, .val (.pointer (some ⟨g3, 0, none⟩))), (2, .val (.pointer (some ⟨g4, 0, none⟩))), (3, .val (.pointer (some ⟨g7, 0, none⟩))), (146, eL e_T_Actor 14 b0.fActors), (147, .val (.int .i64 (b0.fActors.length : Int))), (148, .val (.int .i64 (i356 : Int))), (149, .val (.bool (decide ((i356 : Int) < (b0.fActors.length : Int)))))]) (is := [1, 2, 3, 146, 147, 148, 149]) (R' := [.cells g3 29 (lf_T_Program b0), .cells g4 36 [.val (.int .i64 0), .val (.int .i64 0)], .cells g7 36 [.val (.int .i64 11), .val (.int .i64 0)]]) (js := [0, 0, 0]) rfl rfl ?_
               refine G.next_ hK364 ?_
               refine G.seq fun K365 hK366 => ?_
               refine G.no rfl (rng_end hd359) ?_
               refine G.exit ?_
               refine G.thn_exit ?_
               refine G.thn_exit ?_
               refine G.inB_eq ?_
               refine G.norm (L' := [(2, .val (.pointer (some ⟨g4, 0, none⟩)))]) (is := [2]) (R' := [.cells g4 36 [.val (.int .i64 0), .val (.int .i64 0)]]) (js := [1]) rfl rfl ?_
               exact G.finE fun hb a w hA => by subst hb; exact ⟨_, rfl, hA⟩
              ·rw [roadref2_ScopeOf.l8_cons] at hl362
               refine G.use hl362 hA ?_
               refine G.seq fun K367 hK368 => ?_
               refine G.region ?_
               refine G.p rfl (V.bin (u := .int .i64 (i356 : Int)) (v := .int .i64 (b0.fActors.length : Int)) (r := .bool (decide ((i356 : Int) < (b0.fActors.length : Int)))) rfl rfl b_lss) ?_
               refine G.nil ?_
               refine G.norm (L' := [(1, .val (.pointer (some ⟨g3, 0, none⟩))), (2, .val (.pointer (some ⟨g4, 0, none⟩))), (3, .val (.pointer (some ⟨g7, 0, none⟩))), (146, eL e_T_Actor 14 b0.fActors), (147, .val (.int .i64 (b0.fActors.length : Int))), (148, .val (.int .i64 (i356 : Int))), (149, .val (.bool (decide ((i356 : Int) < (b0.fActors.length : Int)))))]) (is := [1, 2, 3, 146, 147, 148, 149]) (R' := [.cells g3 29 (lf_T_Program b0), .cells g4 36 [.val (.int .i64 0), .val (.int .i64 0)], .cells g7 36 [.val (.int .i64 11), .val (.int .i64 0)]]) (js := [0, 0, 0]) rfl rfl ?_
               refine G.next_ hK368 ?_
               refine G.seq fun K369 hK370 => ?_
               refine G.yes rfl (rng_more hd359) ?_
               refine G.skip ?_
               refine G.next_ hK370 ?_
               refine G.seq fun K371 hK372 => ?_
               refine G.block ?_
               refine G.seq fun K373 hK374 => ?_
               refine G.region ?_
               refine G.p rfl (V.at_sl (k := i356) rfl rfl Try.runUnderlying27 Try.sizeOf68 (map_at (rng_at hd359))) ?_
               refine G.q rfl (V.load_ptrN (ds := (lf_T_Actor y357)) rfl (e_T_Actor_eq y357) Try.isAgg68 Try.sizeOf68 rfl) ?_
               refine G.op rfl (O.alloc (ds := [.val (bs ([] : Str)), .val (.slice none 0 0), .val (.slice none 0 0), .val (.int .i64 0), .val (bs ([] : Str)), .val (.slice none 0 0), .val (.int .i64 0), .val (.int .i64 0), .val (bs ([] : Str)), .val (.slice none 0 0), .val (.slice none 0 0), .val (.slice none 0 0), .val (.slice none 0 0), .val (.int .i64 0)]) Try.zeroValue68 rfl) fun g375 => ?_
               refine G.opn (O.store (i := 0) (o := 0) (ds := [.val (bs ([] : Str)), .val (.slice none 0 0), .val (.slice none 0 0), .val (.int .i64 0), .val (bs ([] : Str)), .val (.slice none 0 0), .val (.int .i64 0), .val (.int .i64 0), .val (bs ([] : Str)), .val (.slice none 0 0), .val (.slice none 0 0), .val (.slice none 0 0), .val (.slice none 0 0), .val (.int .i64 0)]) rfl (.of rfl) rfl (OneC.agg (List.forall_mem_cons.2 ⟨(.val rfl), (List.forall_mem_cons.2 ⟨.sl, (List.forall_mem_cons.2 ⟨.sl, (List.forall_mem_cons.2 ⟨(.val rfl), (List.forall_mem_cons.2 ⟨(.val rfl), (List.forall_mem_cons.2 ⟨.sl, (List.forall_mem_cons.2 ⟨(.val rfl), (List.forall_mem_cons.2 ⟨(.val rfl), (List.forall_mem_cons.2 ⟨(.val rfl), (List.forall_mem_cons.2 ⟨.sl, (List.forall_mem_cons.2 ⟨.sl, (List.forall_mem_cons.2 ⟨.sl, (List.forall_mem_cons.2 ⟨.sl, (List.forall_mem_cons.2 ⟨(.val rfl), (List.forall_mem_nil _)⟩)⟩)⟩)⟩)⟩)⟩)⟩)⟩)⟩)⟩)⟩)⟩)⟩)⟩)) Try.sizeOf68 rfl rfl) fun _ => ?_
               refine G.nil ?_
               refine G.norm (L' := [(1, .val (.pointer (some ⟨g3, 0, none⟩))), (2, .val (.pointer (some ⟨g4, 0, none⟩))), (3, .val (.pointer (some ⟨g7, 0, none⟩))), (23, .val (.pointer (some ⟨g375, 0, none⟩))), (146, eL e_T_Actor 14 b0.fActors), (147, .val (.int .i64 (b0.fActors.length : Int))), (148, .val (.int .i64 (i356 : Int)))]) (is := [1, 2, 3, 23, 146, 147, 148]) (R' := [.cells g375 68 (lf_T_Actor y357), .cells g3 29 (lf_T_Program b0), .cells g4 36 [.val (.int .i64 0), .val (.int .i64 0)], .cells g7 36 [.val (.int .i64 11), .val (.int .i64 0)]]) (js := [0, 0, 0, 0]) rfl rfl ?_
               refine G.next_ hK374 ?_
               refine G.seq fun K376 hK377 => ?_
               refine G.seq fun K378 hK379 => ?_
               refine G.region ?_
               refine G.p rfl (V.fieldAddr (o' := 1) rfl Try.runUnderlying68 rfl Try.sizeOf30 rfl) ?_
               refine G.q rfl (V.load_cell (i := 0) (ds := (lf_T_Actor y357)) (d := eL eS 1 y357.fNames) rfl rfl Try.isAgg30 rfl rfl) ?_
               refine G.bind fun r380 hr381 => ?_
               refine G.op rfl (O.call (xs := [.tmp 153]) (is := []) (Rp := []) (Rr := [.cells g375 68 (lf_T_Actor y357), .cells g3 29 (lf_T_Program b0), .cells g4 36 [.val (.int .i64 0), .val (.int .i64 0)], .cells g7 36 [.val (.int .i64 11), .val (.int .i64 0)]]) (roadref2_doubled_ok hr381) (.cons (.of rfl) .nil) Try.call22 rfl) fun x382 => ?_
               refine G.nil ?_
               refine G.norm (L' := [(1, .val (.pointer (some ⟨g3, 0, none⟩))), (2, .val (.pointer (some ⟨g4, 0, none⟩))), (3, .val (.pointer (some ⟨g7, 0, none⟩))), (23, .val (.pointer (some ⟨g375, 0, none⟩))), (146, eL e_T_Actor 14 b0.fActors), (147, .val (.int .i64 (b0.fActors.length : Int))), (148, .val (.int .i64 (i356 : Int))), (154, .val (.bool r380))]) (is := [1, 2, 3, 23, 146, 147, 148, 154]) (R' := [.cells g375 68 (lf_T_Actor y357), .cells g3 29 (lf_T_Program b0), .cells g4 36 [.val (.int .i64 0), .val (.int .i64 0)], .cells g7 36 [.val (.int .i64 11), .val (.int .i64 0)]]) (js := [0, 0, 0, 0]) rfl rfl ?_
               refine G.next_ hK379 ?_
               refine G.cond (b := r380) rfl (fun hc383 => ?_) (fun hc383 => ?_)
               ·refine G.norm (L' := [(2, .val (.pointer (some ⟨g4, 0, none⟩))), (3, .val (.pointer (some ⟨g7, 0, none⟩)))]) (is := [2, 3]) (R' := [.cells g4 36 [.val (.int .i64 0), .val (.int .i64 0)], .cells g7 36 [.val (.int .i64 11), .val (.int .i64 0)]]) (js := [2, 2]) rfl rfl ?_
                refine G.seq fun K384 hK385 => ?_
                refine G.region ?_
                refine G.q rfl (V.load_cellN (i := 1) (ds := [.val (.int .i64 11), .val (.int .i64 0)]) (c1 := [.val (.int .i64 11), .val (.int .i64 0)]) rfl rfl Try.isAgg36 Try.sizeOf36 rfl rfl rfl) ?_
                refine G.opn (O.store (i := 0) (o := 0) (ds := [.val (.int .i64 0), .val (.int .i64 0)]) rfl (.of rfl) rfl (OneC.agg (List.forall_mem_cons.2 ⟨(.val rfl), (List.forall_mem_cons.2 ⟨(.val rfl), (List.forall_mem_nil _)⟩)⟩)) Try.sizeOf36 rfl rfl) fun _ => ?_
                refine G.nil ?_
                refine G.norm (L' := [(2, .val (.pointer (some ⟨g4, 0, none⟩)))]) (is := [2]) (R' := [.cells g4 36 [.val (.int .i64 11), .val (.int .i64 0)]]) (js := [0]) rfl rfl ?_
                refine G.next_ hK385 ?_
                refine G.ret ?_
                refine G.thn_ret ?_
                refine G.inB_ret ?_
                refine G.thn_ret ?_
                refine G.thn_ret ?_
                refine G.inB_ret ?_
                refine G.thn_ret ?_
                refine G.thn_ret ?_
                refine G.fin_ fun hF386 => ?_
                have hb387 := Option.some.inj hF386
                subst hb387
                have hF388 : (some (T_Wrong.mk 11 0) : Option (T_Wrong)) = some _ := hF361
                obtain rfl := Option.some.inj hF388
                exact G.retc (i := 0) (ds := [.val (.int .i64 11), .val (.int .i64 0)]) Try.results6 () (is := []) rfl rfl Try.isAgg36 Try.sizeOf36 rfl rfl rfl
               ·refine G.norm (L' := [(1, .val (.pointer (some ⟨g3, 0, none⟩))), (2, .val (.pointer (some ⟨g4, 0, none⟩))), (3, .val (.pointer (some ⟨g7, 0, none⟩))), (23, .val (.pointer (some ⟨g375, 0, none⟩))), (146, eL e_T_Actor 14 b0.fActors), (147, .val (.int .i64 (b0.fActors.length : Int))), (148, .val (.int .i64 (i356 : Int)))]) (is := [1, 2, 3, 23, 146, 147, 148]) (R' := [.cells g375 68 (lf_T_Actor y357), .cells g3 29 (lf_T_Program b0), .cells g4 36 [.val (.int .i64 0), .val (.int .i64 0)], .cells g7 36 [.val (.int .i64 11), .val (.int .i64 0)]]) (js := [0, 0, 0, 0]) rfl rfl ?_
                refine G.skip ?_
                refine G.next_ hK377 ?_
                refine G.seq fun K389 hK390 => ?_
                refine G.region ?_
                refine G.q rfl (V.load_cellN (i := 1) (ds := (lf_T_Program b0)) (c1 := (lf_T_Program b0)) rfl rfl Try.isAgg29 Try.sizeOf29 rfl rfl rfl) ?_
                refine G.p rfl (V.fieldAddr (o' := 1) rfl Try.runUnderlying68 rfl Try.sizeOf30 rfl) ?_
                refine G.q rfl (V.load_cell (i := 0) (ds := (lf_T_Actor y357)) (d := eL eS 1 y357.fNames) rfl rfl Try.isAgg30 rfl rfl) ?_
                refine G.p rfl (V.fieldAddr (o' := 6) rfl Try.runUnderlying68 rfl Try.sizeOf47 rfl) ?_
                refine G.q rfl (V.load_cellN (i := 0) (ds := (lf_T_Actor y357)) (c1 := (lf_T_Expr y357.fBody)) rfl rfl Try.isAgg47 Try.sizeOf47 rfl rfl rfl) ?_
                refine G.bind fun r391 hr392 => ?_
                refine G.op rfl (O.call (xs := [.tmp 156, .tmp 158, .tmp 160]) (is := []) (Rp := []) (Rr := [.cells g375 68 (lf_T_Actor y357), .cells g3 29 (lf_T_Program b0), .cells g4 36 [.val (.int .i64 0), .val (.int .i64 0)], .cells g7 36 [.val (.int .i64 11), .val (.int .i64 0)]]) (roadref2_scopeExpr_ok k hr392) (.cons (.of rfl) (.cons (.of rfl) (.cons (.of rfl) .nil))) Try.call27 rfl) fun x393 => ?_
                refine G.op rfl (O.alloc (ds := [.val (.int .i64 0), .val (.int .i64 0)]) Try.zeroValue36 rfl) fun g394 => ?_
                refine G.opn (O.store (i := 0) (o := 0) (ds := [.val (.int .i64 0), .val (.int .i64 0)]) rfl (.of rfl) rfl (OneC.agg (List.forall_mem_cons.2 ⟨(.val rfl), (List.forall_mem_cons.2 ⟨(.val rfl), (List.forall_mem_nil _)⟩)⟩)) Try.sizeOf36 rfl rfl) fun _ => ?_
                refine G.nil ?_
                refine G.norm (L' := [(1, .val (.pointer (some ⟨g3, 0, none⟩))), (2, .val (.pointer (some ⟨g4, 0, none⟩))), (3, .val (.pointer (some ⟨g7, 0, none⟩))), (24, .val (.pointer (some ⟨g394, 0, none⟩))), (146, eL e_T_Actor 14 b0.fActors), (147, .val (.int .i64 (b0.fActors.length : Int))), (148, .val (.int .i64 (i356 : Int)))]) (is := [1, 2, 3, 24, 146, 147, 148]) (R' := [.cells g394 36 [.val (.int .i64 r391.fE), .val (.int .i64 r391.fAt)], .cells g3 29 (lf_T_Program b0), .cells g4 36 [.val (.int .i64 0), .val (.int .i64 0)], .cells g7 36 [.val (.int .i64 11), .val (.int .i64 0)]]) (js := [0, 1, 1, 1]) rfl rfl ?_
                refine G.next_ hK390 ?_
                refine G.seq fun K395 hK396 => ?_
                refine G.region ?_
                refine G.p rfl (V.fieldAddr (o' := 0) rfl Try.runUnderlying36 rfl Try.sizeOf32 rfl) ?_
                refine G.q rfl (V.load_cell (i := 0) (ds := [.val (.int .i64 r391.fE), .val (.int .i64 r391.fAt)]) (d := .val (.int .i64 r391.fE)) rfl rfl Try.isAgg32 rfl rfl) ?_
                refine G.p rfl (V.bin (u := .int .i64 r391.fE) (v := .int .i64 0) (r := .bool (r391.fE != 0)) rfl rfl b_neq) ?_
                refine G.nil ?_
                refine G.norm (L' := [(1, .val (.pointer (some ⟨g3, 0, none⟩))), (2, .val (.pointer (some ⟨g4, 0, none⟩))), (3, .val (.pointer (some ⟨g7, 0, none⟩))), (24, .val (.pointer (some ⟨g394, 0, none⟩))), (146, eL e_T_Actor 14 b0.fActors), (147, .val (.int .i64 (b0.fActors.length : Int))), (148, .val (.int .i64 (i356 : Int))), (164, .val (.bool (r391.fE != 0)))]) (is := [1, 2, 3, 24, 146, 147, 148, 164]) (R' := [.cells g394 36 [.val (.int .i64 r391.fE), .val (.int .i64 r391.fAt)], .cells g3 29 (lf_T_Program b0), .cells g4 36 [.val (.int .i64 0), .val (.int .i64 0)], .cells g7 36 [.val (.int .i64 11), .val (.int .i64 0)]]) (js := [0, 0, 0, 0]) rfl rfl ?_
                refine G.next_ hK396 ?_
                refine G.cond (b := (r391.fE != 0)) rfl (fun hc397 => ?_) (fun hc397 => ?_)
                ·refine G.norm (L' := [(2, .val (.pointer (some ⟨g4, 0, none⟩))), (24, .val (.pointer (some ⟨g394, 0, none⟩)))]) (is := [2, 24]) (R' := [.cells g394 36 [.val (.int .i64 r391.fE), .val (.int .i64 r391.fAt)], .cells g4 36 [.val (.int .i64 0), .val (.int .i64 0)]]) (js := [0, 1]) rfl rfl ?_
                 refine G.seq fun K398 hK399 => ?_
                 refine G.region ?_
                 refine G.q rfl (V.load_cellN (i := 0) (ds := [.val (.int .i64 r391.fE), .val (.int .i64 r391.fAt)]) (c1 := [.val (.int .i64 r391.fE), .val (.int .i64 r391.fAt)]) rfl rfl Try.isAgg36 Try.sizeOf36 rfl rfl rfl) ?_
                 refine G.opn (O.store (i := 1) (o := 0) (ds := [.val (.int .i64 0), .val (.int .i64 0)]) rfl (.of rfl) rfl (OneC.agg (List.forall_mem_cons.2 ⟨(.val rfl), (List.forall_mem_cons.2 ⟨(.val rfl), (List.forall_mem_nil _)⟩)⟩)) Try.sizeOf36 rfl rfl) fun _ => ?_
                 refine G.nil ?_
                 refine G.norm (L' := [(2, .val (.pointer (some ⟨g4, 0, none⟩)))]) (is := [2]) (R' := [.cells g4 36 [.val (.int .i64 r391.fE), .val (.int .i64 r391.fAt)]]) (js := [1]) rfl rfl ?_
                 refine G.next_ hK399 ?_
                 refine G.ret ?_
                 refine G.inB_ret ?_
                 refine G.thn_ret ?_
                 refine G.thn_ret ?_
                 refine G.inB_ret ?_
                 refine G.thn_ret ?_
                 refine G.thn_ret ?_
                 refine G.fin_ fun hF400 => ?_
                 have hb401 := Option.some.inj hF400
                 subst hb401
                 have hF402 : (some r391 : Option (T_Wrong)) = some _ := hF361
                 obtain rfl := Option.some.inj hF402
                 exact G.retc (i := 0) (ds := [.val (.int .i64 r391.fE), .val (.int .i64 r391.fAt)]) Try.results6 () (is := []) rfl rfl Try.isAgg36 Try.sizeOf36 rfl rfl rfl
                ·refine G.norm (L' := [(1, .val (.pointer (some ⟨g3, 0, none⟩))), (2, .val (.pointer (some ⟨g4, 0, none⟩))), (3, .val (.pointer (some ⟨g7, 0, none⟩))), (146, eL e_T_Actor 14 b0.fActors), (147, .val (.int .i64 (b0.fActors.length : Int))), (148, .val (.int .i64 (i356 : Int)))]) (is := [1, 2, 3, 146, 147, 148]) (R' := [.cells g3 29 (lf_T_Program b0), .cells g4 36 [.val (.int .i64 0), .val (.int .i64 0)], .cells g7 36 [.val (.int .i64 11), .val (.int .i64 0)]]) (js := [1, 1, 1]) rfl rfl ?_
                 refine G.skip ?_
                 refine G.inB ?_
                 refine G.next_ hK372 ?_
                 refine G.region ?_
                 refine G.p rfl (V.incr (i := i356) (N := b0.fActors.length) rfl rfl (rng_lt hd359) (hN355)) ?_
                 refine G.p rfl (V.move rfl) ?_
                 refine G.nil ?_
                 refine G.norm (L' := [(1, .val (.pointer (some ⟨g3, 0, none⟩))), (2, .val (.pointer (some ⟨g4, 0, none⟩))), (3, .val (.pointer (some ⟨g7, 0, none⟩))), (146, eL e_T_Actor 14 b0.fActors), (147, .val (.int .i64 (b0.fActors.length : Int))), (148, .val (.int .i64 ((i356 + 1 : Nat) : Int)))]) (is := [1, 2, 3, 146, 147, 148]) (R' := [.cells g3 29 (lf_T_Program b0), .cells g4 36 [.val (.int .i64 0), .val (.int .i64 0)], .cells g7 36 [.val (.int .i64 11), .val (.int .i64 0)]]) (js := [0, 0, 0]) rfl rfl ?_
                 refine G.again ?_
                 intro hl403 a w hA
                 exact ⟨_, Nat.lt_succ_self _, rest358, i356 + 1, rfl, hl403, rng_next hd359, hA⟩
            ·rintro _ hb a w ⟨b405, rfl, hA⟩ hF406
             refine G.use hF406 hA ?_
             refine G.inr ?_
             refine G.next_ hK352 ?_
             refine G.seq fun K407 hK408 => ?_
             refine G.region ?_
             refine G.q rfl (V.build (out := [.val (.int .i64 0), .val (.int .i64 0)]) blt36 (.nil) (List.forall_mem_nil _) rfl) ?_
             refine G.opn (O.store (i := 0) (o := 0) (ds := [.val (.int .i64 0), .val (.int .i64 0)]) rfl (.of rfl) rfl (OneC.agg (List.forall_mem_cons.2 ⟨(.val rfl), (List.forall_mem_cons.2 ⟨(.val rfl), (List.forall_mem_nil _)⟩)⟩)) Try.sizeOf36 rfl rfl) fun _ => ?_
             refine G.nil ?_
             refine G.norm (L' := [(2, .val (.pointer (some ⟨g4, 0, none⟩)))]) (is := [2]) (R' := [.cells g4 36 [.val (.int .i64 0), .val (.int .i64 0)]]) (js := [0]) rfl rfl ?_
             refine G.next_ hK408 ?_
             refine G.ret ?_
             refine G.fin_ fun hF409 => ?_
             obtain rfl := Option.some.inj hF409
             exact G.retc (i := 0) (ds := [.val (.int .i64 0), .val (.int .i64 0)]) Try.results6 () (is := []) rfl rfl Try.isAgg36 Try.sizeOf36 rfl rfl rfl
/-! roadstead/roadref2.Lists -/
def roadref2_Lists.Spec (F : T_Program → Option ((List Str) × (List Str) × (List Str))) : Prop := ∀ {b0 : T_Program} {out : (List Str) × (List Str) × (List Str)}, F b0 = some out → Ct Gl Try.prog 7 [.agg (lf_T_Program b0)] [] (fun x : Value × Value × Value => .tup [.val x.1, .val x.2.1, .val x.2.2]) (fun x : Value × Value × Value => [.row x.1 9 1 (out.1.map eS), .row x.2.1 9 1 (out.2.1.map eS), .row x.2.2 9 1 (out.2.2.map eS)])
def roadref2_Lists (b0 : T_Program) : Option ((List Str) × (List Str) × (List Str)) := (roadref2_makersOf b0).bind fun r6 => (roadref2_callsOf b0).bind fun r9 => (roadref2_actorsOf b0).bind fun r12 => some (r6, r9, r12)
set_option maxRecDepth 100000 in
theorem roadref2_Lists_ok : roadref2_Lists.Spec (roadref2_Lists) := by
 intro b0 out hp
 refine ct_of_G (nt := 11) Try.func7 rfl Try.ntmps7 rfl (fun B => ?_) hp
 unfold roadref2_Lists
 refine G.seq fun K1 hK2 => ?_
 refine G.region ?_
 refine G.op rfl (O.box (.of rfl) (OneC.agg (List.forall_mem_cons.2 ⟨(.val rfl), (List.forall_mem_cons.2 ⟨(.val rfl), (List.forall_mem_cons.2 ⟨.sl, (List.forall_mem_cons.2 ⟨.sl, (List.forall_mem_cons.2 ⟨.sl, (List.forall_mem_cons.2 ⟨.sl, (List.forall_mem_cons.2 ⟨.sl, (List.forall_mem_cons.2 ⟨.sl, (List.forall_mem_nil _)⟩)⟩)⟩)⟩)⟩)⟩)⟩)⟩))) fun g3 => ?_
 refine G.p rfl (V.assign rfl) ?_
 refine G.p rfl (V.assign rfl) ?_
 refine G.p rfl (V.assign rfl) ?_
 refine G.nil ?_
 refine G.norm (L' := [(1, .val (.pointer (some ⟨g3, 0, none⟩)))]) (is := [1]) (R' := [.cells g3 29 (lf_T_Program b0)]) (js := [0]) rfl rfl ?_
 refine G.next_ hK2 ?_
 refine G.seq fun K4 hK5 => ?_
 refine G.bind fun r6 hr7 => ?_
 refine G.bind fun r9 hr10 => ?_
 refine G.bind fun r12 hr13 => ?_
 refine G.draw [] Try_mixed 9 rfl rfl (fun B1 => ?_)
 refine GH.take 0 rfl rfl (by kernel_rfl) (by kernel_rfl) (by kernel_rfl) (V.load_cellN (i := 0) (ds := (lf_T_Program b0)) (c1 := (lf_T_Program b0)) rfl rfl Try.isAgg29 Try.sizeOf29 rfl rfl rfl) (fun _ _ _ _ h => h) ?_
 refine GH.take 2 rfl rfl (by kernel_rfl) (by kernel_rfl) (by kernel_rfl) (V.load_cellN (i := 0) (ds := (lf_T_Program b0)) (c1 := (lf_T_Program b0)) rfl rfl Try.isAgg29 Try.sizeOf29 rfl rfl rfl) (fun _ _ _ _ h => h) ?_
 refine GH.take 4 rfl rfl (by kernel_rfl) (by kernel_rfl) (by kernel_rfl) (V.load_cellN (i := 0) (ds := (lf_T_Program b0)) (c1 := (lf_T_Program b0)) rfl rfl Try.isAgg29 Try.sizeOf29 rfl rfl rfl) (fun _ _ _ _ h => h) ?_
 refine GH.all [1] (by kernel_rfl) (by decide) ?_
 refine (all_cons ?_ (List.forall_mem_nil _))
 ·refine GH.loud rfl rfl (O.call (xs := [.tmp 5]) (is := []) (Rp := []) (Rr := []) (roadref2_makersOf_ok hr7) (.cons (.of rfl) .nil) Try.call23 rfl) fun x21 => ?_
  refine GH.all [3] (by kernel_rfl) (by decide) ?_
  refine (all_cons ?_ (List.forall_mem_nil _))
  ·refine GH.loud rfl rfl (O.call (xs := [.tmp 7]) (is := []) (Rp := []) (Rr := [.row x21 9 1 (r6.map eS)]) (roadref2_callsOf_ok hr10) (.cons (.of rfl) .nil) Try.call24 rfl) fun x24 => ?_
   refine GH.all [5] (by kernel_rfl) (by decide) ?_
   refine (all_cons ?_ (List.forall_mem_nil _))
   ·refine GH.loud rfl rfl (O.call (xs := [.tmp 9]) (is := []) (Rp := []) (Rr := [.row x24 9 1 (r9.map eS), .row x21 9 1 (r6.map eS)]) (roadref2_actorsOf_ok hr13) (.cons (.of rfl) .nil) Try.call25 rfl) fun x27 => ?_
    refine GH.takep 6 rfl rfl (by kernel_rfl) (by kernel_rfl) (by kernel_rfl) (V.assign rfl) (fun _ _ _ _ h => h) ?_
    refine GH.takep 7 rfl rfl (by kernel_rfl) (by kernel_rfl) (by kernel_rfl) (V.assign rfl) (fun _ _ _ _ h => h) ?_
    refine GH.takep 8 rfl rfl (by kernel_rfl) (by kernel_rfl) (by kernel_rfl) (V.assign rfl) (fun _ _ _ _ h => h) ?_
    refine GH.done (is := [2, 3, 4]) (js := [0, 0, 0]) (L' := [(2, .val x21), (3, .val x24), (4, .val x27)]) (R' := [.row x27 9 1 (r12.map eS), .row x24 9 1 (r9.map eS), .row x21 9 1 (r6.map eS)]) (by kernel_rfl) rfl rfl ?_
    refine G.next_ hK5 ?_
    refine G.ret ?_
    refine G.fin_ fun hF28 => ?_
    obtain rfl := Option.some.inj hF28
    exact G.ret3 Try.results7 (x21, x24, x27) (is := [2, 1, 0]) rfl (.of rfl) (.of rfl) (.of rfl) rfl
/-! slices.Equal[[]string,string] -/
def slices_Equal_string_string.l1 (b1 : List Str) : List (Str) → Nat → Option (Bool ⊕ (Unit))
  | [], i18 => some (.inr ())
  | y19 :: rest20, i18 => (nth b1 (i18 : Int)).bind fun y39 => (if (y19 != y39) = true then some (.inl false) else slices_Equal_string_string.l1 b1 rest20 (i18 + 1))

theorem slices_Equal_string_string.l1_nil (b1 : List Str) {i18 : Nat} : slices_Equal_string_string.l1 b1 [] i18 = some (.inr ()) := rfl
theorem slices_Equal_string_string.l1_cons (b1 : List Str) {y19 : Str} {rest20 : List (Str)} {i18 : Nat} : slices_Equal_string_string.l1 b1 (y19 :: rest20) i18 = (nth b1 (i18 : Int)).bind fun y39 => (if (y19 != y39) = true then some (.inl false) else slices_Equal_string_string.l1 b1 rest20 (i18 + 1)) := rfl
def slices_Equal_string_string.Spec (F : (List Str) → (List Str) → Option (Bool)) : Prop := ∀ {b0 : List Str} {b1 : List Str} {out : Bool}, F b0 b1 = some out → Ct Gl Try.prog 8 [eL eS 1 b0, eL eS 1 b1] [] (fun x : Unit => .val (.bool out)) (fun x : Unit => [])
def slices_Equal_string_string (b0 : List Str) (b1 : List Str) : Option (Bool) := (if ((b0.length : Int) != (b1.length : Int)) = true then some false else (slices_Equal_string_string.l1 b1 b0 0).bind (retOr fun b49 => some true))
set_option maxRecDepth 100000 in
theorem slices_Equal_string_string_ok : slices_Equal_string_string.Spec (slices_Equal_string_string) := by
 intro b0 b1 out hp
 refine ct_of_G (nt := 26) Try.func8 rfl Try.ntmps8 rfl (fun B => ?_) hp
 unfold slices_Equal_string_string
 refine G.seq fun K1 hK2 => ?_
 refine G.region ?_
 refine G.p rfl (V.assign rfl) ?_
 refine G.nil ?_
 refine G.norm (L' := [(0, eL eS 1 b0), (1, eL eS 1 b1)]) (is := [0, 1]) (R' := []) (js := []) rfl rfl ?_
 refine G.next_ hK2 ?_
 refine G.seq fun K3 hK4 => ?_
 refine G.seq fun K5 hK6 => ?_
 refine G.region ?_
 refine G.p rfl (V.move rfl) ?_
 refine G.lenb (enc := eS) (xs := b0) (sz := 1) (x := .tmp 6) (.of rfl) fun hN7 => ?_
 refine G.p rfl (V.len_sl (enc := eS) (xs := b0) (sz := 1) (.of rfl) Try.runUnderlying30) ?_
 refine G.p rfl (V.move rfl) ?_
 refine G.lenb (enc := eS) (xs := b1) (sz := 1) (x := .tmp 8) (.of rfl) fun hN8 => ?_
 refine G.p rfl (V.len_sl (enc := eS) (xs := b1) (sz := 1) (.of rfl) Try.runUnderlying30) ?_
 refine G.p rfl (V.bin (u := .int .i64 (b0.length : Int)) (v := .int .i64 (b1.length : Int)) (r := .bool ((b0.length : Int) != (b1.length : Int))) rfl rfl b_neq) ?_
 refine G.nil ?_
 refine G.norm (L' := [(0, eL eS 1 b0), (1, eL eS 1 b1), (10, .val (.bool ((b0.length : Int) != (b1.length : Int))))]) (is := [0, 1, 10]) (R' := []) (js := []) rfl rfl ?_
 refine G.next_ hK6 ?_
 refine G.cond (b := ((b0.length : Int) != (b1.length : Int))) rfl (fun hc9 => ?_) (fun hc9 => ?_)
 ·refine G.norm (L' := []) (is := []) (R' := []) (js := []) rfl rfl ?_
  refine G.seq fun K10 hK11 => ?_
  refine G.region ?_
  refine G.p rfl (V.assign rfl) ?_
  refine G.nil ?_
  refine G.norm (L' := [(4, .val (.bool false))]) (is := [4]) (R' := []) (js := []) rfl rfl ?_
  refine G.next_ hK11 ?_
  refine G.ret ?_
  refine G.thn_ret ?_
  refine G.fin_ fun hF12 => ?_
  obtain rfl := Option.some.inj hF12
  exact G.ret1 Try.results8 () (is := []) (.of rfl) rfl
 ·refine G.norm (L' := [(0, eL eS 1 b0), (1, eL eS 1 b1)]) (is := [0, 1]) (R' := []) (js := []) rfl rfl ?_
  refine G.skip ?_
  refine G.next_ hK4 ?_
  refine G.seq fun K13 hK14 => ?_
  refine G.seq fun K15 hK16 => ?_
  refine G.region ?_
  refine G.p rfl (V.move rfl) ?_
  refine G.lenb (enc := eS) (xs := b0) (sz := 1) (x := .tmp 11) (.of rfl) fun hN17 => ?_
  refine G.p rfl (V.len_sl (enc := eS) (xs := b0) (sz := 1) (.of rfl) Try.runUnderlying30) ?_
  refine G.p rfl (V.move rfl) ?_
  refine G.nil ?_
  refine G.norm (L' := [(0, eL eS 1 b0), (1, eL eS 1 b1), (12, .val (.int .i64 (b0.length : Int))), (13, .val (.int .i64 0))]) (is := [0, 1, 12, 13]) (R' := []) (js := []) rfl rfl ?_
  refine G.next_ hK16 ?_
  refine G.join (E := fun o a w => ∃ b, o = .inr b ∧ Ass Gl B 26 [] [] a w) ?_ ?_
  ·intro b hF23
   refine G.block ?_
   refine G.norm (L' := [(0, eL eS 1 b0), (1, eL eS 1 b1), (12, .val (.int .i64 (b0.length : Int))), (13, .val (.int .i64 ((0 : Nat) : Int)))]) (is := [0, 1, 12, 13]) (R' := []) (js := []) rfl rfl ?_
   refine G.loop (fun kq a w => ∃ (rest20 : List (Str)) (i18 : Nat), kq = rest20.length ∧ slices_Equal_string_string.l1 b1 rest20 i18 = some b ∧ b0.drop i18 = rest20 ∧ Ass Gl B 26 [(0, eL eS 1 b0), (1, eL eS 1 b1), (12, .val (.int .i64 (b0.length : Int))), (13, .val (.int .i64 (i18 : Int)))] [] a w) (b0.length) ?_ ?_
   ·intro hl48 a w hA
    exact ⟨b0, 0, rfl, hl48, rfl, hA⟩
   ·rintro _ a w ⟨rest20, i18, rfl, hl24, hd21, hA⟩
    rcases rest20 with _ | ⟨y19, rest20⟩
    ·rw [slices_Equal_string_string.l1_nil] at hl24
     refine G.use hl24 hA ?_
     refine G.seq fun K25 hK26 => ?_
     refine G.region ?_
     refine G.p rfl (V.bin (u := .int .i64 (i18 : Int)) (v := .int .i64 (b0.length : Int)) (r := .bool (decide ((i18 : Int) < (b0.length : Int)))) rfl rfl b_lss) ?_
     refine G.nil ?_
     refine G.norm (L' := [(0, eL eS 1 b0), (1, eL eS 1 b1), (12, .val (.int .i64 (b0.length : Int))), (13, .val (.int .i64 (i18 : Int))), (14, .val (.bool (decide ((i18 : Int) < (b0.length : Int)))))]) (is := [0, 1, 12, 13, 14]) (R' := []) (js := []) rfl rfl ?_
     refine G.next_ hK26 ?_
     refine G.seq fun K27 hK28 => ?_
     refine G.no rfl (rng_end hd21) ?_
     refine G.exit ?_
     refine G.thn_exit ?_
     refine G.thn_exit ?_
     refine G.inB_eq ?_
     refine G.norm (L' := []) (is := []) (R' := []) (js := []) rfl rfl ?_
     exact G.finE fun hb a w hA => by subst hb; exact ⟨_, rfl, hA⟩
    ·rw [slices_Equal_string_string.l1_cons] at hl24
     refine G.use hl24 hA ?_
     refine G.seq fun K29 hK30 => ?_
     refine G.region ?_
     refine G.p rfl (V.bin (u := .int .i64 (i18 : Int)) (v := .int .i64 (b0.length : Int)) (r := .bool (decide ((i18 : Int) < (b0.length : Int)))) rfl rfl b_lss) ?_
     refine G.nil ?_
     refine G.norm (L' := [(0, eL eS 1 b0), (1, eL eS 1 b1), (12, .val (.int .i64 (b0.length : Int))), (13, .val (.int .i64 (i18 : Int))), (14, .val (.bool (decide ((i18 : Int) < (b0.length : Int)))))]) (is := [0, 1, 12, 13, 14]) (R' := []) (js := []) rfl rfl ?_
     refine G.next_ hK30 ?_
     refine G.seq fun K31 hK32 => ?_
     refine G.yes rfl (rng_more hd21) ?_
     refine G.skip ?_
     refine G.next_ hK32 ?_
     refine G.seq fun K33 hK34 => ?_
     refine G.block ?_
     refine G.seq fun K35 hK36 => ?_
     refine G.region ?_
     refine G.p rfl (V.move rfl) ?_
     refine G.p rfl (V.assign rfl) ?_
     refine G.nil ?_
     refine G.norm (L' := [(0, eL eS 1 b0), (1, eL eS 1 b1), (5, .val (.int .i64 (i18 : Int))), (12, .val (.int .i64 (b0.length : Int))), (13, .val (.int .i64 (i18 : Int)))]) (is := [0, 1, 5, 12, 13]) (R' := []) (js := []) rfl rfl ?_
     refine G.next_ hK36 ?_
     refine G.seq fun K37 hK38 => ?_
     refine G.bind fun y39 hy40 => ?_
     refine G.draw [] Try_mixed 9 rfl rfl (fun B1 => ?_)
     refine GH.take 0 rfl rfl (by kernel_rfl) (by kernel_rfl) (by kernel_rfl) (Qp.qv (V.move rfl)) (fun _ _ _ _ h => h) ?_
     refine GH.take 1 rfl rfl (by kernel_rfl) (by kernel_rfl) (by kernel_rfl) (Qp.qv (V.move rfl)) (fun _ _ _ _ h => h) ?_
     refine GH.take 2 rfl rfl (by kernel_rfl) (by kernel_rfl) (by kernel_rfl) (Qp.qv (V.at_sl (k := i18) rfl rfl Try.runUnderlying30 Try.sizeOf9 (map_at (rng_at hd21)))) (fun _ _ _ _ h => h) ?_
     refine GH.take 3 rfl rfl (by kernel_rfl) (by kernel_rfl) (by kernel_rfl) (V.load_ptr (d := .val (bs y19)) rfl Try.isAgg9 rfl) (fun _ _ _ _ h => h) ?_
     refine GH.take 4 rfl rfl (by kernel_rfl) (by kernel_rfl) (by kernel_rfl) (Qp.qv (V.move rfl)) (fun _ _ _ _ h => h) ?_
     refine GH.take 5 rfl rfl (by kernel_rfl) (by kernel_rfl) (by kernel_rfl) (Qp.qv (V.move rfl)) (fun _ _ _ _ h => h) ?_
     refine GH.take 6 rfl rfl (by kernel_rfl) (by kernel_rfl) (by kernel_rfl) (Qp.qv (V.nth_sl (enc := eS) (xs := b1) (i := (i18 : Int)) rfl rfl Try.runUnderlying30 Try.sizeOf9 hy40)) (fun _ _ _ _ h => h) ?_
     refine GH.take 7 rfl rfl (by kernel_rfl) (by kernel_rfl) (by kernel_rfl) (V.load_ptr (d := .val (bs y39)) rfl Try.isAgg9 rfl) (fun _ _ _ _ h => h) ?_
     refine GH.take 8 rfl rfl (by kernel_rfl) (by kernel_rfl) (by kernel_rfl) (Qp.qv (V.bin (u := bs y19) (v := bs y39) (r := .bool (y19 != y39)) rfl rfl b_sneq)) (fun _ _ _ _ h => h) ?_
     refine GH.done (is := [0, 1, 12, 13, 24]) (js := []) (L' := [(0, eL eS 1 b0), (1, eL eS 1 b1), (12, .val (.int .i64 (b0.length : Int))), (13, .val (.int .i64 (i18 : Int))), (24, .val (.bool (y19 != y39)))]) (R' := []) (by kernel_rfl) rfl rfl ?_
     refine G.next_ hK38 ?_
     refine G.cond (b := (y19 != y39)) rfl (fun hc41 => ?_) (fun hc41 => ?_)
     ·refine G.norm (L' := []) (is := []) (R' := []) (js := []) rfl rfl ?_
      refine G.seq fun K42 hK43 => ?_
      refine G.region ?_
      refine G.p rfl (V.assign rfl) ?_
      refine G.nil ?_
      refine G.norm (L' := [(4, .val (.bool false))]) (is := [4]) (R' := []) (js := []) rfl rfl ?_
      refine G.next_ hK43 ?_
      refine G.ret ?_
      refine G.inB_ret ?_
      refine G.thn_ret ?_
      refine G.thn_ret ?_
      refine G.inB_ret ?_
      refine G.thn_ret ?_
      refine G.thn_ret ?_
      refine G.fin_ fun hF44 => ?_
      have hb45 := Option.some.inj hF44
      subst hb45
      have hF46 : (some false : Option (Bool)) = some _ := hF23
      obtain rfl := Option.some.inj hF46
      exact G.ret1 Try.results8 () (is := []) (.of rfl) rfl
     ·refine G.norm (L' := [(0, eL eS 1 b0), (1, eL eS 1 b1), (12, .val (.int .i64 (b0.length : Int))), (13, .val (.int .i64 (i18 : Int)))]) (is := [0, 1, 12, 13]) (R' := []) (js := []) rfl rfl ?_
      refine G.skip ?_
      refine G.inB ?_
      refine G.next_ hK34 ?_
      refine G.region ?_
      refine G.p rfl (V.incr (i := i18) (N := b0.length) rfl rfl (rng_lt hd21) (hN17)) ?_
      refine G.p rfl (V.move rfl) ?_
      refine G.nil ?_
      refine G.norm (L' := [(0, eL eS 1 b0), (1, eL eS 1 b1), (12, .val (.int .i64 (b0.length : Int))), (13, .val (.int .i64 ((i18 + 1 : Nat) : Int)))]) (is := [0, 1, 12, 13]) (R' := []) (js := []) rfl rfl ?_
      refine G.again ?_
      intro hl47 a w hA
      exact ⟨_, Nat.lt_succ_self _, rest20, i18 + 1, rfl, hl47, rng_next hd21, hA⟩
  ·rintro _ hb a w ⟨b49, rfl, hA⟩ hF50
   refine G.use hF50 hA ?_
   refine G.inr ?_
   refine G.next_ hK14 ?_
   refine G.seq fun K51 hK52 => ?_
   refine G.region ?_
   refine G.p rfl (V.assign rfl) ?_
   refine G.nil ?_
   refine G.norm (L' := [(4, .val (.bool true))]) (is := [4]) (R' := []) (js := []) rfl rfl ?_
   refine G.next_ hK52 ?_
   refine G.ret ?_
   refine G.fin_ fun hF53 => ?_
   obtain rfl := Option.some.inj hF53
   exact G.ret1 Try.results8 () (is := []) (.of rfl) rfl
/-! roadstead/scope.Expr -/
def scope_Expr.Spec (F : T_Program → (List Str) → T_Expr → Option (Int × Int)) : Prop := ∀ {b0 : T_Program} {b1 : List Str} {b2 : T_Expr} {out : Int × Int}, F b0 b1 b2 = some out → Ct Gl Try.prog 13 [.agg (lf_T_Program b0), eL eS 1 b1, .agg (lf_T_Expr b2)] [] (fun x : Unit => .tup [.val (.int .i64 out.1), .val (.int .i64 out.2)]) (fun x : Unit => [])
def scope_Expr (k : Nat) (b0 : T_Program) (b1 : List Str) (b2 : T_Expr) : Option (Int × Int) := (scope_newResolver b0).bind fun r7 => (scope_resolver_expr k r7.1 r7.2.1 r7.2.2 b1 b2).bind fun r10 => (scope_told r10.1 r10.2.1).bind fun r13 => some (r13.1, r13.2)
set_option maxRecDepth 100000 in
theorem scope_Expr_ok (k : Nat) : scope_Expr.Spec (scope_Expr k) := by
 intro b0 b1 b2 out hp
 refine ct_of_G (nt := 18) Try.func13 rfl Try.ntmps13 rfl (fun B => ?_) hp
 unfold scope_Expr
 refine G.seq fun K1 hK2 => ?_
 refine G.region ?_
 refine G.op rfl (O.box (.of rfl) (OneC.agg (List.forall_mem_cons.2 ⟨(.val rfl), (List.forall_mem_cons.2 ⟨(.val rfl), (List.forall_mem_cons.2 ⟨.sl, (List.forall_mem_cons.2 ⟨.sl, (List.forall_mem_cons.2 ⟨.sl, (List.forall_mem_cons.2 ⟨.sl, (List.forall_mem_cons.2 ⟨.sl, (List.forall_mem_cons.2 ⟨.sl, (List.forall_mem_nil _)⟩)⟩)⟩)⟩)⟩)⟩)⟩)⟩))) fun g3 => ?_
 refine G.op rfl (O.box (.of rfl) (OneC.agg (List.forall_mem_cons.2 ⟨(.val rfl), (List.forall_mem_cons.2 ⟨(.val rfl), (List.forall_mem_cons.2 ⟨(.val rfl), (List.forall_mem_cons.2 ⟨.sl, (List.forall_mem_cons.2 ⟨.sl, (List.forall_mem_cons.2 ⟨.sl, (List.forall_mem_cons.2 ⟨.sl, (List.forall_mem_cons.2 ⟨(.val rfl), (List.forall_mem_nil _)⟩)⟩)⟩)⟩)⟩)⟩)⟩)⟩))) fun g4 => ?_
 refine G.p rfl (V.assign rfl) ?_
 refine G.p rfl (V.assign rfl) ?_
 refine G.nil ?_
 refine G.norm (L' := [(1, eL eS 1 b1), (3, .val (.pointer (some ⟨g3, 0, none⟩))), (5, .val (.pointer (some ⟨g4, 0, none⟩)))]) (is := [1, 3, 5]) (R' := [.cells g4 47 (lf_T_Expr b2), .cells g3 29 (lf_T_Program b0)]) (js := [0, 0]) rfl rfl ?_
 refine G.next_ hK2 ?_
 refine G.seq fun K5 hK6 => ?_
 refine G.bind fun r7 hr8 => ?_
 refine G.bind fun r10 hr11 => ?_
 refine G.bind fun r13 hr14 => ?_
 refine G.draw [] Try_mixed 12 rfl rfl (fun B1 => ?_)
 refine GH.take 0 rfl rfl (by kernel_rfl) (by kernel_rfl) (by kernel_rfl) (V.load_cellN (i := 1) (ds := (lf_T_Program b0)) (c1 := (lf_T_Program b0)) rfl rfl Try.isAgg29 Try.sizeOf29 rfl rfl rfl) (fun _ _ _ _ h => h) ?_
 refine GH.take 2 rfl rfl (by kernel_rfl) (by kernel_rfl) (by kernel_rfl) (Qp.qv (V.move rfl)) (fun _ _ _ _ h => h) ?_
 refine GH.take 3 rfl rfl (by kernel_rfl) (by kernel_rfl) (by kernel_rfl) (V.load_cellN (i := 0) (ds := (lf_T_Expr b2)) (c1 := (lf_T_Expr b2)) rfl rfl Try.isAgg47 Try.sizeOf47 rfl rfl rfl) (fun _ _ _ _ h => h) ?_
 refine GH.all [1] (by kernel_rfl) (by decide) ?_
 refine (all_cons ?_ (List.forall_mem_nil _))
 ·refine GH.loud rfl rfl (O.call (xs := [.tmp 8]) (is := []) (Rp := []) (Rr := []) (scope_newResolver_ok hr8) (.cons (.of rfl) .nil) Try.call19 rfl) fun x22 => ?_
  refine GH.lift Ind.val ?_
  refine GH.all [4] (by kernel_rfl) (by decide) ?_
  refine (all_cons ?_ (List.forall_mem_nil _))
  ·refine GH.loud rfl rfl (O.call (xs := [.tmp 9, .tmp 10, .tmp 11]) (is := [0, 0, 0, 0]) (Rp := [.cells x22.1 90 [.val (.map (some x22.2.1)), .val (.map (some x22.2.2.1)), .val (.map (some x22.2.2.2)), .val (.map none)], .map x22.2.1 (encM bs eB r7.1), .map x22.2.2.1 (encM bs eB r7.2.1), .map x22.2.2.2 (encM bs eB r7.2.2)]) (Rr := []) (scope_resolver_expr_ok k hr11) (.cons (.of rfl) (.cons (.of rfl) (.cons (.of rfl) .nil))) Try.call20 rfl) fun x23 => ?_
   refine GH.takep 5 rfl rfl (by kernel_rfl) (by kernel_rfl) (by kernel_rfl) (V.extract (ds := [.val (.int .i64 r10.1), .val (.bool r10.2.1)]) (d := .val (.int .i64 r10.1)) rfl rfl) (fun _ _ _ _ h => h) ?_
   refine GH.lift Ind.val ?_
   refine GH.takep 6 rfl rfl (by kernel_rfl) (by kernel_rfl) (by kernel_rfl) (V.extract (ds := [.val (.int .i64 r10.1), .val (.bool r10.2.1)]) (d := .val (.bool r10.2.1)) rfl rfl) (fun _ _ _ _ h => h) ?_
   refine GH.lift Ind.val ?_
   refine GH.all [7] (by kernel_rfl) (by decide) ?_
   refine (all_cons ?_ (List.forall_mem_nil _))
   ·refine GH.loud rfl rfl (O.call (xs := [.tmp 13, .tmp 14]) (is := []) (Rp := []) (Rr := [.cells x22.1 90 [.val (.map (some x22.2.1)), .val (.map (some x22.2.2.1)), .val (.map (some x22.2.2.2)), .val (.map (some x23))], .map x22.2.1 (encM bs eB r7.1), .map x22.2.2.1 (encM bs eB r7.2.1), .map x22.2.2.2 (encM bs eB r7.2.2), .map x23 (encM bs (eI .i64) r10.2.2)]) (scope_told_ok hr14) (.cons (.of rfl) (.cons (.of rfl) .nil)) Try.call21 rfl) fun x26 => ?_
    refine GH.takep 8 rfl rfl (by kernel_rfl) (by kernel_rfl) (by kernel_rfl) (V.extract (ds := [.val (.int .i64 r13.1), .val (.int .i64 r13.2)]) (d := .val (.int .i64 r13.1)) rfl rfl) (fun _ _ _ _ h => h) ?_
    refine GH.lift Ind.val ?_
    refine GH.takep 9 rfl rfl (by kernel_rfl) (by kernel_rfl) (by kernel_rfl) (V.extract (ds := [.val (.int .i64 r13.1), .val (.int .i64 r13.2)]) (d := .val (.int .i64 r13.2)) rfl rfl) (fun _ _ _ _ h => h) ?_
    refine GH.lift Ind.val ?_
    refine GH.take 10 rfl rfl (by kernel_rfl) (by kernel_rfl) (by kernel_rfl) (Qp.qv (V.assign rfl)) (fun _ _ _ _ h => h) ?_
    refine GH.take 11 rfl rfl (by kernel_rfl) (by kernel_rfl) (by kernel_rfl) (Qp.qv (V.assign rfl)) (fun _ _ _ _ h => h) ?_
    refine GH.done (is := [6, 7]) (js := []) (L' := [(6, .val (.int .i64 r13.1)), (7, .val (.int .i64 r13.2))]) (R' := []) (by kernel_rfl) rfl rfl ?_
    refine G.next_ hK6 ?_
    refine G.ret ?_
    refine G.fin_ fun hF27 => ?_
    obtain rfl := Option.some.inj hF27
    exact G.ret2 Try.results13 () (is := []) rfl (.of rfl) (.of rfl) rfl
/-! roadstead/roadref2.ScopeExpr -/
def roadref2_ScopeExpr.Spec (F : T_Program → (List Str) → T_Expr → Option (T_Wrong)) : Prop := ∀ {b0 : T_Program} {b1 : List Str} {b2 : T_Expr} {out : T_Wrong}, F b0 b1 b2 = some out → Ct Gl Try.prog 14 [.agg (lf_T_Program b0), eL eS 1 b1, .agg (lf_T_Expr b2)] [] (fun x : Unit => .agg [.val (.int .i64 out.fE), .val (.int .i64 out.fAt)]) (fun x : Unit => [])
def roadref2_ScopeExpr (k : Nat) (b0 : T_Program) (b1 : List Str) (b2 : T_Expr) : Option (T_Wrong) := (roadref2_scopeExpr k b0 b1 b2).bind fun r8 => some r8
set_option maxRecDepth 100000 in
theorem roadref2_ScopeExpr_ok (k : Nat) : roadref2_ScopeExpr.Spec (roadref2_ScopeExpr k) := by
 intro b0 b1 b2 out hp
 refine ct_of_G (nt := 11) Try.func14 rfl Try.ntmps14 rfl (fun B => ?_) hp
 unfold roadref2_ScopeExpr
 refine G.seq fun K1 hK2 => ?_
 refine G.region ?_
 refine G.op rfl (O.box (.of rfl) (OneC.agg (List.forall_mem_cons.2 ⟨(.val rfl), (List.forall_mem_cons.2 ⟨(.val rfl), (List.forall_mem_cons.2 ⟨.sl, (List.forall_mem_cons.2 ⟨.sl, (List.forall_mem_cons.2 ⟨.sl, (List.forall_mem_cons.2 ⟨.sl, (List.forall_mem_cons.2 ⟨.sl, (List.forall_mem_cons.2 ⟨.sl, (List.forall_mem_nil _)⟩)⟩)⟩)⟩)⟩)⟩)⟩)⟩))) fun g3 => ?_
 refine G.op rfl (O.box (.of rfl) (OneC.agg (List.forall_mem_cons.2 ⟨(.val rfl), (List.forall_mem_cons.2 ⟨(.val rfl), (List.forall_mem_cons.2 ⟨(.val rfl), (List.forall_mem_cons.2 ⟨.sl, (List.forall_mem_cons.2 ⟨.sl, (List.forall_mem_cons.2 ⟨.sl, (List.forall_mem_cons.2 ⟨.sl, (List.forall_mem_cons.2 ⟨(.val rfl), (List.forall_mem_nil _)⟩)⟩)⟩)⟩)⟩)⟩)⟩)⟩))) fun g4 => ?_
 refine G.op rfl (O.alloc (ds := [.val (.int .i64 0), .val (.int .i64 0)]) Try.zeroValue36 rfl) fun g5 => ?_
 refine G.nil ?_
 refine G.norm (L' := [(1, eL eS 1 b1), (3, .val (.pointer (some ⟨g3, 0, none⟩))), (5, .val (.pointer (some ⟨g4, 0, none⟩))), (6, .val (.pointer (some ⟨g5, 0, none⟩)))]) (is := [1, 3, 5, 6]) (R' := [.cells g5 36 [.val (.int .i64 0), .val (.int .i64 0)], .cells g4 47 (lf_T_Expr b2), .cells g3 29 (lf_T_Program b0)]) (js := [0, 0, 0]) rfl rfl ?_
 refine G.next_ hK2 ?_
 refine G.seq fun K6 hK7 => ?_
 refine G.region ?_
 refine G.q rfl (V.load_cellN (i := 2) (ds := (lf_T_Program b0)) (c1 := (lf_T_Program b0)) rfl rfl Try.isAgg29 Try.sizeOf29 rfl rfl rfl) ?_
 refine G.p rfl (V.move rfl) ?_
 refine G.q rfl (V.load_cellN (i := 1) (ds := (lf_T_Expr b2)) (c1 := (lf_T_Expr b2)) rfl rfl Try.isAgg47 Try.sizeOf47 rfl rfl rfl) ?_
 refine G.bind fun r8 hr9 => ?_
 refine G.op rfl (O.call (xs := [.tmp 7, .tmp 8, .tmp 9]) (is := []) (Rp := []) (Rr := [.cells g5 36 [.val (.int .i64 0), .val (.int .i64 0)], .cells g4 47 (lf_T_Expr b2), .cells g3 29 (lf_T_Program b0)]) (roadref2_scopeExpr_ok k hr9) (.cons (.of rfl) (.cons (.of rfl) (.cons (.of rfl) .nil))) Try.call27 rfl) fun x10 => ?_
 refine G.opn (O.store (i := 0) (o := 0) (ds := [.val (.int .i64 0), .val (.int .i64 0)]) rfl (.of rfl) rfl (OneC.agg (List.forall_mem_cons.2 ⟨(.val rfl), (List.forall_mem_cons.2 ⟨(.val rfl), (List.forall_mem_nil _)⟩)⟩)) Try.sizeOf36 rfl rfl) fun _ => ?_
 refine G.nil ?_
 refine G.norm (L' := [(6, .val (.pointer (some ⟨g5, 0, none⟩)))]) (is := [6]) (R' := [.cells g5 36 [.val (.int .i64 r8.fE), .val (.int .i64 r8.fAt)]]) (js := [0]) rfl rfl ?_
 refine G.next_ hK7 ?_
 refine G.ret ?_
 refine G.fin_ fun hF11 => ?_
 obtain rfl := Option.some.inj hF11
 exact G.retc (i := 0) (ds := [.val (.int .i64 r8.fE), .val (.int .i64 r8.fAt)]) Try.results14 () (is := []) rfl rfl Try.isAgg36 Try.sizeOf36 rfl rfl rfl
/-! roadstead/roadlaw2.ScopeSays -/
def roadlaw2_ScopeSays.l1 (b0 : T_Program) (b1 : List Str) (k : Nat) : List (T_Expr) → Option (Bool ⊕ (Unit))
  | [] => some (.inr ())
  | y76 :: rest77 => (scope_Expr k b0 b1 y76).bind fun r97 => (roadref2_ScopeExpr k b0 b1 y76).bind fun r102 => (if ((r97.1 != r102.fE) || (r97.2 != r102.fAt)) = true then some (.inl false) else roadlaw2_ScopeSays.l1 b0 b1 k rest77)

theorem roadlaw2_ScopeSays.l1_nil (b0 : T_Program) (b1 : List Str) (k : Nat)  : roadlaw2_ScopeSays.l1 b0 b1 k []  = some (.inr ()) := rfl
theorem roadlaw2_ScopeSays.l1_cons (b0 : T_Program) (b1 : List Str) (k : Nat) {y76 : T_Expr} {rest77 : List (T_Expr)} : roadlaw2_ScopeSays.l1 b0 b1 k (y76 :: rest77)  = (scope_Expr k b0 b1 y76).bind fun r97 => (roadref2_ScopeExpr k b0 b1 y76).bind fun r102 => (if ((r97.1 != r102.fE) || (r97.2 != r102.fAt)) = true then some (.inl false) else roadlaw2_ScopeSays.l1 b0 b1 k rest77) := rfl
def roadlaw2_ScopeSays.l2 (b1 : List Str) : List (Str) → Nat → Bool → Option (Bool)
  | [], i127, x126 => some x126
  | y128 :: rest129, i127, x126 => (if x126 = true then some true else (sub b1 0 (i127 : Int)).bind fun l149 => (slices_Contains_string_string l149 y128).bind fun r151 => some r151).bind fun t147 => roadlaw2_ScopeSays.l2 b1 rest129 (i127 + 1) t147

theorem roadlaw2_ScopeSays.l2_nil (b1 : List Str) {i127 : Nat} {x126 : Bool} : roadlaw2_ScopeSays.l2 b1 [] i127 x126 = some x126 := rfl
theorem roadlaw2_ScopeSays.l2_cons (b1 : List Str) {y128 : Str} {rest129 : List (Str)} {i127 : Nat} {x126 : Bool} : roadlaw2_ScopeSays.l2 b1 (y128 :: rest129) i127 x126 = (if x126 = true then some true else (sub b1 0 (i127 : Int)).bind fun l149 => (slices_Contains_string_string l149 y128).bind fun r151 => some r151).bind fun t147 => roadlaw2_ScopeSays.l2 b1 rest129 (i127 + 1) t147 := rfl
def roadlaw2_ScopeSays.Spec (F : T_Program → (List Str) → Option (Bool)) : Prop := ∀ {b0 : T_Program} {b1 : List Str} {out : Bool}, F b0 b1 = some out → Ct Gl Try.prog 3 [.agg (lf_T_Program b0), eL eS 1 b1] [] (fun x : Unit => .val (.bool out)) (fun x : Unit => [])
def roadlaw2_ScopeSays (k : Nat) (b0 : T_Program) (b1 : List Str) : Option (Bool) := (roadlaw2_small k b0).bind fun r8 => (if (!r8) = true then some true else (scope_Program k b0).bind fun r17 => (roadref2_ScopeOf k b0).bind fun r22 => (roadref2_Lists b0).bind fun r28 => (if ((r17.1 != r22.fE) || (r17.2 != r22.fAt)) = true then some true else (scope_Makers b0).bind fun r39 => (slices_Equal_string_string r39 r28.1).bind fun r42 => some (!r42)).bind fun t37 => (if t37 = true then some true else (scope_Callable b0).bind fun r48 => (slices_Equal_string_string r48 r28.2.1).bind fun r51 => some (!r51)).bind fun t46 => (if t46 = true then some true else (scope_Actors b0).bind fun r57 => (slices_Equal_string_string r57 r28.2.2).bind fun r60 => some (!r60)).bind fun t55 => (if t55 = true then some false else (roadref2_BodiesOf b0).bind fun r71 => (roadlaw2_ScopeSays.l1 b0 b1 k r71).bind (retOr fun b117 => (roadlaw2_ScopeSays.l2 b1 b1 0 false).bind fun b156 => (scope_Twice b1).bind fun r160 => (if (r160 == b156) = true then (scope_Twice ([([97] : Str), ([97] : Str)] : List Str)).bind fun r167 => some r167 else some false).bind fun t164 => some t164)))
set_option maxRecDepth 100000 in
theorem roadlaw2_ScopeSays_ok (k : Nat) : roadlaw2_ScopeSays.Spec (roadlaw2_ScopeSays k) := by
 intro b0 b1 out hp
 refine ct_of_G (nt := 119) Try.func3 rfl Try.ntmps3 rfl (fun B => ?_) hp
 unfold roadlaw2_ScopeSays
 refine G.seq fun K1 hK2 => ?_
 refine G.region ?_
 refine G.op rfl (O.box (.of rfl) (OneC.agg (List.forall_mem_cons.2 ⟨(.val rfl), (List.forall_mem_cons.2 ⟨(.val rfl), (List.forall_mem_cons.2 ⟨.sl, (List.forall_mem_cons.2 ⟨.sl, (List.forall_mem_cons.2 ⟨.sl, (List.forall_mem_cons.2 ⟨.sl, (List.forall_mem_cons.2 ⟨.sl, (List.forall_mem_cons.2 ⟨.sl, (List.forall_mem_nil _)⟩)⟩)⟩)⟩)⟩)⟩)⟩)⟩))) fun g3 => ?_
 refine G.p rfl (V.assign rfl) ?_
 refine G.nil ?_
 refine G.norm (L' := [(1, eL eS 1 b1), (2, .val (.pointer (some ⟨g3, 0, none⟩)))]) (is := [1, 2]) (R' := [.cells g3 29 (lf_T_Program b0)]) (js := [0]) rfl rfl ?_
 refine G.next_ hK2 ?_
 refine G.seq fun K4 hK5 => ?_
 refine G.seq fun K6 hK7 => ?_
 refine G.region ?_
 refine G.q rfl (V.load_cellN (i := 0) (ds := (lf_T_Program b0)) (c1 := (lf_T_Program b0)) rfl rfl Try.isAgg29 Try.sizeOf29 rfl rfl rfl) ?_
 refine G.bind fun r8 hr9 => ?_
 refine G.op rfl (O.call (xs := [.tmp 19]) (is := []) (Rp := []) (Rr := [.cells g3 29 (lf_T_Program b0)]) (roadlaw2_small_ok k hr9) (.cons (.of rfl) .nil) Try.call4 rfl) fun x10 => ?_
 refine G.p rfl (V.not (b := r8) rfl) ?_
 refine G.nil ?_
 refine G.norm (L' := [(1, eL eS 1 b1), (2, .val (.pointer (some ⟨g3, 0, none⟩))), (21, .val (.bool (!r8)))]) (is := [1, 2, 21]) (R' := [.cells g3 29 (lf_T_Program b0)]) (js := [0]) rfl rfl ?_
 refine G.next_ hK7 ?_
 refine G.cond (b := (!r8)) rfl (fun hc11 => ?_) (fun hc11 => ?_)
 ·refine G.norm (L' := []) (is := []) (R' := []) (js := []) rfl rfl ?_
  refine G.seq fun K12 hK13 => ?_
  refine G.region ?_
  refine G.p rfl (V.assign rfl) ?_
  refine G.nil ?_
  refine G.norm (L' := [(4, .val (.bool true))]) (is := [4]) (R' := []) (js := []) rfl rfl ?_
  refine G.next_ hK13 ?_
  refine G.ret ?_
  refine G.thn_ret ?_
  refine G.fin_ fun hF14 => ?_
  obtain rfl := Option.some.inj hF14
  exact G.ret1 Try.results3 () (is := []) (.of rfl) rfl
 ·refine G.norm (L' := [(1, eL eS 1 b1), (2, .val (.pointer (some ⟨g3, 0, none⟩)))]) (is := [1, 2]) (R' := [.cells g3 29 (lf_T_Program b0)]) (js := [0]) rfl rfl ?_
  refine G.skip ?_
  refine G.next_ hK5 ?_
  refine G.seq fun K15 hK16 => ?_
  refine G.region ?_
  refine G.q rfl (V.load_cellN (i := 0) (ds := (lf_T_Program b0)) (c1 := (lf_T_Program b0)) rfl rfl Try.isAgg29 Try.sizeOf29 rfl rfl rfl) ?_
  refine G.bind fun r17 hr18 => ?_
  refine G.op rfl (O.call (xs := [.tmp 23]) (is := []) (Rp := []) (Rr := [.cells g3 29 (lf_T_Program b0)]) (scope_Program_ok k hr18) (.cons (.of rfl) .nil) Try.call5 rfl) fun x19 => ?_
  refine G.p rfl (V.move rfl) ?_
  refine G.p rfl (V.extract (ds := [.val (.int .i64 r17.1), .val (.int .i64 r17.2)]) (d := .val (.int .i64 r17.1)) rfl rfl) ?_
  refine G.p rfl (V.extract (ds := [.val (.int .i64 r17.1), .val (.int .i64 r17.2)]) (d := .val (.int .i64 r17.2)) rfl rfl) ?_
  refine G.p rfl (V.assign rfl) ?_
  refine G.p rfl (V.assign rfl) ?_
  refine G.nil ?_
  refine G.norm (L' := [(1, eL eS 1 b1), (2, .val (.pointer (some ⟨g3, 0, none⟩))), (5, .val (.int .i64 r17.1)), (6, .val (.int .i64 r17.2))]) (is := [1, 2, 5, 6]) (R' := [.cells g3 29 (lf_T_Program b0)]) (js := [0]) rfl rfl ?_
  refine G.next_ hK16 ?_
  refine G.seq fun K20 hK21 => ?_
  refine G.region ?_
  refine G.q rfl (V.load_cellN (i := 0) (ds := (lf_T_Program b0)) (c1 := (lf_T_Program b0)) rfl rfl Try.isAgg29 Try.sizeOf29 rfl rfl rfl) ?_
  refine G.bind fun r22 hr23 => ?_
  refine G.op rfl (O.call (xs := [.tmp 27]) (is := []) (Rp := []) (Rr := [.cells g3 29 (lf_T_Program b0)]) (roadref2_ScopeOf_ok k hr23) (.cons (.of rfl) .nil) Try.call6 rfl) fun x24 => ?_
  refine G.op rfl (O.alloc (ds := [.val (.int .i64 0), .val (.int .i64 0)]) Try.zeroValue36 rfl) fun g25 => ?_
  refine G.opn (O.store (i := 0) (o := 0) (ds := [.val (.int .i64 0), .val (.int .i64 0)]) rfl (.of rfl) rfl (OneC.agg (List.forall_mem_cons.2 ⟨(.val rfl), (List.forall_mem_cons.2 ⟨(.val rfl), (List.forall_mem_nil _)⟩)⟩)) Try.sizeOf36 rfl rfl) fun _ => ?_
  refine G.nil ?_
  refine G.norm (L' := [(1, eL eS 1 b1), (2, .val (.pointer (some ⟨g3, 0, none⟩))), (5, .val (.int .i64 r17.1)), (6, .val (.int .i64 r17.2)), (7, .val (.pointer (some ⟨g25, 0, none⟩)))]) (is := [1, 2, 5, 6, 7]) (R' := [.cells g25 36 [.val (.int .i64 r22.fE), .val (.int .i64 r22.fAt)], .cells g3 29 (lf_T_Program b0)]) (js := [0, 0]) rfl rfl ?_
  refine G.next_ hK21 ?_
  refine G.seq fun K26 hK27 => ?_
  refine G.region ?_
  refine G.q rfl (V.load_cellN (i := 1) (ds := (lf_T_Program b0)) (c1 := (lf_T_Program b0)) rfl rfl Try.isAgg29 Try.sizeOf29 rfl rfl rfl) ?_
  refine G.bind fun r28 hr29 => ?_
  refine G.op rfl (O.call (xs := [.tmp 30]) (is := []) (Rp := []) (Rr := [.cells g25 36 [.val (.int .i64 r22.fE), .val (.int .i64 r22.fAt)], .cells g3 29 (lf_T_Program b0)]) (roadref2_Lists_ok hr29) (.cons (.of rfl) .nil) Try.call7 rfl) fun x30 => ?_
  refine G.p rfl (V.move rfl) ?_
  refine G.p rfl (V.extract (ds := [.val x30.1, .val x30.2.1, .val x30.2.2]) (d := .val x30.1) rfl rfl) ?_
  refine G.p rfl (V.extract (ds := [.val x30.1, .val x30.2.1, .val x30.2.2]) (d := .val x30.2.1) rfl rfl) ?_
  refine G.p rfl (V.extract (ds := [.val x30.1, .val x30.2.1, .val x30.2.2]) (d := .val x30.2.2) rfl rfl) ?_
  refine G.p rfl (V.assign rfl) ?_
  refine G.p rfl (V.assign rfl) ?_
  refine G.p rfl (V.assign rfl) ?_
  refine G.nil ?_
  refine G.norm (L' := [(1, eL eS 1 b1), (2, .val (.pointer (some ⟨g3, 0, none⟩))), (5, .val (.int .i64 r17.1)), (6, .val (.int .i64 r17.2)), (7, .val (.pointer (some ⟨g25, 0, none⟩))), (8, .val x30.1), (9, .val x30.2.1), (10, .val x30.2.2)]) (is := [1, 2, 5, 6, 7, 8, 9, 10]) (R' := [.row x30.1 9 1 (r28.1.map eS), .row x30.2.1 9 1 (r28.2.1.map eS), .row x30.2.2 9 1 (r28.2.2.map eS), .cells g25 36 [.val (.int .i64 r22.fE), .val (.int .i64 r22.fAt)], .cells g3 29 (lf_T_Program b0)]) (js := [0, 0, 0, 0, 0]) rfl rfl ?_
  refine G.next_ hK27 ?_
  refine G.seq fun K31 hK32 => ?_
  refine G.seq fun K33 hK34 => ?_
  refine G.region ?_
  refine G.p rfl (V.move rfl) ?_
  refine G.p rfl (V.fieldAddr (o' := 0) rfl Try.runUnderlying36 rfl Try.sizeOf32 rfl) ?_
  refine G.q rfl (V.load_cell (i := 3) (ds := [.val (.int .i64 r22.fE), .val (.int .i64 r22.fAt)]) (d := .val (.int .i64 r22.fE)) rfl rfl Try.isAgg32 rfl rfl) ?_
  refine G.p rfl (V.bin (u := .int .i64 r17.1) (v := .int .i64 r22.fE) (r := .bool (r17.1 != r22.fE)) rfl rfl b_neq) ?_
  refine G.p rfl (V.move rfl) ?_
  refine G.cut 5 (fun a w => Ass Gl B 119 [(1, eL eS 1 b1), (2, .val (.pointer (some ⟨g3, 0, none⟩))), (5, .val (.int .i64 r17.1)), (6, .val (.int .i64 r17.2)), (7, .val (.pointer (some ⟨g25, 0, none⟩))), (8, .val x30.1), (9, .val x30.2.1), (10, .val x30.2.2), (35, .val (.int .i64 r17.1)), (36, .val (.pointer (some ⟨g25, 0, none⟩))), (37, .val (.int .i64 r22.fE)), (38, .val (.bool (r17.1 != r22.fE))), (39, .val (.bool (r17.1 != r22.fE))), (44, .val (.bool ((r17.1 != r22.fE) || (r17.2 != r22.fAt))))] [.row x30.1 9 1 (r28.1.map eS), .row x30.2.1 9 1 (r28.2.1.map eS), .row x30.2.2 9 1 (r28.2.2.map eS), .cells g25 36 [.val (.int .i64 r22.fE), .val (.int .i64 r22.fAt)], .cells g3 29 (lf_T_Program b0)] a w) ?_ ?_
  ·refine G.byb (c := (r17.1 != r22.fE)) (fun hc35 => ?_) (fun hc35 => ?_)
   ·refine G.skip_s rfl rfl hc35 rfl ?_
    refine G.skip_s rfl rfl hc35 rfl ?_
    refine G.skip_s rfl rfl hc35 rfl ?_
    refine G.skip_s rfl rfl hc35 rfl ?_
    refine G.p rfl (V.pick_yes (dv := .val (.bool true)) rfl hc35 rfl) ?_
    refine G.view (congrArg D.val (or_yes (x := (r17.2 != r22.fAt)) hc35)) ?_
    refine G.nil ?_
    refine G.norm (L' := [(1, eL eS 1 b1), (2, .val (.pointer (some ⟨g3, 0, none⟩))), (5, .val (.int .i64 r17.1)), (6, .val (.int .i64 r17.2)), (7, .val (.pointer (some ⟨g25, 0, none⟩))), (8, .val x30.1), (9, .val x30.2.1), (10, .val x30.2.2), (35, .val (.int .i64 r17.1)), (36, .val (.pointer (some ⟨g25, 0, none⟩))), (37, .val (.int .i64 r22.fE)), (38, .val (.bool (r17.1 != r22.fE))), (39, .val (.bool (r17.1 != r22.fE))), (44, .val (.bool ((r17.1 != r22.fE) || (r17.2 != r22.fAt))))]) (is := [1, 2, 5, 6, 7, 8, 9, 10, 35, 36, 37, 38, 39, 44]) (R' := [.row x30.1 9 1 (r28.1.map eS), .row x30.2.1 9 1 (r28.2.1.map eS), .row x30.2.2 9 1 (r28.2.2.map eS), .cells g25 36 [.val (.int .i64 r22.fE), .val (.int .i64 r22.fAt)], .cells g3 29 (lf_T_Program b0)]) (js := [0, 0, 0, 0, 0]) rfl rfl ?_
    exact G.finE fun _ _ _ h => h
   ·refine G.guard_yes rfl rfl hc35 ?_
    refine G.p rfl (V.move rfl) ?_
    refine G.guard_yes rfl rfl hc35 ?_
    refine G.p rfl (V.fieldAddr (o' := 1) rfl Try.runUnderlying36 rfl Try.sizeOf3 rfl) ?_
    refine G.guard_yes rfl rfl hc35 ?_
    refine G.q rfl (V.load_cell (i := 3) (ds := [.val (.int .i64 r22.fE), .val (.int .i64 r22.fAt)]) (d := .val (.int .i64 r22.fAt)) rfl rfl Try.isAgg3 rfl rfl) ?_
    refine G.guard_yes rfl rfl hc35 ?_
    refine G.p rfl (V.bin (u := .int .i64 r17.2) (v := .int .i64 r22.fAt) (r := .bool (r17.2 != r22.fAt)) rfl rfl b_neq) ?_
    refine G.p rfl (V.pick_no (dv := .val (.bool (r17.2 != r22.fAt))) rfl hc35 rfl) ?_
    refine G.view (congrArg D.val (or_no (x := (r17.2 != r22.fAt)) hc35)) ?_
    refine G.nil ?_
    refine G.norm (L' := [(1, eL eS 1 b1), (2, .val (.pointer (some ⟨g3, 0, none⟩))), (5, .val (.int .i64 r17.1)), (6, .val (.int .i64 r17.2)), (7, .val (.pointer (some ⟨g25, 0, none⟩))), (8, .val x30.1), (9, .val x30.2.1), (10, .val x30.2.2), (35, .val (.int .i64 r17.1)), (36, .val (.pointer (some ⟨g25, 0, none⟩))), (37, .val (.int .i64 r22.fE)), (38, .val (.bool (r17.1 != r22.fE))), (39, .val (.bool (r17.1 != r22.fE))), (44, .val (.bool ((r17.1 != r22.fE) || (r17.2 != r22.fAt))))]) (is := [1, 2, 5, 6, 7, 8, 9, 10, 35, 36, 37, 38, 39, 44]) (R' := [.row x30.1 9 1 (r28.1.map eS), .row x30.2.1 9 1 (r28.2.1.map eS), .row x30.2.2 9 1 (r28.2.2.map eS), .cells g25 36 [.val (.int .i64 r22.fE), .val (.int .i64 r22.fAt)], .cells g3 29 (lf_T_Program b0)]) (js := [0, 0, 0, 0, 0]) rfl rfl ?_
    exact G.finE fun _ _ _ h => h
  ·intro a w hA hF
   refine G.use hF hA ?_
   refine G.p rfl (V.move rfl) ?_
   refine G.norm (L' := [(1, eL eS 1 b1), (2, .val (.pointer (some ⟨g3, 0, none⟩))), (5, .val (.int .i64 r17.1)), (6, .val (.int .i64 r17.2)), (7, .val (.pointer (some ⟨g25, 0, none⟩))), (8, .val x30.1), (9, .val x30.2.1), (10, .val x30.2.2), (35, .val (.int .i64 r17.1)), (36, .val (.pointer (some ⟨g25, 0, none⟩))), (37, .val (.int .i64 r22.fE)), (38, .val (.bool (r17.1 != r22.fE))), (39, .val (.bool (r17.1 != r22.fE))), (44, .val (.bool ((r17.1 != r22.fE) || (r17.2 != r22.fAt)))), (45, .val (.bool ((r17.1 != r22.fE) || (r17.2 != r22.fAt))))]) (is := [1, 2, 5, 6, 7, 8, 9, 10, 35, 36, 37, 38, 39, 44, 45]) (R' := [.row x30.1 9 1 (r28.1.map eS), .row x30.2.1 9 1 (r28.2.1.map eS), .row x30.2.2 9 1 (r28.2.2.map eS), .cells g25 36 [.val (.int .i64 r22.fE), .val (.int .i64 r22.fAt)], .cells g3 29 (lf_T_Program b0)]) (js := [0, 0, 0, 0, 0]) rfl rfl ?_
   refine G.freeze 0 (L' := [(1, eL eS 1 b1), (2, .val (.pointer (some ⟨g3, 0, none⟩))), (5, .val (.int .i64 r17.1)), (6, .val (.int .i64 r17.2)), (7, .val (.pointer (some ⟨g25, 0, none⟩))), (8, eL eS 1 r28.1), (9, .val x30.2.1), (10, .val x30.2.2), (35, .val (.int .i64 r17.1)), (36, .val (.pointer (some ⟨g25, 0, none⟩))), (37, .val (.int .i64 r22.fE)), (38, .val (.bool (r17.1 != r22.fE))), (39, .val (.bool (r17.1 != r22.fE))), (44, .val (.bool ((r17.1 != r22.fE) || (r17.2 != r22.fAt)))), (45, .val (.bool ((r17.1 != r22.fE) || (r17.2 != r22.fAt))))]) (R' := [.row x30.2.1 9 1 (r28.2.1.map eS), .row x30.2.2 9 1 (r28.2.2.map eS), .cells g25 36 [.val (.int .i64 r22.fE), .val (.int .i64 r22.fAt)], .cells g3 29 (lf_T_Program b0)]) rfl (fun S w h => .cons .refl (.cons .refl (.cons .refl (.cons .refl (.cons .refl (.cons (.fz h) (.cons .refl (.cons .refl (.cons .refl (.cons .refl (.cons .refl (.cons .refl (.cons .refl (.cons .refl (.cons .refl .nil))))))))))))))) (fun S w h => .same (.same (.same (.same .nil)))) ?_
   refine G.part 6 (fun b a w => Ass Gl B 119 [(1, eL eS 1 b1), (2, .val (.pointer (some ⟨g3, 0, none⟩))), (5, .val (.int .i64 r17.1)), (6, .val (.int .i64 r17.2)), (7, .val (.pointer (some ⟨g25, 0, none⟩))), (8, eL eS 1 r28.1), (9, .val x30.2.1), (10, .val x30.2.2), (35, .val (.int .i64 r17.1)), (36, .val (.pointer (some ⟨g25, 0, none⟩))), (37, .val (.int .i64 r22.fE)), (38, .val (.bool (r17.1 != r22.fE))), (39, .val (.bool (r17.1 != r22.fE))), (44, .val (.bool ((r17.1 != r22.fE) || (r17.2 != r22.fAt)))), (45, .val (.bool ((r17.1 != r22.fE) || (r17.2 != r22.fAt)))), (51, .val (.bool b))] [.row x30.2.2 9 1 (r28.2.2.map eS), .cells g3 29 (lf_T_Program b0), .cells g25 36 [.val (.int .i64 r22.fE), .val (.int .i64 r22.fAt)], .row x30.2.1 9 1 (r28.2.1.map eS)] a w) ?_ ?_
   ·intro b
    refine G.ifb (fun hc36 => ?_) (fun hc36 => ?_)
    ·refine G.skip_s rfl rfl hc36 rfl ?_
     refine G.skip_s rfl rfl hc36 rfl ?_
     refine G.skip_s rfl rfl hc36 rfl ?_
     refine G.skip_s rfl rfl hc36 rfl ?_
     refine G.skip_s rfl rfl hc36 rfl ?_
     refine G.p rfl (V.pick_yes (dv := .val (.bool true)) rfl hc36 rfl) ?_
     refine G.nil ?_
     refine G.norm (L' := [(1, eL eS 1 b1), (2, .val (.pointer (some ⟨g3, 0, none⟩))), (5, .val (.int .i64 r17.1)), (6, .val (.int .i64 r17.2)), (7, .val (.pointer (some ⟨g25, 0, none⟩))), (8, eL eS 1 r28.1), (9, .val x30.2.1), (10, .val x30.2.2), (35, .val (.int .i64 r17.1)), (36, .val (.pointer (some ⟨g25, 0, none⟩))), (37, .val (.int .i64 r22.fE)), (38, .val (.bool (r17.1 != r22.fE))), (39, .val (.bool (r17.1 != r22.fE))), (44, .val (.bool ((r17.1 != r22.fE) || (r17.2 != r22.fAt)))), (45, .val (.bool ((r17.1 != r22.fE) || (r17.2 != r22.fAt)))), (51, .val (.bool true))]) (is := [1, 2, 5, 6, 7, 8, 9, 10, 35, 36, 37, 38, 39, 44, 45, 51]) (R' := [.row x30.2.2 9 1 (r28.2.2.map eS), .cells g3 29 (lf_T_Program b0), .cells g25 36 [.val (.int .i64 r22.fE), .val (.int .i64 r22.fAt)], .row x30.2.1 9 1 (r28.2.1.map eS)]) (js := [1, 2, 1, 0]) rfl rfl ?_
     exact G.finE fun hb a w hA => by subst hb; exact hA
    ·refine G.guard_yes rfl rfl hc36 ?_
     refine G.q rfl (V.load_cellN (i := 3) (ds := (lf_T_Program b0)) (c1 := (lf_T_Program b0)) rfl rfl Try.isAgg29 Try.sizeOf29 rfl rfl rfl) ?_
     refine G.guard_yes rfl rfl hc36 ?_
     refine G.bind fun r39 hr40 => ?_
     refine G.op rfl (O.call (xs := [.tmp 46]) (is := []) (Rp := []) (Rr := [.row x30.2.1 9 1 (r28.2.1.map eS), .row x30.2.2 9 1 (r28.2.2.map eS), .cells g25 36 [.val (.int .i64 r22.fE), .val (.int .i64 r22.fAt)], .cells g3 29 (lf_T_Program b0)]) (scope_Makers_ok hr40) (.cons (.of rfl) .nil) Try.call9 rfl) fun x41 => ?_
     refine G.guard_yes rfl rfl hc36 ?_
     refine G.p rfl (V.move rfl) ?_
     refine G.guard_yes rfl rfl hc36 ?_
     refine G.norm (L' := [(1, eL eS 1 b1), (2, .val (.pointer (some ⟨g3, 0, none⟩))), (5, .val (.int .i64 r17.1)), (6, .val (.int .i64 r17.2)), (7, .val (.pointer (some ⟨g25, 0, none⟩))), (8, eL eS 1 r28.1), (9, .val x30.2.1), (10, .val x30.2.2), (35, .val (.int .i64 r17.1)), (36, .val (.pointer (some ⟨g25, 0, none⟩))), (37, .val (.int .i64 r22.fE)), (38, .val (.bool (r17.1 != r22.fE))), (39, .val (.bool (r17.1 != r22.fE))), (44, .val (.bool ((r17.1 != r22.fE) || (r17.2 != r22.fAt)))), (45, .val (.bool ((r17.1 != r22.fE) || (r17.2 != r22.fAt)))), (46, .agg (lf_T_Program b0)), (47, .val x41), (48, eL eS 1 r28.1)]) (is := [1, 2, 5, 6, 7, 8, 9, 10, 35, 36, 37, 38, 39, 44, 45, 46, 47, 48]) (R' := [.row x41 9 1 (r39.map eS), .row x30.2.1 9 1 (r28.2.1.map eS), .row x30.2.2 9 1 (r28.2.2.map eS), .cells g25 36 [.val (.int .i64 r22.fE), .val (.int .i64 r22.fAt)], .cells g3 29 (lf_T_Program b0)]) (js := [0, 0, 0, 0, 0]) rfl rfl ?_
     refine G.freeze 0 (L' := [(1, eL eS 1 b1), (2, .val (.pointer (some ⟨g3, 0, none⟩))), (5, .val (.int .i64 r17.1)), (6, .val (.int .i64 r17.2)), (7, .val (.pointer (some ⟨g25, 0, none⟩))), (8, eL eS 1 r28.1), (9, .val x30.2.1), (10, .val x30.2.2), (35, .val (.int .i64 r17.1)), (36, .val (.pointer (some ⟨g25, 0, none⟩))), (37, .val (.int .i64 r22.fE)), (38, .val (.bool (r17.1 != r22.fE))), (39, .val (.bool (r17.1 != r22.fE))), (44, .val (.bool ((r17.1 != r22.fE) || (r17.2 != r22.fAt)))), (45, .val (.bool ((r17.1 != r22.fE) || (r17.2 != r22.fAt)))), (46, .agg (lf_T_Program b0)), (47, eL eS 1 r39), (48, eL eS 1 r28.1)]) (R' := [.row x30.2.1 9 1 (r28.2.1.map eS), .row x30.2.2 9 1 (r28.2.2.map eS), .cells g25 36 [.val (.int .i64 r22.fE), .val (.int .i64 r22.fAt)], .cells g3 29 (lf_T_Program b0)]) rfl (fun S w h => .cons .refl (.cons .refl (.cons .refl (.cons .refl (.cons .refl (.cons .refl (.cons .refl (.cons .refl (.cons .refl (.cons .refl (.cons .refl (.cons .refl (.cons .refl (.cons .refl (.cons .refl (.cons .refl (.cons (.fz h) (.cons .refl .nil)))))))))))))))))) (fun S w h => .same (.same (.same (.same .nil)))) ?_
     refine G.bind fun r42 hr43 => ?_
     refine G.op rfl (O.call (xs := [.tmp 47, .tmp 48]) (is := []) (Rp := []) (Rr := [.row x30.2.1 9 1 (r28.2.1.map eS), .row x30.2.2 9 1 (r28.2.2.map eS), .cells g25 36 [.val (.int .i64 r22.fE), .val (.int .i64 r22.fAt)], .cells g3 29 (lf_T_Program b0)]) (slices_Equal_string_string_ok hr43) (.cons (.of rfl) (.cons (.of rfl) .nil)) Try.call8 rfl) fun x44 => ?_
     refine G.guard_yes rfl rfl hc36 ?_
     refine G.p rfl (V.not (b := r42) rfl) ?_
     refine G.p rfl (V.pick_no (dv := .val (.bool (!r42))) rfl hc36 rfl) ?_
     refine G.nil ?_
     refine G.norm (L' := [(1, eL eS 1 b1), (2, .val (.pointer (some ⟨g3, 0, none⟩))), (5, .val (.int .i64 r17.1)), (6, .val (.int .i64 r17.2)), (7, .val (.pointer (some ⟨g25, 0, none⟩))), (8, eL eS 1 r28.1), (9, .val x30.2.1), (10, .val x30.2.2), (35, .val (.int .i64 r17.1)), (36, .val (.pointer (some ⟨g25, 0, none⟩))), (37, .val (.int .i64 r22.fE)), (38, .val (.bool (r17.1 != r22.fE))), (39, .val (.bool (r17.1 != r22.fE))), (44, .val (.bool ((r17.1 != r22.fE) || (r17.2 != r22.fAt)))), (45, .val (.bool ((r17.1 != r22.fE) || (r17.2 != r22.fAt)))), (51, .val (.bool (!r42)))]) (is := [1, 2, 5, 6, 7, 8, 9, 10, 35, 36, 37, 38, 39, 44, 45, 51]) (R' := [.row x30.2.2 9 1 (r28.2.2.map eS), .cells g3 29 (lf_T_Program b0), .cells g25 36 [.val (.int .i64 r22.fE), .val (.int .i64 r22.fAt)], .row x30.2.1 9 1 (r28.2.1.map eS)]) (js := [1, 2, 1, 0]) rfl rfl ?_
     exact G.finE fun hb a w hA => by subst hb; exact hA
   ·rintro t37 hb a w hA hF
    refine G.use hF hA ?_
    refine G.p rfl (V.move rfl) ?_
    refine G.norm (L' := [(1, eL eS 1 b1), (2, .val (.pointer (some ⟨g3, 0, none⟩))), (5, .val (.int .i64 r17.1)), (6, .val (.int .i64 r17.2)), (7, .val (.pointer (some ⟨g25, 0, none⟩))), (8, eL eS 1 r28.1), (9, .val x30.2.1), (10, .val x30.2.2), (35, .val (.int .i64 r17.1)), (36, .val (.pointer (some ⟨g25, 0, none⟩))), (37, .val (.int .i64 r22.fE)), (38, .val (.bool (r17.1 != r22.fE))), (39, .val (.bool (r17.1 != r22.fE))), (44, .val (.bool ((r17.1 != r22.fE) || (r17.2 != r22.fAt)))), (45, .val (.bool ((r17.1 != r22.fE) || (r17.2 != r22.fAt)))), (51, .val (.bool t37)), (52, .val (.bool t37))]) (is := [1, 2, 5, 6, 7, 8, 9, 10, 35, 36, 37, 38, 39, 44, 45, 51, 52]) (R' := [.row x30.2.2 9 1 (r28.2.2.map eS), .cells g3 29 (lf_T_Program b0), .cells g25 36 [.val (.int .i64 r22.fE), .val (.int .i64 r22.fAt)], .row x30.2.1 9 1 (r28.2.1.map eS)]) (js := [0, 0, 0, 0]) rfl rfl ?_
    refine G.freeze 3 (L' := [(1, eL eS 1 b1), (2, .val (.pointer (some ⟨g3, 0, none⟩))), (5, .val (.int .i64 r17.1)), (6, .val (.int .i64 r17.2)), (7, .val (.pointer (some ⟨g25, 0, none⟩))), (8, eL eS 1 r28.1), (9, eL eS 1 r28.2.1), (10, .val x30.2.2), (35, .val (.int .i64 r17.1)), (36, .val (.pointer (some ⟨g25, 0, none⟩))), (37, .val (.int .i64 r22.fE)), (38, .val (.bool (r17.1 != r22.fE))), (39, .val (.bool (r17.1 != r22.fE))), (44, .val (.bool ((r17.1 != r22.fE) || (r17.2 != r22.fAt)))), (45, .val (.bool ((r17.1 != r22.fE) || (r17.2 != r22.fAt)))), (51, .val (.bool t37)), (52, .val (.bool t37))]) (R' := [.row x30.2.2 9 1 (r28.2.2.map eS), .cells g3 29 (lf_T_Program b0), .cells g25 36 [.val (.int .i64 r22.fE), .val (.int .i64 r22.fAt)]]) rfl (fun S w h => .cons .refl (.cons .refl (.cons .refl (.cons .refl (.cons .refl (.cons .refl (.cons (.fz h) (.cons .refl (.cons .refl (.cons .refl (.cons .refl (.cons .refl (.cons .refl (.cons .refl (.cons .refl (.cons .refl (.cons .refl .nil))))))))))))))))) (fun S w h => .same (.same (.same .nil))) ?_
    refine G.part 6 (fun b a w => Ass Gl B 119 [(1, eL eS 1 b1), (2, .val (.pointer (some ⟨g3, 0, none⟩))), (5, .val (.int .i64 r17.1)), (6, .val (.int .i64 r17.2)), (7, .val (.pointer (some ⟨g25, 0, none⟩))), (8, eL eS 1 r28.1), (9, eL eS 1 r28.2.1), (10, .val x30.2.2), (35, .val (.int .i64 r17.1)), (36, .val (.pointer (some ⟨g25, 0, none⟩))), (37, .val (.int .i64 r22.fE)), (38, .val (.bool (r17.1 != r22.fE))), (39, .val (.bool (r17.1 != r22.fE))), (44, .val (.bool ((r17.1 != r22.fE) || (r17.2 != r22.fAt)))), (45, .val (.bool ((r17.1 != r22.fE) || (r17.2 != r22.fAt)))), (51, .val (.bool t37)), (52, .val (.bool t37)), (58, .val (.bool b))] [.row x30.2.2 9 1 (r28.2.2.map eS), .cells g3 29 (lf_T_Program b0), .cells g25 36 [.val (.int .i64 r22.fE), .val (.int .i64 r22.fAt)]] a w) ?_ ?_
    ·intro b
     refine G.ifb (fun hc45 => ?_) (fun hc45 => ?_)
     ·refine G.skip_s rfl rfl hc45 rfl ?_
      refine G.skip_s rfl rfl hc45 rfl ?_
      refine G.skip_s rfl rfl hc45 rfl ?_
      refine G.skip_s rfl rfl hc45 rfl ?_
      refine G.skip_s rfl rfl hc45 rfl ?_
      refine G.p rfl (V.pick_yes (dv := .val (.bool true)) rfl hc45 rfl) ?_
      refine G.nil ?_
      refine G.norm (L' := [(1, eL eS 1 b1), (2, .val (.pointer (some ⟨g3, 0, none⟩))), (5, .val (.int .i64 r17.1)), (6, .val (.int .i64 r17.2)), (7, .val (.pointer (some ⟨g25, 0, none⟩))), (8, eL eS 1 r28.1), (9, eL eS 1 r28.2.1), (10, .val x30.2.2), (35, .val (.int .i64 r17.1)), (36, .val (.pointer (some ⟨g25, 0, none⟩))), (37, .val (.int .i64 r22.fE)), (38, .val (.bool (r17.1 != r22.fE))), (39, .val (.bool (r17.1 != r22.fE))), (44, .val (.bool ((r17.1 != r22.fE) || (r17.2 != r22.fAt)))), (45, .val (.bool ((r17.1 != r22.fE) || (r17.2 != r22.fAt)))), (51, .val (.bool t37)), (52, .val (.bool t37)), (58, .val (.bool true))]) (is := [1, 2, 5, 6, 7, 8, 9, 10, 35, 36, 37, 38, 39, 44, 45, 51, 52, 58]) (R' := [.row x30.2.2 9 1 (r28.2.2.map eS), .cells g3 29 (lf_T_Program b0), .cells g25 36 [.val (.int .i64 r22.fE), .val (.int .i64 r22.fAt)]]) (js := [0, 0, 0]) rfl rfl ?_
      exact G.finE fun hb a w hA => by subst hb; exact hA
     ·refine G.guard_yes rfl rfl hc45 ?_
      refine G.q rfl (V.load_cellN (i := 1) (ds := (lf_T_Program b0)) (c1 := (lf_T_Program b0)) rfl rfl Try.isAgg29 Try.sizeOf29 rfl rfl rfl) ?_
      refine G.guard_yes rfl rfl hc45 ?_
      refine G.bind fun r48 hr49 => ?_
      refine G.op rfl (O.call (xs := [.tmp 53]) (is := []) (Rp := []) (Rr := [.row x30.2.2 9 1 (r28.2.2.map eS), .cells g3 29 (lf_T_Program b0), .cells g25 36 [.val (.int .i64 r22.fE), .val (.int .i64 r22.fAt)]]) (scope_Callable_ok hr49) (.cons (.of rfl) .nil) Try.call10 rfl) fun x50 => ?_
      refine G.guard_yes rfl rfl hc45 ?_
      refine G.p rfl (V.move rfl) ?_
      refine G.guard_yes rfl rfl hc45 ?_
      refine G.norm (L' := [(1, eL eS 1 b1), (2, .val (.pointer (some ⟨g3, 0, none⟩))), (5, .val (.int .i64 r17.1)), (6, .val (.int .i64 r17.2)), (7, .val (.pointer (some ⟨g25, 0, none⟩))), (8, eL eS 1 r28.1), (9, eL eS 1 r28.2.1), (10, .val x30.2.2), (35, .val (.int .i64 r17.1)), (36, .val (.pointer (some ⟨g25, 0, none⟩))), (37, .val (.int .i64 r22.fE)), (38, .val (.bool (r17.1 != r22.fE))), (39, .val (.bool (r17.1 != r22.fE))), (44, .val (.bool ((r17.1 != r22.fE) || (r17.2 != r22.fAt)))), (45, .val (.bool ((r17.1 != r22.fE) || (r17.2 != r22.fAt)))), (51, .val (.bool t37)), (52, .val (.bool t37)), (53, .agg (lf_T_Program b0)), (54, .val x50), (55, eL eS 1 r28.2.1)]) (is := [1, 2, 5, 6, 7, 8, 9, 10, 35, 36, 37, 38, 39, 44, 45, 51, 52, 53, 54, 55]) (R' := [.row x50 9 1 (r48.map eS), .row x30.2.2 9 1 (r28.2.2.map eS), .cells g3 29 (lf_T_Program b0), .cells g25 36 [.val (.int .i64 r22.fE), .val (.int .i64 r22.fAt)]]) (js := [0, 0, 0, 0]) rfl rfl ?_
      refine G.freeze 0 (L' := [(1, eL eS 1 b1), (2, .val (.pointer (some ⟨g3, 0, none⟩))), (5, .val (.int .i64 r17.1)), (6, .val (.int .i64 r17.2)), (7, .val (.pointer (some ⟨g25, 0, none⟩))), (8, eL eS 1 r28.1), (9, eL eS 1 r28.2.1), (10, .val x30.2.2), (35, .val (.int .i64 r17.1)), (36, .val (.pointer (some ⟨g25, 0, none⟩))), (37, .val (.int .i64 r22.fE)), (38, .val (.bool (r17.1 != r22.fE))), (39, .val (.bool (r17.1 != r22.fE))), (44, .val (.bool ((r17.1 != r22.fE) || (r17.2 != r22.fAt)))), (45, .val (.bool ((r17.1 != r22.fE) || (r17.2 != r22.fAt)))), (51, .val (.bool t37)), (52, .val (.bool t37)), (53, .agg (lf_T_Program b0)), (54, eL eS 1 r48), (55, eL eS 1 r28.2.1)]) (R' := [.row x30.2.2 9 1 (r28.2.2.map eS), .cells g3 29 (lf_T_Program b0), .cells g25 36 [.val (.int .i64 r22.fE), .val (.int .i64 r22.fAt)]]) rfl (fun S w h => .cons .refl (.cons .refl (.cons .refl (.cons .refl (.cons .refl (.cons .refl (.cons .refl (.cons .refl (.cons .refl (.cons .refl (.cons .refl (.cons .refl (.cons .refl (.cons .refl (.cons .refl (.cons .refl (.cons .refl (.cons .refl (.cons (.fz h) (.cons .refl .nil)))))))))))))))))))) (fun S w h => .same (.same (.same .nil))) ?_
      refine G.bind fun r51 hr52 => ?_
      refine G.op rfl (O.call (xs := [.tmp 54, .tmp 55]) (is := []) (Rp := []) (Rr := [.row x30.2.2 9 1 (r28.2.2.map eS), .cells g3 29 (lf_T_Program b0), .cells g25 36 [.val (.int .i64 r22.fE), .val (.int .i64 r22.fAt)]]) (slices_Equal_string_string_ok hr52) (.cons (.of rfl) (.cons (.of rfl) .nil)) Try.call8 rfl) fun x53 => ?_
      refine G.guard_yes rfl rfl hc45 ?_
      refine G.p rfl (V.not (b := r51) rfl) ?_
      refine G.p rfl (V.pick_no (dv := .val (.bool (!r51))) rfl hc45 rfl) ?_
      refine G.nil ?_
      refine G.norm (L' := [(1, eL eS 1 b1), (2, .val (.pointer (some ⟨g3, 0, none⟩))), (5, .val (.int .i64 r17.1)), (6, .val (.int .i64 r17.2)), (7, .val (.pointer (some ⟨g25, 0, none⟩))), (8, eL eS 1 r28.1), (9, eL eS 1 r28.2.1), (10, .val x30.2.2), (35, .val (.int .i64 r17.1)), (36, .val (.pointer (some ⟨g25, 0, none⟩))), (37, .val (.int .i64 r22.fE)), (38, .val (.bool (r17.1 != r22.fE))), (39, .val (.bool (r17.1 != r22.fE))), (44, .val (.bool ((r17.1 != r22.fE) || (r17.2 != r22.fAt)))), (45, .val (.bool ((r17.1 != r22.fE) || (r17.2 != r22.fAt)))), (51, .val (.bool t37)), (52, .val (.bool t37)), (58, .val (.bool (!r51)))]) (is := [1, 2, 5, 6, 7, 8, 9, 10, 35, 36, 37, 38, 39, 44, 45, 51, 52, 58]) (R' := [.row x30.2.2 9 1 (r28.2.2.map eS), .cells g3 29 (lf_T_Program b0), .cells g25 36 [.val (.int .i64 r22.fE), .val (.int .i64 r22.fAt)]]) (js := [0, 0, 0]) rfl rfl ?_
      exact G.finE fun hb a w hA => by subst hb; exact hA
    ·rintro t46 hb a w hA hF
     refine G.use hF hA ?_
     refine G.p rfl (V.move rfl) ?_
     refine G.norm (L' := [(1, eL eS 1 b1), (2, .val (.pointer (some ⟨g3, 0, none⟩))), (5, .val (.int .i64 r17.1)), (6, .val (.int .i64 r17.2)), (7, .val (.pointer (some ⟨g25, 0, none⟩))), (8, eL eS 1 r28.1), (9, eL eS 1 r28.2.1), (10, .val x30.2.2), (35, .val (.int .i64 r17.1)), (36, .val (.pointer (some ⟨g25, 0, none⟩))), (37, .val (.int .i64 r22.fE)), (38, .val (.bool (r17.1 != r22.fE))), (39, .val (.bool (r17.1 != r22.fE))), (44, .val (.bool ((r17.1 != r22.fE) || (r17.2 != r22.fAt)))), (45, .val (.bool ((r17.1 != r22.fE) || (r17.2 != r22.fAt)))), (51, .val (.bool t37)), (52, .val (.bool t37)), (58, .val (.bool t46)), (59, .val (.bool t46))]) (is := [1, 2, 5, 6, 7, 8, 9, 10, 35, 36, 37, 38, 39, 44, 45, 51, 52, 58, 59]) (R' := [.row x30.2.2 9 1 (r28.2.2.map eS), .cells g3 29 (lf_T_Program b0), .cells g25 36 [.val (.int .i64 r22.fE), .val (.int .i64 r22.fAt)]]) (js := [0, 0, 0]) rfl rfl ?_
     refine G.freeze 0 (L' := [(1, eL eS 1 b1), (2, .val (.pointer (some ⟨g3, 0, none⟩))), (5, .val (.int .i64 r17.1)), (6, .val (.int .i64 r17.2)), (7, .val (.pointer (some ⟨g25, 0, none⟩))), (8, eL eS 1 r28.1), (9, eL eS 1 r28.2.1), (10, eL eS 1 r28.2.2), (35, .val (.int .i64 r17.1)), (36, .val (.pointer (some ⟨g25, 0, none⟩))), (37, .val (.int .i64 r22.fE)), (38, .val (.bool (r17.1 != r22.fE))), (39, .val (.bool (r17.1 != r22.fE))), (44, .val (.bool ((r17.1 != r22.fE) || (r17.2 != r22.fAt)))), (45, .val (.bool ((r17.1 != r22.fE) || (r17.2 != r22.fAt)))), (51, .val (.bool t37)), (52, .val (.bool t37)), (58, .val (.bool t46)), (59, .val (.bool t46))]) (R' := [.cells g3 29 (lf_T_Program b0), .cells g25 36 [.val (.int .i64 r22.fE), .val (.int .i64 r22.fAt)]]) rfl (fun S w h => .cons .refl (.cons .refl (.cons .refl (.cons .refl (.cons .refl (.cons .refl (.cons .refl (.cons (.fz h) (.cons .refl (.cons .refl (.cons .refl (.cons .refl (.cons .refl (.cons .refl (.cons .refl (.cons .refl (.cons .refl (.cons .refl (.cons .refl .nil))))))))))))))))))) (fun S w h => .same (.same .nil)) ?_
     refine G.part 6 (fun b a w => Ass Gl B 119 [(1, eL eS 1 b1), (2, .val (.pointer (some ⟨g3, 0, none⟩))), (5, .val (.int .i64 r17.1)), (6, .val (.int .i64 r17.2)), (7, .val (.pointer (some ⟨g25, 0, none⟩))), (8, eL eS 1 r28.1), (9, eL eS 1 r28.2.1), (10, eL eS 1 r28.2.2), (35, .val (.int .i64 r17.1)), (36, .val (.pointer (some ⟨g25, 0, none⟩))), (37, .val (.int .i64 r22.fE)), (38, .val (.bool (r17.1 != r22.fE))), (39, .val (.bool (r17.1 != r22.fE))), (44, .val (.bool ((r17.1 != r22.fE) || (r17.2 != r22.fAt)))), (45, .val (.bool ((r17.1 != r22.fE) || (r17.2 != r22.fAt)))), (51, .val (.bool t37)), (52, .val (.bool t37)), (58, .val (.bool t46)), (59, .val (.bool t46)), (65, .val (.bool b))] [.cells g3 29 (lf_T_Program b0), .cells g25 36 [.val (.int .i64 r22.fE), .val (.int .i64 r22.fAt)]] a w) ?_ ?_
     ·intro b
      refine G.ifb (fun hc54 => ?_) (fun hc54 => ?_)
      ·refine G.skip_s rfl rfl hc54 rfl ?_
       refine G.skip_s rfl rfl hc54 rfl ?_
       refine G.skip_s rfl rfl hc54 rfl ?_
       refine G.skip_s rfl rfl hc54 rfl ?_
       refine G.skip_s rfl rfl hc54 rfl ?_
       refine G.p rfl (V.pick_yes (dv := .val (.bool true)) rfl hc54 rfl) ?_
       refine G.nil ?_
       refine G.norm (L' := [(1, eL eS 1 b1), (2, .val (.pointer (some ⟨g3, 0, none⟩))), (5, .val (.int .i64 r17.1)), (6, .val (.int .i64 r17.2)), (7, .val (.pointer (some ⟨g25, 0, none⟩))), (8, eL eS 1 r28.1), (9, eL eS 1 r28.2.1), (10, eL eS 1 r28.2.2), (35, .val (.int .i64 r17.1)), (36, .val (.pointer (some ⟨g25, 0, none⟩))), (37, .val (.int .i64 r22.fE)), (38, .val (.bool (r17.1 != r22.fE))), (39, .val (.bool (r17.1 != r22.fE))), (44, .val (.bool ((r17.1 != r22.fE) || (r17.2 != r22.fAt)))), (45, .val (.bool ((r17.1 != r22.fE) || (r17.2 != r22.fAt)))), (51, .val (.bool t37)), (52, .val (.bool t37)), (58, .val (.bool t46)), (59, .val (.bool t46)), (65, .val (.bool true))]) (is := [1, 2, 5, 6, 7, 8, 9, 10, 35, 36, 37, 38, 39, 44, 45, 51, 52, 58, 59, 65]) (R' := [.cells g3 29 (lf_T_Program b0), .cells g25 36 [.val (.int .i64 r22.fE), .val (.int .i64 r22.fAt)]]) (js := [0, 0]) rfl rfl ?_
       exact G.finE fun hb a w hA => by subst hb; exact hA
      ·refine G.guard_yes rfl rfl hc54 ?_
       refine G.q rfl (V.load_cellN (i := 0) (ds := (lf_T_Program b0)) (c1 := (lf_T_Program b0)) rfl rfl Try.isAgg29 Try.sizeOf29 rfl rfl rfl) ?_
       refine G.guard_yes rfl rfl hc54 ?_
       refine G.bind fun r57 hr58 => ?_
       refine G.op rfl (O.call (xs := [.tmp 60]) (is := []) (Rp := []) (Rr := [.cells g3 29 (lf_T_Program b0), .cells g25 36 [.val (.int .i64 r22.fE), .val (.int .i64 r22.fAt)]]) (scope_Actors_ok hr58) (.cons (.of rfl) .nil) Try.call11 rfl) fun x59 => ?_
       refine G.guard_yes rfl rfl hc54 ?_
       refine G.p rfl (V.move rfl) ?_
       refine G.guard_yes rfl rfl hc54 ?_
       refine G.norm (L' := [(1, eL eS 1 b1), (2, .val (.pointer (some ⟨g3, 0, none⟩))), (5, .val (.int .i64 r17.1)), (6, .val (.int .i64 r17.2)), (7, .val (.pointer (some ⟨g25, 0, none⟩))), (8, eL eS 1 r28.1), (9, eL eS 1 r28.2.1), (10, eL eS 1 r28.2.2), (35, .val (.int .i64 r17.1)), (36, .val (.pointer (some ⟨g25, 0, none⟩))), (37, .val (.int .i64 r22.fE)), (38, .val (.bool (r17.1 != r22.fE))), (39, .val (.bool (r17.1 != r22.fE))), (44, .val (.bool ((r17.1 != r22.fE) || (r17.2 != r22.fAt)))), (45, .val (.bool ((r17.1 != r22.fE) || (r17.2 != r22.fAt)))), (51, .val (.bool t37)), (52, .val (.bool t37)), (58, .val (.bool t46)), (59, .val (.bool t46)), (60, .agg (lf_T_Program b0)), (61, .val x59), (62, eL eS 1 r28.2.2)]) (is := [1, 2, 5, 6, 7, 8, 9, 10, 35, 36, 37, 38, 39, 44, 45, 51, 52, 58, 59, 60, 61, 62]) (R' := [.row x59 9 1 (r57.map eS), .cells g3 29 (lf_T_Program b0), .cells g25 36 [.val (.int .i64 r22.fE), .val (.int .i64 r22.fAt)]]) (js := [0, 0, 0]) rfl rfl ?_
       refine G.freeze 0 (L' := [(1, eL eS 1 b1), (2, .val (.pointer (some ⟨g3, 0, none⟩))), (5, .val (.int .i64 r17.1)), (6, .val (.int .i64 r17.2)), (7, .val (.pointer (some ⟨g25, 0, none⟩))), (8, eL eS 1 r28.1), (9, eL eS 1 r28.2.1), (10, eL eS 1 r28.2.2), (35, .val (.int .i64 r17.1)), (36, .val (.pointer (some ⟨g25, 0, none⟩))), (37, .val (.int .i64 r22.fE)), (38, .val (.bool (r17.1 != r22.fE))), (39, .val (.bool (r17.1 != r22.fE))), (44, .val (.bool ((r17.1 != r22.fE) || (r17.2 != r22.fAt)))), (45, .val (.bool ((r17.1 != r22.fE) || (r17.2 != r22.fAt)))), (51, .val (.bool t37)), (52, .val (.bool t37)), (58, .val (.bool t46)), (59, .val (.bool t46)), (60, .agg (lf_T_Program b0)), (61, eL eS 1 r57), (62, eL eS 1 r28.2.2)]) (R' := [.cells g3 29 (lf_T_Program b0), .cells g25 36 [.val (.int .i64 r22.fE), .val (.int .i64 r22.fAt)]]) rfl (fun S w h => .cons .refl (.cons .refl (.cons .refl (.cons .refl (.cons .refl (.cons .refl (.cons .refl (.cons .refl (.cons .refl (.cons .refl (.cons .refl (.cons .refl (.cons .refl (.cons .refl (.cons .refl (.cons .refl (.cons .refl (.cons .refl (.cons .refl (.cons .refl (.cons (.fz h) (.cons .refl .nil)))))))))))))))))))))) (fun S w h => .same (.same .nil)) ?_
       refine G.bind fun r60 hr61 => ?_
       refine G.op rfl (O.call (xs := [.tmp 61, .tmp 62]) (is := []) (Rp := []) (Rr := [.cells g3 29 (lf_T_Program b0), .cells g25 36 [.val (.int .i64 r22.fE), .val (.int .i64 r22.fAt)]]) (slices_Equal_string_string_ok hr61) (.cons (.of rfl) (.cons (.of rfl) .nil)) Try.call8 rfl) fun x62 => ?_
       refine G.guard_yes rfl rfl hc54 ?_
       refine G.p rfl (V.not (b := r60) rfl) ?_
       refine G.p rfl (V.pick_no (dv := .val (.bool (!r60))) rfl hc54 rfl) ?_
       refine G.nil ?_
       refine G.norm (L' := [(1, eL eS 1 b1), (2, .val (.pointer (some ⟨g3, 0, none⟩))), (5, .val (.int .i64 r17.1)), (6, .val (.int .i64 r17.2)), (7, .val (.pointer (some ⟨g25, 0, none⟩))), (8, eL eS 1 r28.1), (9, eL eS 1 r28.2.1), (10, eL eS 1 r28.2.2), (35, .val (.int .i64 r17.1)), (36, .val (.pointer (some ⟨g25, 0, none⟩))), (37, .val (.int .i64 r22.fE)), (38, .val (.bool (r17.1 != r22.fE))), (39, .val (.bool (r17.1 != r22.fE))), (44, .val (.bool ((r17.1 != r22.fE) || (r17.2 != r22.fAt)))), (45, .val (.bool ((r17.1 != r22.fE) || (r17.2 != r22.fAt)))), (51, .val (.bool t37)), (52, .val (.bool t37)), (58, .val (.bool t46)), (59, .val (.bool t46)), (65, .val (.bool (!r60)))]) (is := [1, 2, 5, 6, 7, 8, 9, 10, 35, 36, 37, 38, 39, 44, 45, 51, 52, 58, 59, 65]) (R' := [.cells g3 29 (lf_T_Program b0), .cells g25 36 [.val (.int .i64 r22.fE), .val (.int .i64 r22.fAt)]]) (js := [0, 0]) rfl rfl ?_
       exact G.finE fun hb a w hA => by subst hb; exact hA
     ·rintro t55 hb a w hA hF
      refine G.use hF hA ?_
      refine G.nil ?_
      refine G.norm (L' := [(1, eL eS 1 b1), (2, .val (.pointer (some ⟨g3, 0, none⟩))), (65, .val (.bool t55))]) (is := [1, 2, 65]) (R' := [.cells g3 29 (lf_T_Program b0)]) (js := [0]) rfl rfl ?_
      refine G.next_ hK34 ?_
      refine G.cond (b := t55) rfl (fun hc63 => ?_) (fun hc63 => ?_)
      ·refine G.norm (L' := []) (is := []) (R' := []) (js := []) rfl rfl ?_
       refine G.seq fun K64 hK65 => ?_
       refine G.region ?_
       refine G.p rfl (V.assign rfl) ?_
       refine G.nil ?_
       refine G.norm (L' := [(4, .val (.bool false))]) (is := [4]) (R' := []) (js := []) rfl rfl ?_
       refine G.next_ hK65 ?_
       refine G.ret ?_
       refine G.thn_ret ?_
       refine G.fin_ fun hF66 => ?_
       obtain rfl := Option.some.inj hF66
       exact G.ret1 Try.results3 () (is := []) (.of rfl) rfl
      ·refine G.norm (L' := [(1, eL eS 1 b1), (2, .val (.pointer (some ⟨g3, 0, none⟩)))]) (is := [1, 2]) (R' := [.cells g3 29 (lf_T_Program b0)]) (js := [0]) rfl rfl ?_
       refine G.skip ?_
       refine G.next_ hK32 ?_
       refine G.seq fun K67 hK68 => ?_
       refine G.seq fun K69 hK70 => ?_
       refine G.region ?_
       refine G.q rfl (V.load_cellN (i := 0) (ds := (lf_T_Program b0)) (c1 := (lf_T_Program b0)) rfl rfl Try.isAgg29 Try.sizeOf29 rfl rfl rfl) ?_
       refine G.bind fun r71 hr72 => ?_
       refine G.op rfl (O.call (xs := [.tmp 66]) (is := []) (Rp := []) (Rr := [.cells g3 29 (lf_T_Program b0)]) (roadref2_BodiesOf_ok hr72) (.cons (.of rfl) .nil) Try.call12 rfl) fun x73 => ?_
       refine G.lenr (i := 0) (enc := e_T_Expr) (xs := r71) rfl fun hN74 => ?_
       refine G.q rfl (V.len_row (j := 0) (enc := e_T_Expr) (xs := r71) rfl rfl Try.runUnderlying42) ?_
       refine G.p rfl (V.move rfl) ?_
       refine G.nil ?_
       refine G.norm (L' := [(1, eL eS 1 b1), (2, .val (.pointer (some ⟨g3, 0, none⟩))), (67, .val x73), (68, .val (.int .i64 (r71.length : Int))), (69, .val (.int .i64 0))]) (is := [1, 2, 67, 68, 69]) (R' := [.row x73 47 8 (r71.map e_T_Expr), .cells g3 29 (lf_T_Program b0)]) (js := [0, 0]) rfl rfl ?_
       refine G.next_ hK70 ?_
       refine G.join (E := fun o a w => ∃ b, o = .inr b ∧ Ass Gl B 119 [(1, eL eS 1 b1)] [] a w) ?_ ?_
       ·intro b hF80
        refine G.block ?_
        refine G.norm (L' := [(1, eL eS 1 b1), (2, .val (.pointer (some ⟨g3, 0, none⟩))), (67, .val x73), (68, .val (.int .i64 (r71.length : Int))), (69, .val (.int .i64 ((0 : Nat) : Int)))]) (is := [1, 2, 67, 68, 69]) (R' := [.cells g3 29 (lf_T_Program b0), .row x73 47 8 (r71.map e_T_Expr)]) (js := [1, 0]) rfl rfl ?_
        refine G.loop (fun kq a w => ∃ (rest77 : List (T_Expr)) (i75 : Nat), kq = rest77.length ∧ roadlaw2_ScopeSays.l1 b0 b1 k rest77 = some b ∧ r71.drop i75 = rest77 ∧ Ass Gl B 119 [(1, eL eS 1 b1), (2, .val (.pointer (some ⟨g3, 0, none⟩))), (67, .val x73), (68, .val (.int .i64 (r71.length : Int))), (69, .val (.int .i64 (i75 : Int)))] [.cells g3 29 (lf_T_Program b0), .row x73 47 8 (r71.map e_T_Expr)] a w) (r71.length) ?_ ?_
        ·intro hl116 a w hA
         exact ⟨r71, 0, rfl, hl116, rfl, hA⟩
        ·rintro _ a w ⟨rest77, i75, rfl, hl81, hd78, hA⟩
         rcases rest77 with _ | ⟨y76, rest77⟩
         ·rw [roadlaw2_ScopeSays.l1_nil] at hl81
          refine G.use hl81 hA ?_
          refine G.seq fun K82 hK83 => ?_
          refine G.region ?_
          refine G.p rfl (V.bin (u := .int .i64 (i75 : Int)) (v := .int .i64 (r71.length : Int)) (r := .bool (decide ((i75 : Int) < (r71.length : Int)))) rfl rfl b_lss) ?_
          refine G.nil ?_
          refine G.norm (L' := [(1, eL eS 1 b1), (2, .val (.pointer (some ⟨g3, 0, none⟩))), (67, .val x73), (68, .val (.int .i64 (r71.length : Int))), (69, .val (.int .i64 (i75 : Int))), (70, .val (.bool (decide ((i75 : Int) < (r71.length : Int)))))]) (is := [1, 2, 67, 68, 69, 70]) (R' := [.cells g3 29 (lf_T_Program b0), .row x73 47 8 (r71.map e_T_Expr)]) (js := [0, 0]) rfl rfl ?_
          refine G.next_ hK83 ?_
          refine G.seq fun K84 hK85 => ?_
          refine G.no rfl (rng_end hd78) ?_
          refine G.exit ?_
          refine G.thn_exit ?_
          refine G.thn_exit ?_
          refine G.inB_eq ?_
          refine G.norm (L' := [(1, eL eS 1 b1)]) (is := [1]) (R' := []) (js := []) rfl rfl ?_
          exact G.finE fun hb a w hA => by subst hb; exact ⟨_, rfl, hA⟩
         ·rw [roadlaw2_ScopeSays.l1_cons] at hl81
          refine G.use hl81 hA ?_
          refine G.seq fun K86 hK87 => ?_
          refine G.region ?_
          refine G.p rfl (V.bin (u := .int .i64 (i75 : Int)) (v := .int .i64 (r71.length : Int)) (r := .bool (decide ((i75 : Int) < (r71.length : Int)))) rfl rfl b_lss) ?_
          refine G.nil ?_
          refine G.norm (L' := [(1, eL eS 1 b1), (2, .val (.pointer (some ⟨g3, 0, none⟩))), (67, .val x73), (68, .val (.int .i64 (r71.length : Int))), (69, .val (.int .i64 (i75 : Int))), (70, .val (.bool (decide ((i75 : Int) < (r71.length : Int)))))]) (is := [1, 2, 67, 68, 69, 70]) (R' := [.cells g3 29 (lf_T_Program b0), .row x73 47 8 (r71.map e_T_Expr)]) (js := [0, 0]) rfl rfl ?_
          refine G.next_ hK87 ?_
          refine G.seq fun K88 hK89 => ?_
          refine G.yes rfl (rng_more hd78) ?_
          refine G.skip ?_
          refine G.next_ hK89 ?_
          refine G.seq fun K90 hK91 => ?_
          refine G.block ?_
          refine G.seq fun K92 hK93 => ?_
          refine G.region ?_
          refine G.q rfl (V.atT_row (k := i75) (i := 1) (enc := e_T_Expr) (xs := r71) rfl rfl rfl Try.runUnderlying42 Try.sizeOf47 (rng_at hd78)) ?_
          refine G.q rfl (V.rowTN (i := 1) (enc := e_T_Expr) (xs := r71) (j := 0) (c1 := (lf_T_Expr y76)) i75 rfl rfl (rng_at hd78) rfl (c_T_Expr _) rfl rfl rfl Try.isAgg47 Try.sizeOf47) ?_
          refine G.op rfl (O.alloc (ds := [.val (.int .i64 0), .val (.int .i64 0), .val (bs ([] : Str)), .val (.slice none 0 0), .val (.slice none 0 0), .val (.slice none 0 0), .val (.slice none 0 0), .val (.int .i64 0)]) Try.zeroValue47 rfl) fun g94 => ?_
          refine G.opn (O.store (i := 0) (o := 0) (ds := [.val (.int .i64 0), .val (.int .i64 0), .val (bs ([] : Str)), .val (.slice none 0 0), .val (.slice none 0 0), .val (.slice none 0 0), .val (.slice none 0 0), .val (.int .i64 0)]) rfl (.of rfl) rfl (OneC.agg (List.forall_mem_cons.2 ⟨(.val rfl), (List.forall_mem_cons.2 ⟨(.val rfl), (List.forall_mem_cons.2 ⟨(.val rfl), (List.forall_mem_cons.2 ⟨.sl, (List.forall_mem_cons.2 ⟨.sl, (List.forall_mem_cons.2 ⟨.sl, (List.forall_mem_cons.2 ⟨.sl, (List.forall_mem_cons.2 ⟨(.val rfl), (List.forall_mem_nil _)⟩)⟩)⟩)⟩)⟩)⟩)⟩)⟩)) Try.sizeOf47 rfl rfl) fun _ => ?_
          refine G.nil ?_
          refine G.norm (L' := [(1, eL eS 1 b1), (2, .val (.pointer (some ⟨g3, 0, none⟩))), (12, .val (.pointer (some ⟨g94, 0, none⟩))), (67, .val x73), (68, .val (.int .i64 (r71.length : Int))), (69, .val (.int .i64 (i75 : Int)))]) (is := [1, 2, 12, 67, 68, 69]) (R' := [.cells g94 47 (lf_T_Expr y76), .cells g3 29 (lf_T_Program b0), .row x73 47 8 (r71.map e_T_Expr)]) (js := [0, 0, 0]) rfl rfl ?_
          refine G.next_ hK93 ?_
          refine G.seq fun K95 hK96 => ?_
          refine G.region ?_
          refine G.q rfl (V.load_cellN (i := 1) (ds := (lf_T_Program b0)) (c1 := (lf_T_Program b0)) rfl rfl Try.isAgg29 Try.sizeOf29 rfl rfl rfl) ?_
          refine G.p rfl (V.move rfl) ?_
          refine G.q rfl (V.load_cellN (i := 0) (ds := (lf_T_Expr y76)) (c1 := (lf_T_Expr y76)) rfl rfl Try.isAgg47 Try.sizeOf47 rfl rfl rfl) ?_
          refine G.bind fun r97 hr98 => ?_
          refine G.op rfl (O.call (xs := [.tmp 74, .tmp 75, .tmp 76]) (is := []) (Rp := []) (Rr := [.cells g94 47 (lf_T_Expr y76), .cells g3 29 (lf_T_Program b0), .row x73 47 8 (r71.map e_T_Expr)]) (scope_Expr_ok k hr98) (.cons (.of rfl) (.cons (.of rfl) (.cons (.of rfl) .nil))) Try.call13 rfl) fun x99 => ?_
          refine G.p rfl (V.move rfl) ?_
          refine G.p rfl (V.extract (ds := [.val (.int .i64 r97.1), .val (.int .i64 r97.2)]) (d := .val (.int .i64 r97.1)) rfl rfl) ?_
          refine G.p rfl (V.extract (ds := [.val (.int .i64 r97.1), .val (.int .i64 r97.2)]) (d := .val (.int .i64 r97.2)) rfl rfl) ?_
          refine G.p rfl (V.assign rfl) ?_
          refine G.p rfl (V.assign rfl) ?_
          refine G.nil ?_
          refine G.norm (L' := [(1, eL eS 1 b1), (2, .val (.pointer (some ⟨g3, 0, none⟩))), (12, .val (.pointer (some ⟨g94, 0, none⟩))), (13, .val (.int .i64 r97.1)), (14, .val (.int .i64 r97.2)), (67, .val x73), (68, .val (.int .i64 (r71.length : Int))), (69, .val (.int .i64 (i75 : Int)))]) (is := [1, 2, 12, 13, 14, 67, 68, 69]) (R' := [.cells g94 47 (lf_T_Expr y76), .cells g3 29 (lf_T_Program b0), .row x73 47 8 (r71.map e_T_Expr)]) (js := [0, 0, 0]) rfl rfl ?_
          refine G.next_ hK96 ?_
          refine G.seq fun K100 hK101 => ?_
          refine G.region ?_
          refine G.q rfl (V.load_cellN (i := 1) (ds := (lf_T_Program b0)) (c1 := (lf_T_Program b0)) rfl rfl Try.isAgg29 Try.sizeOf29 rfl rfl rfl) ?_
          refine G.p rfl (V.move rfl) ?_
          refine G.q rfl (V.load_cellN (i := 0) (ds := (lf_T_Expr y76)) (c1 := (lf_T_Expr y76)) rfl rfl Try.isAgg47 Try.sizeOf47 rfl rfl rfl) ?_
          refine G.bind fun r102 hr103 => ?_
          refine G.op rfl (O.call (xs := [.tmp 80, .tmp 81, .tmp 82]) (is := []) (Rp := []) (Rr := [.cells g94 47 (lf_T_Expr y76), .cells g3 29 (lf_T_Program b0), .row x73 47 8 (r71.map e_T_Expr)]) (roadref2_ScopeExpr_ok k hr103) (.cons (.of rfl) (.cons (.of rfl) (.cons (.of rfl) .nil))) Try.call14 rfl) fun x104 => ?_
          refine G.op rfl (O.alloc (ds := [.val (.int .i64 0), .val (.int .i64 0)]) Try.zeroValue36 rfl) fun g105 => ?_
          refine G.opn (O.store (i := 0) (o := 0) (ds := [.val (.int .i64 0), .val (.int .i64 0)]) rfl (.of rfl) rfl (OneC.agg (List.forall_mem_cons.2 ⟨(.val rfl), (List.forall_mem_cons.2 ⟨(.val rfl), (List.forall_mem_nil _)⟩)⟩)) Try.sizeOf36 rfl rfl) fun _ => ?_
          refine G.nil ?_
          refine G.norm (L' := [(1, eL eS 1 b1), (2, .val (.pointer (some ⟨g3, 0, none⟩))), (13, .val (.int .i64 r97.1)), (14, .val (.int .i64 r97.2)), (15, .val (.pointer (some ⟨g105, 0, none⟩))), (67, .val x73), (68, .val (.int .i64 (r71.length : Int))), (69, .val (.int .i64 (i75 : Int)))]) (is := [1, 2, 13, 14, 15, 67, 68, 69]) (R' := [.cells g105 36 [.val (.int .i64 r102.fE), .val (.int .i64 r102.fAt)], .cells g3 29 (lf_T_Program b0), .row x73 47 8 (r71.map e_T_Expr)]) (js := [0, 1, 1]) rfl rfl ?_
          refine G.next_ hK101 ?_
          refine G.seq fun K106 hK107 => ?_
          refine G.region ?_
          refine G.p rfl (V.move rfl) ?_
          refine G.p rfl (V.fieldAddr (o' := 0) rfl Try.runUnderlying36 rfl Try.sizeOf32 rfl) ?_
          refine G.q rfl (V.load_cell (i := 0) (ds := [.val (.int .i64 r102.fE), .val (.int .i64 r102.fAt)]) (d := .val (.int .i64 r102.fE)) rfl rfl Try.isAgg32 rfl rfl) ?_
          refine G.p rfl (V.bin (u := .int .i64 r97.1) (v := .int .i64 r102.fE) (r := .bool (r97.1 != r102.fE)) rfl rfl b_neq) ?_
          refine G.p rfl (V.move rfl) ?_
          refine G.cut 5 (fun a w => Ass Gl B 119 [(1, eL eS 1 b1), (2, .val (.pointer (some ⟨g3, 0, none⟩))), (13, .val (.int .i64 r97.1)), (14, .val (.int .i64 r97.2)), (15, .val (.pointer (some ⟨g105, 0, none⟩))), (67, .val x73), (68, .val (.int .i64 (r71.length : Int))), (69, .val (.int .i64 (i75 : Int))), (84, .val (.int .i64 r97.1)), (85, .val (.pointer (some ⟨g105, 0, none⟩))), (86, .val (.int .i64 r102.fE)), (87, .val (.bool (r97.1 != r102.fE))), (88, .val (.bool (r97.1 != r102.fE))), (93, .val (.bool ((r97.1 != r102.fE) || (r97.2 != r102.fAt))))] [.cells g105 36 [.val (.int .i64 r102.fE), .val (.int .i64 r102.fAt)], .cells g3 29 (lf_T_Program b0), .row x73 47 8 (r71.map e_T_Expr)] a w) ?_ ?_
          ·refine G.byb (c := (r97.1 != r102.fE)) (fun hc108 => ?_) (fun hc108 => ?_)
           ·refine G.skip_s rfl rfl hc108 rfl ?_
            refine G.skip_s rfl rfl hc108 rfl ?_
            refine G.skip_s rfl rfl hc108 rfl ?_
            refine G.skip_s rfl rfl hc108 rfl ?_
            refine G.p rfl (V.pick_yes (dv := .val (.bool true)) rfl hc108 rfl) ?_
            refine G.view (congrArg D.val (or_yes (x := (r97.2 != r102.fAt)) hc108)) ?_
            refine G.nil ?_
            refine G.norm (L' := [(1, eL eS 1 b1), (2, .val (.pointer (some ⟨g3, 0, none⟩))), (13, .val (.int .i64 r97.1)), (14, .val (.int .i64 r97.2)), (15, .val (.pointer (some ⟨g105, 0, none⟩))), (67, .val x73), (68, .val (.int .i64 (r71.length : Int))), (69, .val (.int .i64 (i75 : Int))), (84, .val (.int .i64 r97.1)), (85, .val (.pointer (some ⟨g105, 0, none⟩))), (86, .val (.int .i64 r102.fE)), (87, .val (.bool (r97.1 != r102.fE))), (88, .val (.bool (r97.1 != r102.fE))), (93, .val (.bool ((r97.1 != r102.fE) || (r97.2 != r102.fAt))))]) (is := [1, 2, 13, 14, 15, 67, 68, 69, 84, 85, 86, 87, 88, 93]) (R' := [.cells g105 36 [.val (.int .i64 r102.fE), .val (.int .i64 r102.fAt)], .cells g3 29 (lf_T_Program b0), .row x73 47 8 (r71.map e_T_Expr)]) (js := [0, 0, 0]) rfl rfl ?_
            exact G.finE fun _ _ _ h => h
           ·refine G.guard_yes rfl rfl hc108 ?_
            refine G.p rfl (V.move rfl) ?_
            refine G.guard_yes rfl rfl hc108 ?_
            refine G.p rfl (V.fieldAddr (o' := 1) rfl Try.runUnderlying36 rfl Try.sizeOf3 rfl) ?_
            refine G.guard_yes rfl rfl hc108 ?_
            refine G.q rfl (V.load_cell (i := 0) (ds := [.val (.int .i64 r102.fE), .val (.int .i64 r102.fAt)]) (d := .val (.int .i64 r102.fAt)) rfl rfl Try.isAgg3 rfl rfl) ?_
            refine G.guard_yes rfl rfl hc108 ?_
            refine G.p rfl (V.bin (u := .int .i64 r97.2) (v := .int .i64 r102.fAt) (r := .bool (r97.2 != r102.fAt)) rfl rfl b_neq) ?_
            refine G.p rfl (V.pick_no (dv := .val (.bool (r97.2 != r102.fAt))) rfl hc108 rfl) ?_
            refine G.view (congrArg D.val (or_no (x := (r97.2 != r102.fAt)) hc108)) ?_
            refine G.nil ?_
            refine G.norm (L' := [(1, eL eS 1 b1), (2, .val (.pointer (some ⟨g3, 0, none⟩))), (13, .val (.int .i64 r97.1)), (14, .val (.int .i64 r97.2)), (15, .val (.pointer (some ⟨g105, 0, none⟩))), (67, .val x73), (68, .val (.int .i64 (r71.length : Int))), (69, .val (.int .i64 (i75 : Int))), (84, .val (.int .i64 r97.1)), (85, .val (.pointer (some ⟨g105, 0, none⟩))), (86, .val (.int .i64 r102.fE)), (87, .val (.bool (r97.1 != r102.fE))), (88, .val (.bool (r97.1 != r102.fE))), (93, .val (.bool ((r97.1 != r102.fE) || (r97.2 != r102.fAt))))]) (is := [1, 2, 13, 14, 15, 67, 68, 69, 84, 85, 86, 87, 88, 93]) (R' := [.cells g105 36 [.val (.int .i64 r102.fE), .val (.int .i64 r102.fAt)], .cells g3 29 (lf_T_Program b0), .row x73 47 8 (r71.map e_T_Expr)]) (js := [0, 0, 0]) rfl rfl ?_
            exact G.finE fun _ _ _ h => h
          ·intro a w hA hF
           refine G.use hF hA ?_
           refine G.nil ?_
           refine G.norm (L' := [(1, eL eS 1 b1), (2, .val (.pointer (some ⟨g3, 0, none⟩))), (67, .val x73), (68, .val (.int .i64 (r71.length : Int))), (69, .val (.int .i64 (i75 : Int))), (93, .val (.bool ((r97.1 != r102.fE) || (r97.2 != r102.fAt))))]) (is := [1, 2, 67, 68, 69, 93]) (R' := [.cells g3 29 (lf_T_Program b0), .row x73 47 8 (r71.map e_T_Expr)]) (js := [1, 1]) rfl rfl ?_
           refine G.next_ hK107 ?_
           refine G.cond (b := ((r97.1 != r102.fE) || (r97.2 != r102.fAt))) rfl (fun hc109 => ?_) (fun hc109 => ?_)
           ·refine G.norm (L' := []) (is := []) (R' := []) (js := []) rfl rfl ?_
            refine G.seq fun K110 hK111 => ?_
            refine G.region ?_
            refine G.p rfl (V.assign rfl) ?_
            refine G.nil ?_
            refine G.norm (L' := [(4, .val (.bool false))]) (is := [4]) (R' := []) (js := []) rfl rfl ?_
            refine G.next_ hK111 ?_
            refine G.ret ?_
            refine G.inB_ret ?_
            refine G.thn_ret ?_
            refine G.thn_ret ?_
            refine G.inB_ret ?_
            refine G.thn_ret ?_
            refine G.thn_ret ?_
            refine G.fin_ fun hF112 => ?_
            have hb113 := Option.some.inj hF112
            subst hb113
            have hF114 : (some false : Option (Bool)) = some _ := hF80
            obtain rfl := Option.some.inj hF114
            exact G.ret1 Try.results3 () (is := []) (.of rfl) rfl
           ·refine G.norm (L' := [(1, eL eS 1 b1), (2, .val (.pointer (some ⟨g3, 0, none⟩))), (67, .val x73), (68, .val (.int .i64 (r71.length : Int))), (69, .val (.int .i64 (i75 : Int)))]) (is := [1, 2, 67, 68, 69]) (R' := [.cells g3 29 (lf_T_Program b0), .row x73 47 8 (r71.map e_T_Expr)]) (js := [0, 0]) rfl rfl ?_
            refine G.skip ?_
            refine G.inB ?_
            refine G.next_ hK91 ?_
            refine G.region ?_
            refine G.p rfl (V.incr (i := i75) (N := r71.length) rfl rfl (rng_lt hd78) (hN74)) ?_
            refine G.p rfl (V.move rfl) ?_
            refine G.nil ?_
            refine G.norm (L' := [(1, eL eS 1 b1), (2, .val (.pointer (some ⟨g3, 0, none⟩))), (67, .val x73), (68, .val (.int .i64 (r71.length : Int))), (69, .val (.int .i64 ((i75 + 1 : Nat) : Int)))]) (is := [1, 2, 67, 68, 69]) (R' := [.cells g3 29 (lf_T_Program b0), .row x73 47 8 (r71.map e_T_Expr)]) (js := [0, 0]) rfl rfl ?_
            refine G.again ?_
            intro hl115 a w hA
            exact ⟨_, Nat.lt_succ_self _, rest77, i75 + 1, rfl, hl115, rng_next hd78, hA⟩
       ·rintro _ hb a w ⟨b117, rfl, hA⟩ hF118
        refine G.use hF118 hA ?_
        refine G.inr ?_
        refine G.next_ hK68 ?_
        refine G.seq fun K119 hK120 => ?_
        refine G.region ?_
        refine G.p rfl (V.assign rfl) ?_
        refine G.nil ?_
        refine G.norm (L' := [(1, eL eS 1 b1), (16, .val (.bool false))]) (is := [1, 16]) (R' := []) (js := []) rfl rfl ?_
        refine G.next_ hK120 ?_
        refine G.seq fun K121 hK122 => ?_
        refine G.seq fun K123 hK124 => ?_
        refine G.region ?_
        refine G.p rfl (V.move rfl) ?_
        refine G.lenb (enc := eS) (xs := b1) (sz := 1) (x := .tmp 95) (.of rfl) fun hN125 => ?_
        refine G.p rfl (V.len_sl (enc := eS) (xs := b1) (sz := 1) (.of rfl) Try.runUnderlying30) ?_
        refine G.p rfl (V.move rfl) ?_
        refine G.nil ?_
        refine G.norm (L' := [(1, eL eS 1 b1), (16, .val (.bool false)), (95, eL eS 1 b1), (96, .val (.int .i64 (b1.length : Int))), (97, .val (.int .i64 0))]) (is := [1, 16, 95, 96, 97]) (R' := []) (js := []) rfl rfl ?_
        refine G.next_ hK124 ?_
        refine G.join (E := fun b a w => Ass Gl B 119 [(1, eL eS 1 b1), (16, .val (.bool b))] [] a w) ?_ ?_
        ·intro b hF132
         refine G.block ?_
         refine G.norm (L' := [(1, eL eS 1 b1), (16, .val (.bool false)), (95, eL eS 1 b1), (96, .val (.int .i64 (b1.length : Int))), (97, .val (.int .i64 ((0 : Nat) : Int)))]) (is := [1, 16, 95, 96, 97]) (R' := []) (js := []) rfl rfl ?_
         refine G.loop (fun kq a w => ∃ (rest129 : List (Str)) (i127 : Nat) (x126 : Bool), kq = rest129.length ∧ roadlaw2_ScopeSays.l2 b1 rest129 i127 x126 = some b ∧ b1.drop i127 = rest129 ∧ Ass Gl B 119 [(1, eL eS 1 b1), (16, .val (.bool x126)), (95, eL eS 1 b1), (96, .val (.int .i64 (b1.length : Int))), (97, .val (.int .i64 (i127 : Int)))] [] a w) (b1.length) ?_ ?_
         ·intro hl155 a w hA
          exact ⟨b1, 0, false, rfl, hl155, rfl, hA⟩
         ·rintro _ a w ⟨rest129, i127, x126, rfl, hl133, hd130, hA⟩
          rcases rest129 with _ | ⟨y128, rest129⟩
          ·rw [roadlaw2_ScopeSays.l2_nil] at hl133
           refine G.use hl133 hA ?_
           refine G.seq fun K134 hK135 => ?_
           refine G.region ?_
           refine G.p rfl (V.bin (u := .int .i64 (i127 : Int)) (v := .int .i64 (b1.length : Int)) (r := .bool (decide ((i127 : Int) < (b1.length : Int)))) rfl rfl b_lss) ?_
           refine G.nil ?_
           refine G.norm (L' := [(1, eL eS 1 b1), (16, .val (.bool x126)), (95, eL eS 1 b1), (96, .val (.int .i64 (b1.length : Int))), (97, .val (.int .i64 (i127 : Int))), (98, .val (.bool (decide ((i127 : Int) < (b1.length : Int)))))]) (is := [1, 16, 95, 96, 97, 98]) (R' := []) (js := []) rfl rfl ?_
           refine G.next_ hK135 ?_
           refine G.seq fun K136 hK137 => ?_
           refine G.no rfl (rng_end hd130) ?_
           refine G.exit ?_
           refine G.thn_exit ?_
           refine G.thn_exit ?_
           refine G.inB_eq ?_
           refine G.norm (L' := [(1, eL eS 1 b1), (16, .val (.bool x126))]) (is := [1, 16]) (R' := []) (js := []) rfl rfl ?_
           exact G.finE fun hb a w hA => by subst hb; exact hA
          ·rw [roadlaw2_ScopeSays.l2_cons] at hl133
           refine G.use hl133 hA ?_
           refine G.seq fun K138 hK139 => ?_
           refine G.region ?_
           refine G.p rfl (V.bin (u := .int .i64 (i127 : Int)) (v := .int .i64 (b1.length : Int)) (r := .bool (decide ((i127 : Int) < (b1.length : Int)))) rfl rfl b_lss) ?_
           refine G.nil ?_
           refine G.norm (L' := [(1, eL eS 1 b1), (16, .val (.bool x126)), (95, eL eS 1 b1), (96, .val (.int .i64 (b1.length : Int))), (97, .val (.int .i64 (i127 : Int))), (98, .val (.bool (decide ((i127 : Int) < (b1.length : Int)))))]) (is := [1, 16, 95, 96, 97, 98]) (R' := []) (js := []) rfl rfl ?_
           refine G.next_ hK139 ?_
           refine G.seq fun K140 hK141 => ?_
           refine G.yes rfl (rng_more hd130) ?_
           refine G.skip ?_
           refine G.next_ hK141 ?_
           refine G.seq fun K142 hK143 => ?_
           refine G.block ?_
           refine G.seq fun K144 hK145 => ?_
           refine G.region ?_
           refine G.p rfl (V.move rfl) ?_
           refine G.p rfl (V.at_sl (k := i127) rfl rfl Try.runUnderlying30 Try.sizeOf9 (map_at (rng_at hd130))) ?_
           refine G.q rfl (V.load_ptr (d := .val (bs y128)) rfl Try.isAgg9 rfl) ?_
           refine G.p rfl (V.assign rfl) ?_
           refine G.p rfl (V.assign rfl) ?_
           refine G.nil ?_
           refine G.norm (L' := [(1, eL eS 1 b1), (16, .val (.bool x126)), (17, .val (.int .i64 (i127 : Int))), (18, .val (bs y128)), (95, eL eS 1 b1), (96, .val (.int .i64 (b1.length : Int))), (97, .val (.int .i64 (i127 : Int)))]) (is := [1, 16, 17, 18, 95, 96, 97]) (R' := []) (js := []) rfl rfl ?_
           refine G.next_ hK145 ?_
           refine G.region ?_
           refine G.p rfl (V.move rfl) ?_
           refine G.p rfl (V.move rfl) ?_
           refine G.part 6 (fun b a w => Ass Gl B 119 [(1, eL eS 1 b1), (16, .val (.bool x126)), (17, .val (.int .i64 (i127 : Int))), (18, .val (bs y128)), (95, eL eS 1 b1), (96, .val (.int .i64 (b1.length : Int))), (97, .val (.int .i64 (i127 : Int))), (102, .val (.bool x126)), (103, .val (.bool x126)), (109, .val (.bool b))] [] a w) ?_ ?_
           ·intro b
            refine G.ifb (fun hc146 => ?_) (fun hc146 => ?_)
            ·refine G.skip_s rfl rfl hc146 rfl ?_
             refine G.skip_s rfl rfl hc146 rfl ?_
             refine G.skip_s rfl rfl hc146 rfl ?_
             refine G.skip_s rfl rfl hc146 rfl ?_
             refine G.skip_s rfl rfl hc146 rfl ?_
             refine G.p rfl (V.pick_yes (dv := .val (.bool true)) rfl hc146 rfl) ?_
             refine G.nil ?_
             refine G.norm (L' := [(1, eL eS 1 b1), (16, .val (.bool x126)), (17, .val (.int .i64 (i127 : Int))), (18, .val (bs y128)), (95, eL eS 1 b1), (96, .val (.int .i64 (b1.length : Int))), (97, .val (.int .i64 (i127 : Int))), (102, .val (.bool x126)), (103, .val (.bool x126)), (109, .val (.bool true))]) (is := [1, 16, 17, 18, 95, 96, 97, 102, 103, 109]) (R' := []) (js := []) rfl rfl ?_
             exact G.finE fun hb a w hA => by subst hb; exact hA
            ·refine G.guard_yes rfl rfl hc146 ?_
             refine G.p rfl (V.move rfl) ?_
             refine G.guard_yes rfl rfl hc146 ?_
             refine G.p rfl (V.move rfl) ?_
             refine G.guard_yes rfl rfl hc146 ?_
             refine G.bind fun l149 hl150 => ?_
             refine G.p rfl (V.sub_sl (enc := eS) (xs := b1) (l := 0) (h := (i127 : Int)) (.of rfl) Try.runUnderlying30 Try.sizeOf9 rfl rfl hl150) ?_
             refine G.guard_yes rfl rfl hc146 ?_
             refine G.p rfl (V.move rfl) ?_
             refine G.guard_yes rfl rfl hc146 ?_
             refine G.bind fun r151 hr152 => ?_
             refine G.op rfl (O.call (xs := [.tmp 106, .tmp 107]) (is := []) (Rp := []) (Rr := []) (slices_Contains_string_string_ok hr152) (.cons (.of rfl) (.cons (.of rfl) .nil)) Try.call15 rfl) fun x153 => ?_
             refine G.p rfl (V.pick_no (dv := .val (.bool r151)) rfl hc146 rfl) ?_
             refine G.nil ?_
             refine G.norm (L' := [(1, eL eS 1 b1), (16, .val (.bool x126)), (17, .val (.int .i64 (i127 : Int))), (18, .val (bs y128)), (95, eL eS 1 b1), (96, .val (.int .i64 (b1.length : Int))), (97, .val (.int .i64 (i127 : Int))), (102, .val (.bool x126)), (103, .val (.bool x126)), (109, .val (.bool r151))]) (is := [1, 16, 17, 18, 95, 96, 97, 102, 103, 109]) (R' := []) (js := []) rfl rfl ?_
             exact G.finE fun hb a w hA => by subst hb; exact hA
           ·rintro t147 hb a w hA hF
            refine G.use hF hA ?_
            refine G.p rfl (V.assign rfl) ?_
            refine G.nil ?_
            refine G.norm (L' := [(1, eL eS 1 b1), (16, .val (.bool t147)), (95, eL eS 1 b1), (96, .val (.int .i64 (b1.length : Int))), (97, .val (.int .i64 (i127 : Int)))]) (is := [1, 16, 95, 96, 97]) (R' := []) (js := []) rfl rfl ?_
            refine G.inB ?_
            refine G.next_ hK143 ?_
            refine G.region ?_
            refine G.p rfl (V.incr (i := i127) (N := b1.length) rfl rfl (rng_lt hd130) (hN125)) ?_
            refine G.p rfl (V.move rfl) ?_
            refine G.nil ?_
            refine G.norm (L' := [(1, eL eS 1 b1), (16, .val (.bool t147)), (95, eL eS 1 b1), (96, .val (.int .i64 (b1.length : Int))), (97, .val (.int .i64 ((i127 + 1 : Nat) : Int)))]) (is := [1, 16, 95, 96, 97]) (R' := []) (js := []) rfl rfl ?_
            refine G.again ?_
            intro hl154 a w hA
            exact ⟨_, Nat.lt_succ_self _, rest129, i127 + 1, t147, rfl, hl154, rng_next hd130, hA⟩
        ·rintro b156 hb a w hA hF157
         refine G.use hF157 hA ?_
         refine G.next_ hK122 ?_
         refine G.seq fun K158 hK159 => ?_
         refine G.region ?_
         refine G.p rfl (V.move rfl) ?_
         refine G.bind fun r160 hr161 => ?_
         refine G.op rfl (O.call (xs := [.tmp 111]) (is := []) (Rp := []) (Rr := []) (scope_Twice_ok hr161) (.cons (.of rfl) .nil) Try.call16 rfl) fun x162 => ?_
         refine G.p rfl (V.move rfl) ?_
         refine G.p rfl (V.bin (u := .bool r160) (v := .bool b156) (r := .bool (r160 == b156)) rfl rfl (b_beql Try.underlying4)) ?_
         refine G.p rfl (V.move rfl) ?_
         refine G.part 3 (fun b a w => Ass Gl B 119 [(1, eL eS 1 b1), (16, .val (.bool b156)), (111, eL eS 1 b1), (112, .val (.bool r160)), (113, .val (.bool b156)), (114, .val (.bool (r160 == b156))), (115, .val (.bool (r160 == b156))), (118, .val (.bool b))] [] a w) ?_ ?_
         ·intro b
          refine G.ifb (fun hc163 => ?_) (fun hc163 => ?_)
          ·refine G.guard_yes rfl rfl hc163 ?_
           refine G.op rfl (O.buildSlice (xs := [_, _]) (ds := ([([97] : Str), ([97] : Str)] : List Str).map eS) elt30 rfl (.cons (.of rfl) (.cons (.of rfl) .nil)) rfl (by decide) (List.forall_mem_cons.2 ⟨(fun c hc => ((fun _ => one_S) _ c hc).mono), (List.forall_mem_cons.2 ⟨(fun c hc => ((fun _ => one_S) _ c hc).mono), (List.forall_mem_nil _)⟩)⟩) (List.forall_mem_cons.2 ⟨rfl, (List.forall_mem_cons.2 ⟨rfl, (List.forall_mem_nil _)⟩)⟩)) fun v166 => ?_
           refine G.guard_yes rfl rfl hc163 ?_
           refine G.norm (L' := [(1, eL eS 1 b1), (16, .val (.bool b156)), (111, eL eS 1 b1), (112, .val (.bool r160)), (113, .val (.bool b156)), (114, .val (.bool (r160 == b156))), (115, .val (.bool (r160 == b156))), (116, .val v166)]) (is := [1, 16, 111, 112, 113, 114, 115, 116]) (R' := [.row v166 9 1 (([([97] : Str), ([97] : Str)] : List Str).map eS)]) (js := [0]) rfl rfl ?_
           refine G.freeze 0 (L' := [(1, eL eS 1 b1), (16, .val (.bool b156)), (111, eL eS 1 b1), (112, .val (.bool r160)), (113, .val (.bool b156)), (114, .val (.bool (r160 == b156))), (115, .val (.bool (r160 == b156))), (116, eL eS 1 ([([97] : Str), ([97] : Str)] : List Str))]) (R' := []) rfl (fun S w h => .cons .refl (.cons .refl (.cons .refl (.cons .refl (.cons .refl (.cons .refl (.cons .refl (.cons (.fz h) .nil)))))))) (fun S w h => .nil) ?_
           refine G.bind fun r167 hr168 => ?_
           refine G.op rfl (O.call (xs := [.tmp 116]) (is := []) (Rp := []) (Rr := []) (scope_Twice_ok hr168) (.cons (.of rfl) .nil) Try.call16 rfl) fun x169 => ?_
           refine G.p rfl (V.pick_yes (dv := .val (.bool r167)) rfl hc163 rfl) ?_
           refine G.nil ?_
           refine G.norm (L' := [(1, eL eS 1 b1), (16, .val (.bool b156)), (111, eL eS 1 b1), (112, .val (.bool r160)), (113, .val (.bool b156)), (114, .val (.bool (r160 == b156))), (115, .val (.bool (r160 == b156))), (118, .val (.bool r167))]) (is := [1, 16, 111, 112, 113, 114, 115, 118]) (R' := []) (js := []) rfl rfl ?_
           exact G.finE fun hb a w hA => by subst hb; exact hA
          ·refine G.skip_s rfl rfl hc163 rfl ?_
           refine G.skip_s rfl rfl hc163 rfl ?_
           refine G.p rfl (V.pick_no (dv := .val (.bool false)) rfl hc163 rfl) ?_
           refine G.nil ?_
           refine G.norm (L' := [(1, eL eS 1 b1), (16, .val (.bool b156)), (111, eL eS 1 b1), (112, .val (.bool r160)), (113, .val (.bool b156)), (114, .val (.bool (r160 == b156))), (115, .val (.bool (r160 == b156))), (118, .val (.bool false))]) (is := [1, 16, 111, 112, 113, 114, 115, 118]) (R' := []) (js := []) rfl rfl ?_
           exact G.finE fun hb a w hA => by subst hb; exact hA
         ·rintro t164 hb a w hA hF
          refine G.use hF hA ?_
          refine G.p rfl (V.assign rfl) ?_
          refine G.nil ?_
          refine G.norm (L' := [(4, .val (.bool t164))]) (is := [4]) (R' := []) (js := []) rfl rfl ?_
          refine G.next_ hK159 ?_
          refine G.ret ?_
          refine G.fin_ fun hF170 => ?_
          obtain rfl := Option.some.inj hF170
          exact G.ret1 Try.results3 () (is := []) (.of rfl) rfl
end Go.Proofs.Ythbgngdoihkodac.Hx
