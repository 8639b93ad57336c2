/- roadstead: ScopeSays. This text: Sc. Conditions: none beyond those that the statement itself names. -/
import Derived.Test.YthbgngdoihkodacSc0
namespace Go.Proofs.Ythbgngdoihkodac.Hx
open Go Go.Proofs.Ythbgngdoihkodac.Hx Go.RowKit Go.Proofs Go.Shelf
/-! roadstead/scope.newResolver -/
def scope_newResolver.Spec (F : T_Program → Option ((List (Str × Bool)) × (List (Str × Bool)) × (List (Str × Bool)))) : Prop := ∀ {b0 : T_Program} {out : (List (Str × Bool)) × (List (Str × Bool)) × (List (Str × Bool))}, F b0 = some out → Ct Gl Try.prog 19 [.agg (lf_T_Program b0)] [] (fun x : Nat × Nat × Nat × Nat => .val (.pointer (some ⟨x.1, 0, none⟩))) (fun x : Nat × Nat × Nat × Nat => [.cells x.1 90 [.val (.map (some x.2.1)), .val (.map (some x.2.2.1)), .val (.map (some x.2.2.2)), .val (.map none)], .map x.2.1 (encM bs eB out.1), .map x.2.2.1 (encM bs eB out.2.1), .map x.2.2.2 (encM bs eB out.2.2)])
def scope_newResolver (b0 : T_Program) : Option ((List (Str × Bool)) × (List (Str × Bool)) × (List (Str × Bool))) := (scope_Makers b0).bind fun r6 => (scope_set r6).bind fun r9 => (scope_Callable b0).bind fun r12 => (scope_set r12).bind fun r15 => (scope_Actors b0).bind fun r18 => (scope_set r18).bind fun r21 => some (r9, r15, r21)
set_option maxRecDepth 100000 in
theorem scope_newResolver_ok : scope_newResolver.Spec (scope_newResolver) := by
 intro b0 out hp
 refine ct_of_G (nt := 14) Try.func19 rfl Try.ntmps19 rfl (fun B => ?_) hp
 unfold scope_newResolver
 refine G.seq fun K1 hK2 => ?_
 refine G.region ?_
 refine G.op rfl (O.box (.of rfl) (OneC.agg (List.forall_mem_cons.2 ⟨(.val rfl), (List.forall_mem_cons.2 ⟨(.val rfl), (List.forall_mem_cons.2 ⟨.sl, (List.forall_mem_cons.2 ⟨.sl, (List.forall_mem_cons.2 ⟨.sl, (List.forall_mem_cons.2 ⟨.sl, (List.forall_mem_cons.2 ⟨.sl, (List.forall_mem_cons.2 ⟨.sl, (List.forall_mem_nil _)⟩)⟩)⟩)⟩)⟩)⟩)⟩)⟩))) fun g3 => ?_
 refine G.p rfl (V.assign rfl) ?_
 refine G.nil ?_
 refine G.norm (L' := [(1, .val (.pointer (some ⟨g3, 0, none⟩)))]) (is := [1]) (R' := [.cells g3 29 (lf_T_Program b0)]) (js := [0]) rfl rfl ?_
 refine G.next_ hK2 ?_
 refine G.seq fun K4 hK5 => ?_
 refine G.bind fun r6 hr7 => ?_
 refine G.bind fun r9 hr10 => ?_
 refine G.bind fun r12 hr13 => ?_
 refine G.bind fun r15 hr16 => ?_
 refine G.bind fun r18 hr19 => ?_
 refine G.bind fun r21 hr22 => ?_
 refine G.draw [] Try_mixed 12 rfl rfl (fun B1 => ?_)
 refine GH.take 0 rfl rfl (by kernel_rfl) (by kernel_rfl) (by kernel_rfl) (V.load_cellN (i := 0) (ds := (lf_T_Program b0)) (c1 := (lf_T_Program b0)) rfl rfl Try.isAgg29 Try.sizeOf29 rfl rfl rfl) (fun _ _ _ _ h => h) ?_
 refine GH.take 3 rfl rfl (by kernel_rfl) (by kernel_rfl) (by kernel_rfl) (V.load_cellN (i := 0) (ds := (lf_T_Program b0)) (c1 := (lf_T_Program b0)) rfl rfl Try.isAgg29 Try.sizeOf29 rfl rfl rfl) (fun _ _ _ _ h => h) ?_
 refine GH.take 6 rfl rfl (by kernel_rfl) (by kernel_rfl) (by kernel_rfl) (V.load_cellN (i := 0) (ds := (lf_T_Program b0)) (c1 := (lf_T_Program b0)) rfl rfl Try.isAgg29 Try.sizeOf29 rfl rfl rfl) (fun _ _ _ _ h => h) ?_
 refine GH.all [1] (by kernel_rfl) (by decide) ?_
 refine (all_cons ?_ (List.forall_mem_nil _))
 ·refine GH.loud rfl rfl (O.call (xs := [.tmp 3]) (is := []) (Rp := []) (Rr := []) (scope_Makers_ok hr7) (.cons (.of rfl) .nil) Try.call9 rfl) fun x31 => ?_
  refine GH.all [2] (by kernel_rfl) (by decide) ?_
  refine (all_cons ?_ (List.forall_mem_nil _))
  ·refine GH.freeze 0 (L2' := [(4, eL eS 1 r6)]) (R' := []) rfl (fun S w h => .cons (.fz h) .nil) (fun S w h => .nil) ?_
   refine GH.loud rfl rfl (O.call (xs := [.tmp 4]) (is := []) (Rp := []) (Rr := []) (scope_set_ok hr10) (.cons (.of rfl) .nil) Try.call31 rfl) fun x32 => ?_
   refine GH.lift Ind.val ?_
   refine GH.all [4] (by kernel_rfl) (by decide) ?_
   refine (all_cons ?_ (List.forall_mem_nil _))
   ·refine GH.loud rfl rfl (O.call (xs := [.tmp 6]) (is := []) (Rp := []) (Rr := [.map x32 (encM bs eB r9)]) (scope_Callable_ok hr13) (.cons (.of rfl) .nil) Try.call10 rfl) fun x35 => ?_
    refine GH.all [5] (by kernel_rfl) (by decide) ?_
    refine (all_cons ?_ (List.forall_mem_nil _))
    ·refine GH.freeze 0 (L2' := [(7, eL eS 1 r12), (4, eL eS 1 r6)]) (R' := [.map x32 (encM bs eB r9)]) rfl (fun S w h => .cons (.fz h) (.cons .refl .nil)) (fun S w h => .same .nil) ?_
     refine GH.loud rfl rfl (O.call (xs := [.tmp 7]) (is := []) (Rp := []) (Rr := [.map x32 (encM bs eB r9)]) (scope_set_ok hr16) (.cons (.of rfl) .nil) Try.call31 rfl) fun x36 => ?_
     refine GH.lift Ind.val ?_
     refine GH.all [7] (by kernel_rfl) (by decide) ?_
     refine (all_cons ?_ (List.forall_mem_nil _))
     ·refine GH.loud rfl rfl (O.call (xs := [.tmp 9]) (is := []) (Rp := []) (Rr := [.map x36 (encM bs eB r15), .map x32 (encM bs eB r9)]) (scope_Actors_ok hr19) (.cons (.of rfl) .nil) Try.call11 rfl) fun x39 => ?_
      refine GH.all [8] (by kernel_rfl) (by decide) ?_
      refine (all_cons ?_ (List.forall_mem_nil _))
      ·refine GH.freeze 0 (L2' := [(10, eL eS 1 r18), (7, eL eS 1 r12), (4, eL eS 1 r6)]) (R' := [.map x36 (encM bs eB r15), .map x32 (encM bs eB r9)]) rfl (fun S w h => .cons (.fz h) (.cons .refl (.cons .refl .nil))) (fun S w h => .same (.same .nil)) ?_
       refine GH.loud rfl rfl (O.call (xs := [.tmp 10]) (is := []) (Rp := []) (Rr := [.map x36 (encM bs eB r15), .map x32 (encM bs eB r9)]) (scope_set_ok hr22) (.cons (.of rfl) .nil) Try.call31 rfl) fun x40 => ?_
       refine GH.lift Ind.val ?_
       refine GH.take 9 rfl rfl (by kernel_rfl) (by kernel_rfl) (by kernel_rfl) (V.build (out := [.val (.map (some x32)), .val (.map (some x36)), .val (.map (some x40)), .val (.map none)]) blt90 (.cons (.of rfl) (.cons (.of rfl) (.cons (.of rfl) .nil))) (List.forall_mem_cons.2 ⟨(OneC.leaf (.val rfl)), (List.forall_mem_cons.2 ⟨(OneC.leaf (.val rfl)), (List.forall_mem_cons.2 ⟨(OneC.leaf (.val rfl)), (List.forall_mem_nil _)⟩)⟩)⟩) rfl) (fun _ _ _ _ h => h) ?_
       refine GH.all [10] (by kernel_rfl) (by decide) ?_
       refine (all_cons ?_ (List.forall_mem_nil _))
       ·refine GH.loud rfl rfl (O.box (.of rfl) (OneC.agg (List.forall_mem_cons.2 ⟨(.val rfl), (List.forall_mem_cons.2 ⟨(.val rfl), (List.forall_mem_cons.2 ⟨(.val rfl), (List.forall_mem_cons.2 ⟨(.val rfl), (List.forall_mem_nil _)⟩)⟩)⟩)⟩))) fun g43 => ?_
        refine GH.lift Ind.val ?_
        refine GH.take 11 rfl rfl (by kernel_rfl) (by kernel_rfl) (by kernel_rfl) (Qp.qv (V.assign rfl)) (fun _ _ _ _ h => h) ?_
        refine GH.done (is := [2]) (js := [0, 0, 0, 0]) (L' := [(2, .val (.pointer (some ⟨g43, 0, none⟩)))]) (R' := [.cells g43 90 [.val (.map (some x32)), .val (.map (some x36)), .val (.map (some x40)), .val (.map none)], .map x40 (encM bs eB r21), .map x36 (encM bs eB r15), .map x32 (encM bs eB r9)]) (by kernel_rfl) rfl rfl ?_
        refine G.next_ hK5 ?_
        refine G.ret ?_
        refine G.fin_ fun hF44 => ?_
        obtain rfl := Option.some.inj hF44
        exact G.ret1 Try.results19 (g43, x32, x36, x40) (is := [0, 2, 1, 0]) (.of rfl) rfl
/-! roadstead/tree.Bound -/
def tree_Bound.l1 (rec_tree_Bound : T_Pat → Option (List Str)) : List (T_Pat) → (List Str) → Option (List Str)
  | [], x25 => some x25
  | y28 :: rest29, x25 => (rec_tree_Bound y28).bind fun r47 => (app 8796093022208 x25 r47).bind fun l50 => tree_Bound.l1 rec_tree_Bound rest29 l50

theorem tree_Bound.l1_nil (rec_tree_Bound : T_Pat → Option (List Str)) {x25 : List Str} : tree_Bound.l1 rec_tree_Bound [] x25 = some x25 := rfl
theorem tree_Bound.l1_cons (rec_tree_Bound : T_Pat → Option (List Str)) {y28 : T_Pat} {rest29 : List (T_Pat)} {x25 : List Str} : tree_Bound.l1 rec_tree_Bound (y28 :: rest29) x25 = (rec_tree_Bound y28).bind fun r47 => (app 8796093022208 x25 r47).bind fun l50 => tree_Bound.l1 rec_tree_Bound rest29 l50 := rfl
def tree_Bound.Spec (F : T_Pat → Option (List Str)) : Prop := ∀ {b0 : T_Pat} {out : List Str}, F b0 = some out → Ct Gl Try.prog 40 [.agg (lf_T_Pat b0)] [] (fun x : Value => .val x) (fun x : Value => [.row x 9 1 (out.map eS)])
def tree_Bound.body (rec_tree_Bound : T_Pat → Option (List Str)) (b0 : T_Pat) : Option (List Str) := (if (b0.fKind == 2) = true then some ([b0.fText] : List Str) else (if (b0.fKind == 6) = true then (tree_Bound.l1 rec_tree_Bound b0.fArgs ([] : List Str)).bind fun b55 => some b55 else some ([] : List Str)))
def tree_Bound.all : Nat → (T_Pat → Option (List Str))
  | 0 => fun _ => none
  | k + 1 => tree_Bound.body (tree_Bound.all k) 
set_option maxRecDepth 100000 in
theorem tree_Bound.body_ok {rec_tree_Bound : T_Pat → Option (List Str)} (hrec_tree_Bound : tree_Bound.Spec rec_tree_Bound) : tree_Bound.Spec (tree_Bound.body rec_tree_Bound ) := by
 intro b0 out hp
 refine ct_of_G (nt := 28) Try.func40 rfl Try.ntmps40 rfl (fun B => ?_) hp
 unfold tree_Bound.body
 refine G.seq fun K1 hK2 => ?_
 refine G.region ?_
 refine G.op rfl (O.box (.of rfl) (OneC.agg (List.forall_mem_cons.2 ⟨(.val rfl), (List.forall_mem_cons.2 ⟨(.val rfl), (List.forall_mem_cons.2 ⟨(.val rfl), (List.forall_mem_cons.2 ⟨.sl, (List.forall_mem_nil _)⟩)⟩)⟩)⟩))) fun g3 => ?_
 refine G.p rfl (V.assign rfl) ?_
 refine G.nil ?_
 refine G.norm (L' := [(1, .val (.pointer (some ⟨g3, 0, none⟩)))]) (is := [1]) (R' := [.cells g3 83 (lf_T_Pat b0)]) (js := [0]) rfl rfl ?_
 refine G.next_ hK2 ?_
 refine G.seq fun K4 hK5 => ?_
 refine G.seq fun K6 hK7 => ?_
 refine G.region ?_
 refine G.p rfl (V.fieldAddr (o' := 0) rfl Try.runUnderlying83 rfl Try.sizeOf3 rfl) ?_
 refine G.q rfl (V.load_cell (i := 0) (ds := (lf_T_Pat b0)) (d := .val (.int .i64 b0.fKind)) rfl rfl Try.isAgg3 rfl rfl) ?_
 refine G.nil ?_
 refine G.norm (L' := [(1, .val (.pointer (some ⟨g3, 0, none⟩))), (7, .val (.int .i64 b0.fKind))]) (is := [1, 7]) (R' := [.cells g3 83 (lf_T_Pat b0)]) (js := [0]) rfl rfl ?_
 refine G.next_ hK7 ?_
 refine G.block ?_
 refine G.seq fun K8 hK9 => ?_
 refine G.region ?_
 refine G.p rfl (V.bin (u := .int .i64 b0.fKind) (v := .int .i64 2) (r := .bool (b0.fKind == 2)) rfl rfl b_eql) ?_
 refine G.p rfl (V.assign rfl) ?_
 refine G.nil ?_
 refine G.norm (L' := [(1, .val (.pointer (some ⟨g3, 0, none⟩))), (7, .val (.int .i64 b0.fKind)), (8, .val (.bool (b0.fKind == 2)))]) (is := [1, 7, 8]) (R' := [.cells g3 83 (lf_T_Pat b0)]) (js := [0]) rfl rfl ?_
 refine G.next_ hK9 ?_
 refine G.cond (b := (b0.fKind == 2)) rfl (fun hc10 => ?_) (fun hc10 => ?_)
 ·refine G.norm (L' := [(1, .val (.pointer (some ⟨g3, 0, none⟩)))]) (is := [1]) (R' := [.cells g3 83 (lf_T_Pat b0)]) (js := [0]) rfl rfl ?_
  refine G.seq fun K11 hK12 => ?_
  refine G.region ?_
  refine G.p rfl (V.fieldAddr (o' := 2) rfl Try.runUnderlying83 rfl Try.sizeOf9 rfl) ?_
  refine G.q rfl (V.load_cell (i := 0) (ds := (lf_T_Pat b0)) (d := .val (bs b0.fText)) rfl rfl Try.isAgg9 rfl rfl) ?_
  refine G.op rfl (O.buildSlice (xs := [.tmp 11]) (ds := ([b0.fText] : List Str).map eS) elt30 rfl (.cons (.of rfl) .nil) rfl (by decide) (List.forall_mem_cons.2 ⟨(fun c hc => ((fun _ => one_S) _ c hc).mono), (List.forall_mem_nil _)⟩) (List.forall_mem_cons.2 ⟨rfl, (List.forall_mem_nil _)⟩)) fun v13 => ?_
  refine G.p rfl (V.assign rfl) ?_
  refine G.nil ?_
  refine G.norm (L' := [(2, .val v13)]) (is := [2]) (R' := [.row v13 9 1 (([b0.fText] : List Str).map eS)]) (js := [0]) rfl rfl ?_
  refine G.next_ hK12 ?_
  refine G.ret ?_
  refine G.inB_ret ?_
  refine G.thn_ret ?_
  refine G.fin_ fun hF14 => ?_
  obtain rfl := Option.some.inj hF14
  exact G.ret1 Try.results40 v13 (is := [0]) (.of rfl) rfl
 ·refine G.norm (L' := [(1, .val (.pointer (some ⟨g3, 0, none⟩))), (7, .val (.int .i64 b0.fKind))]) (is := [1, 7]) (R' := [.cells g3 83 (lf_T_Pat b0)]) (js := [0]) rfl rfl ?_
  refine G.seq fun K15 hK16 => ?_
  refine G.region ?_
  refine G.p rfl (V.bin (u := .int .i64 b0.fKind) (v := .int .i64 6) (r := .bool (b0.fKind == 6)) rfl rfl b_eql) ?_
  refine G.p rfl (V.assign rfl) ?_
  refine G.nil ?_
  refine G.norm (L' := [(1, .val (.pointer (some ⟨g3, 0, none⟩))), (13, .val (.bool (b0.fKind == 6)))]) (is := [1, 13]) (R' := [.cells g3 83 (lf_T_Pat b0)]) (js := [0]) rfl rfl ?_
  refine G.next_ hK16 ?_
  refine G.cond (b := (b0.fKind == 6)) rfl (fun hc17 => ?_) (fun hc17 => ?_)
  ·refine G.norm (L' := [(1, .val (.pointer (some ⟨g3, 0, none⟩)))]) (is := [1]) (R' := [.cells g3 83 (lf_T_Pat b0)]) (js := [0]) rfl rfl ?_
   refine G.seq fun K18 hK19 => ?_
   refine G.region ?_
   refine G.p rfl (V.assign rfl) ?_
   refine G.nil ?_
   refine G.norm (L' := [(1, .val (.pointer (some ⟨g3, 0, none⟩))), (3, .val (.slice none 0 0))]) (is := [1, 3]) (R' := [.cells g3 83 (lf_T_Pat b0)]) (js := [0]) rfl rfl ?_
   refine G.next_ hK19 ?_
   refine G.seq fun K20 hK21 => ?_
   refine G.seq fun K22 hK23 => ?_
   refine G.region ?_
   refine G.p rfl (V.fieldAddr (o' := 3) rfl Try.runUnderlying83 rfl Try.sizeOf81 rfl) ?_
   refine G.q rfl (V.load_cell (i := 0) (ds := (lf_T_Pat b0)) (d := eL e_T_Pat 4 b0.fArgs) rfl rfl Try.isAgg81 rfl rfl) ?_
   refine G.lenb (enc := e_T_Pat) (xs := b0.fArgs) (sz := 4) (x := .tmp 16) (.of rfl) fun hN24 => ?_
   refine G.p rfl (V.len_sl (enc := e_T_Pat) (xs := b0.fArgs) (sz := 4) (.of rfl) Try.runUnderlying81) ?_
   refine G.p rfl (V.move rfl) ?_
   refine G.nil ?_
   refine G.norm (L' := [(3, .val (.slice none 0 0)), (16, eL e_T_Pat 4 b0.fArgs), (17, .val (.int .i64 (b0.fArgs.length : Int))), (18, .val (.int .i64 0))]) (is := [3, 16, 17, 18]) (R' := []) (js := []) rfl rfl ?_
   refine G.next_ hK23 ?_
   refine G.join (E := fun b a w => ∃ (g_0 : Value), Ass Gl B 28 [(3, .val g_0)] [.row g_0 9 1 (b.map eS)] a w) ?_ ?_
   ·intro b hF32
    refine G.block ?_
    refine G.nilrow 9 1 none ?_
    refine G.norm (L' := [(3, .val (.slice none 0 0)), (16, eL e_T_Pat 4 b0.fArgs), (17, .val (.int .i64 (b0.fArgs.length : Int))), (18, .val (.int .i64 ((0 : Nat) : Int)))]) (is := [3, 16, 17, 18]) (R' := [.row (.slice none 0 0) 9 1 (([] : List Str).map eS)]) (js := [0]) rfl rfl ?_
    refine G.loop (fun kq a w => ∃ (rest29 : List (T_Pat)) (i27 : Nat) (x25 : List Str), kq = rest29.length ∧ tree_Bound.l1 rec_tree_Bound rest29 x25 = some b ∧ b0.fArgs.drop i27 = rest29 ∧ ∃ (g_0 : Value), Ass Gl B 28 [(3, .val g_0), (16, eL e_T_Pat 4 b0.fArgs), (17, .val (.int .i64 (b0.fArgs.length : Int))), (18, .val (.int .i64 (i27 : Int)))] [.row g_0 9 1 (x25.map eS)] a w) (b0.fArgs.length) ?_ ?_
    ·intro hl54 a w hA
     exact ⟨b0.fArgs, 0, ([] : List Str), rfl, hl54, rfl, ⟨_, hA⟩⟩
    ·rintro _ a w ⟨rest29, i27, x25, rfl, hl33, hd30, ⟨g26, hA⟩⟩
     rcases rest29 with _ | ⟨y28, rest29⟩
     ·rw [tree_Bound.l1_nil] at hl33
      refine G.use hl33 hA ?_
      refine G.seq fun K34 hK35 => ?_
      refine G.region ?_
      refine G.p rfl (V.bin (u := .int .i64 (i27 : Int)) (v := .int .i64 (b0.fArgs.length : Int)) (r := .bool (decide ((i27 : Int) < (b0.fArgs.length : Int)))) rfl rfl b_lss) ?_
      refine G.nil ?_
      refine G.norm (L' := [(3, .val g26), (16, eL e_T_Pat 4 b0.fArgs), (17, .val (.int .i64 (b0.fArgs.length : Int))), (18, .val (.int .i64 (i27 : Int))), (19, .val (.bool (decide ((i27 : Int) < (b0.fArgs.length : Int)))))]) (is := [3, 16, 17, 18, 19]) (R' := [.row g26 9 1 (x25.map eS)]) (js := [0]) rfl rfl ?_
      refine G.next_ hK35 ?_
      refine G.seq fun K36 hK37 => ?_
      refine G.no rfl (rng_end hd30) ?_
      refine G.exit ?_
      refine G.thn_exit ?_
      refine G.thn_exit ?_
      refine G.inB_eq ?_
      refine G.norm (L' := [(3, .val g26)]) (is := [3]) (R' := [.row g26 9 1 (x25.map eS)]) (js := [0]) rfl rfl ?_
      exact G.finE fun hb a w hA => by subst hb; exact ⟨_, hA⟩
     ·rw [tree_Bound.l1_cons] at hl33
      refine G.use hl33 hA ?_
      refine G.seq fun K38 hK39 => ?_
      refine G.region ?_
      refine G.p rfl (V.bin (u := .int .i64 (i27 : Int)) (v := .int .i64 (b0.fArgs.length : Int)) (r := .bool (decide ((i27 : Int) < (b0.fArgs.length : Int)))) rfl rfl b_lss) ?_
      refine G.nil ?_
      refine G.norm (L' := [(3, .val g26), (16, eL e_T_Pat 4 b0.fArgs), (17, .val (.int .i64 (b0.fArgs.length : Int))), (18, .val (.int .i64 (i27 : Int))), (19, .val (.bool (decide ((i27 : Int) < (b0.fArgs.length : Int)))))]) (is := [3, 16, 17, 18, 19]) (R' := [.row g26 9 1 (x25.map eS)]) (js := [0]) rfl rfl ?_
      refine G.next_ hK39 ?_
      refine G.seq fun K40 hK41 => ?_
      refine G.yes rfl (rng_more hd30) ?_
      refine G.skip ?_
      refine G.next_ hK41 ?_
      refine G.seq fun K42 hK43 => ?_
      refine G.block ?_
      refine G.seq fun K44 hK45 => ?_
      refine G.region ?_
      refine G.p rfl (V.at_sl (k := i27) rfl rfl Try.runUnderlying81 Try.sizeOf83 (map_at (rng_at hd30))) ?_
      refine G.q rfl (V.load_ptrN (ds := (lf_T_Pat y28)) rfl (e_T_Pat_eq y28) Try.isAgg83 Try.sizeOf83 rfl) ?_
      refine G.op rfl (O.alloc (ds := [.val (.int .i64 0), .val (.int .i64 0), .val (bs ([] : Str)), .val (.slice none 0 0)]) Try.zeroValue83 rfl) fun g46 => ?_
      refine G.opn (O.store (i := 0) (o := 0) (ds := [.val (.int .i64 0), .val (.int .i64 0), .val (bs ([] : Str)), .val (.slice none 0 0)]) rfl (.of rfl) rfl (OneC.agg (List.forall_mem_cons.2 ⟨(.val rfl), (List.forall_mem_cons.2 ⟨(.val rfl), (List.forall_mem_cons.2 ⟨(.val rfl), (List.forall_mem_cons.2 ⟨.sl, (List.forall_mem_nil _)⟩)⟩)⟩)⟩)) Try.sizeOf83 rfl rfl) fun _ => ?_
      refine G.nil ?_
      refine G.norm (L' := [(3, .val g26), (5, .val (.pointer (some ⟨g46, 0, none⟩))), (16, eL e_T_Pat 4 b0.fArgs), (17, .val (.int .i64 (b0.fArgs.length : Int))), (18, .val (.int .i64 (i27 : Int)))]) (is := [3, 5, 16, 17, 18]) (R' := [.cells g46 83 (lf_T_Pat y28), .row g26 9 1 (x25.map eS)]) (js := [0, 0]) rfl rfl ?_
      refine G.next_ hK45 ?_
      refine G.region ?_
      refine G.p rfl (V.move rfl) ?_
      refine G.q rfl (V.load_cellN (i := 0) (ds := (lf_T_Pat y28)) (c1 := (lf_T_Pat y28)) rfl rfl Try.isAgg83 Try.sizeOf83 rfl rfl rfl) ?_
      refine G.bind fun r47 hr48 => ?_
      refine G.op rfl (O.call (xs := [.tmp 23]) (is := []) (Rp := []) (Rr := [.cells g46 83 (lf_T_Pat y28), .row g26 9 1 (x25.map eS)]) (hrec_tree_Bound hr48) (.cons (.of rfl) .nil) Try.call40 rfl) fun x49 => ?_
      refine G.bind fun l50 hl51 => ?_
      refine G.op rfl (O.append_row (i := 2) (j := 0) (enc := eS) (xs := x25) (ys := r47) (lim := 8796093022208) elt30 rfl rfl rfl rfl (by decide) (by decide) (fun _ => one_S) hl51) fun v52 => ?_
      refine G.p rfl (V.assign rfl) ?_
      refine G.nil ?_
      refine G.norm (L' := [(3, .val v52), (16, eL e_T_Pat 4 b0.fArgs), (17, .val (.int .i64 (b0.fArgs.length : Int))), (18, .val (.int .i64 (i27 : Int)))]) (is := [3, 16, 17, 18]) (R' := [.row v52 9 1 (l50.map eS)]) (js := [2]) rfl rfl ?_
      refine G.inB ?_
      refine G.next_ hK43 ?_
      refine G.region ?_
      refine G.p rfl (V.incr (i := i27) (N := b0.fArgs.length) rfl rfl (rng_lt hd30) (hN24)) ?_
      refine G.p rfl (V.move rfl) ?_
      refine G.nil ?_
      refine G.norm (L' := [(3, .val v52), (16, eL e_T_Pat 4 b0.fArgs), (17, .val (.int .i64 (b0.fArgs.length : Int))), (18, .val (.int .i64 ((i27 + 1 : Nat) : Int)))]) (is := [3, 16, 17, 18]) (R' := [.row v52 9 1 (l50.map eS)]) (js := [0]) rfl rfl ?_
      refine G.again ?_
      intro hl53 a w hA
      exact ⟨_, Nat.lt_succ_self _, rest29, i27 + 1, l50, rfl, hl53, rng_next hd30, ⟨_, hA⟩⟩
   ·rintro b55 hb a w ⟨g56, hA⟩ hF57
    refine G.use hF57 hA ?_
    refine G.next_ hK21 ?_
    refine G.seq fun K58 hK59 => ?_
    refine G.region ?_
    refine G.p rfl (V.move rfl) ?_
    refine G.p rfl (V.assign rfl) ?_
    refine G.nil ?_
    refine G.norm (L' := [(2, .val g56)]) (is := [2]) (R' := [.row g56 9 1 (b55.map eS)]) (js := [0]) rfl rfl ?_
    refine G.next_ hK59 ?_
    refine G.ret ?_
    refine G.inB_ret ?_
    refine G.thn_ret ?_
    refine G.fin_ fun hF60 => ?_
    obtain rfl := Option.some.inj hF60
    exact G.ret1 Try.results40 g56 (is := [0]) (.of rfl) rfl
  ·refine G.norm (L' := []) (is := []) (R' := []) (js := []) rfl rfl ?_
   refine G.skip ?_
   refine G.inB ?_
   refine G.next_ hK5 ?_
   refine G.seq fun K61 hK62 => ?_
   refine G.region ?_
   refine G.p rfl (V.assign rfl) ?_
   refine G.nil ?_
   refine G.norm (L' := [(2, .val (.slice none 0 0))]) (is := [2]) (R' := []) (js := []) rfl rfl ?_
   refine G.next_ hK62 ?_
   refine G.ret ?_
   refine G.nilrow 9 1 none ?_
   refine G.fin_ fun hF63 => ?_
   obtain rfl := Option.some.inj hF63
   exact G.ret1 Try.results40 (.slice none 0 0) (is := [0]) (.of rfl) rfl
theorem tree_Bound.all_ok (k : Nat) : tree_Bound.Spec (tree_Bound.all k) := by
  induction k with
  | zero => exact by intro b0 out hp; simp [tree_Bound.all] at hp
  | succ k ih => exact tree_Bound.body_ok ih 
def tree_Bound (k : Nat) : T_Pat → Option (List Str) := (tree_Bound.all k)
theorem tree_Bound_ok (k : Nat) : tree_Bound.Spec (tree_Bound k) := (tree_Bound.all_ok k)
theorem tree_Bound_succ (k : Nat) (b0 : T_Pat) : tree_Bound (k + 1) b0 = tree_Bound.body (tree_Bound k) b0 := rfl
theorem tree_Bound_zero (b0 : T_Pat) : tree_Bound 0 b0 = none := rfl
/-! (*roadstead/scope.resolver).foreign -/
def scope_resolver_foreign.l1 (b0 : List (Str × Bool)) (b1 : List (Str × Bool)) (b2 : List (Str × Bool)) (b3 : List (Str × Int)) (rec_scope_resolver_foreign : (List (Str × Bool)) → (List (Str × Bool)) → (List (Str × Bool)) → (List (Str × Int)) → T_Pat → Option (Bool)) : List (T_Pat) → Option (Bool ⊕ (Unit))
  | [] => some (.inr ())
  | y19 :: rest20 => (rec_scope_resolver_foreign b0 b1 b2 b3 y19).bind fun r40 => (if r40 = true then some (.inl true) else scope_resolver_foreign.l1 b0 b1 b2 b3 rec_scope_resolver_foreign rest20)

theorem scope_resolver_foreign.l1_nil (b0 : List (Str × Bool)) (b1 : List (Str × Bool)) (b2 : List (Str × Bool)) (b3 : List (Str × Int)) (rec_scope_resolver_foreign : (List (Str × Bool)) → (List (Str × Bool)) → (List (Str × Bool)) → (List (Str × Int)) → T_Pat → Option (Bool))  : scope_resolver_foreign.l1 b0 b1 b2 b3 rec_scope_resolver_foreign []  = some (.inr ()) := rfl
theorem scope_resolver_foreign.l1_cons (b0 : List (Str × Bool)) (b1 : List (Str × Bool)) (b2 : List (Str × Bool)) (b3 : List (Str × Int)) (rec_scope_resolver_foreign : (List (Str × Bool)) → (List (Str × Bool)) → (List (Str × Bool)) → (List (Str × Int)) → T_Pat → Option (Bool)) {y19 : T_Pat} {rest20 : List (T_Pat)} : scope_resolver_foreign.l1 b0 b1 b2 b3 rec_scope_resolver_foreign (y19 :: rest20)  = (rec_scope_resolver_foreign b0 b1 b2 b3 y19).bind fun r40 => (if r40 = true then some (.inl true) else scope_resolver_foreign.l1 b0 b1 b2 b3 rec_scope_resolver_foreign rest20) := rfl
def scope_resolver_foreign.Spec (F : (List (Str × Bool)) → (List (Str × Bool)) → (List (Str × Bool)) → (List (Str × Int)) → T_Pat → Option (Bool)) : Prop := ∀ {b0 : List (Str × Bool)} {b1 : List (Str × Bool)} {b2 : List (Str × Bool)} {b3 : List (Str × Int)} {b4 : T_Pat} {q0 : Nat} {q1 : Nat} {q2 : Nat} {q3 : Nat} {q4 : Nat} {out : Bool}, F b0 b1 b2 b3 b4 = some out → Ct Gl Try.prog 44 [.val (.pointer (some ⟨q0, 0, none⟩)), .agg (lf_T_Pat b4)] [.cells q0 90 [.val (.map (some q1)), .val (.map (some q2)), .val (.map (some q3)), .val (.map (some q4))], .map q1 (encM bs eB b0), .map q2 (encM bs eB b1), .map q3 (encM bs eB b2), .map q4 (encM bs (eI .i64) b3)] (fun x : Unit => .val (.bool out)) (fun x : Unit => [.cells q0 90 [.val (.map (some q1)), .val (.map (some q2)), .val (.map (some q3)), .val (.map (some q4))], .map q1 (encM bs eB b0), .map q2 (encM bs eB b1), .map q3 (encM bs eB b2), .map q4 (encM bs (eI .i64) b3)])
def scope_resolver_foreign.body (rec_scope_resolver_foreign : (List (Str × Bool)) → (List (Str × Bool)) → (List (Str × Bool)) → (List (Str × Int)) → T_Pat → Option (Bool)) (b0 : List (Str × Bool)) (b1 : List (Str × Bool)) (b2 : List (Str × Bool)) (b3 : List (Str × Int)) (b4 : T_Pat) : Option (Bool) := (if ((b4.fKind == 6) && (!((mget b0 b4.fText).getD false))) = true then some true else (scope_resolver_foreign.l1 b0 b1 b2 b3 rec_scope_resolver_foreign b4.fArgs).bind (retOr fun b51 => some false))
def scope_resolver_foreign.all : Nat → ((List (Str × Bool)) → (List (Str × Bool)) → (List (Str × Bool)) → (List (Str × Int)) → T_Pat → Option (Bool))
  | 0 => fun _ _ _ _ _ => none
  | k + 1 => scope_resolver_foreign.body (scope_resolver_foreign.all k) 
set_option maxRecDepth 100000 in
theorem scope_resolver_foreign.body_ok {rec_scope_resolver_foreign : (List (Str × Bool)) → (List (Str × Bool)) → (List (Str × Bool)) → (List (Str × Int)) → T_Pat → Option (Bool)} (hrec_scope_resolver_foreign : scope_resolver_foreign.Spec rec_scope_resolver_foreign) : scope_resolver_foreign.Spec (scope_resolver_foreign.body rec_scope_resolver_foreign ) := by
 intro b0 b1 b2 b3 b4 q0 q1 q2 q3 q4 out hp
 refine ct_of_G (nt := 31) Try.func44 rfl Try.ntmps44 rfl (fun B => ?_) hp
 unfold scope_resolver_foreign.body
 refine G.seq fun K1 hK2 => ?_
 refine G.region ?_
 refine G.op rfl (O.box (.of rfl) (OneC.agg (List.forall_mem_cons.2 ⟨(.val rfl), (List.forall_mem_cons.2 ⟨(.val rfl), (List.forall_mem_cons.2 ⟨(.val rfl), (List.forall_mem_cons.2 ⟨.sl, (List.forall_mem_nil _)⟩)⟩)⟩)⟩))) fun g3 => ?_
 refine G.p rfl (V.assign rfl) ?_
 refine G.nil ?_
 refine G.norm (L' := [(0, .val (.pointer (some ⟨q0, 0, none⟩))), (3, .val (.pointer (some ⟨g3, 0, none⟩)))]) (is := [0, 3]) (R' := [.cells g3 83 (lf_T_Pat b4), .cells q0 90 [.val (.map (some q1)), .val (.map (some q2)), .val (.map (some q3)), .val (.map (some q4))], .map q1 (encM bs eB b0), .map q2 (encM bs eB b1), .map q3 (encM bs eB b2), .map q4 (encM bs (eI .i64) b3)]) (js := [0, 0, 0, 0, 0, 0]) rfl rfl ?_
 refine G.next_ hK2 ?_
 refine G.seq fun K4 hK5 => ?_
 refine G.seq fun K6 hK7 => ?_
 refine G.cutc (fun a w => Ass Gl B 31 [(0, .val (.pointer (some ⟨q0, 0, none⟩))), (3, .val (.pointer (some ⟨g3, 0, none⟩))), (19, .val (.bool ((b4.fKind == 6) && (!((mget b0 b4.fText).getD false)))))] [.cells q0 90 [.val (.map (some q1)), .val (.map (some q2)), .val (.map (some q3)), .val (.map (some q4))], .map q1 (encM bs eB b0), .map q2 (encM bs eB b1), .map q3 (encM bs eB b2), .map q4 (encM bs (eI .i64) b3), .cells g3 83 (lf_T_Pat b4)] a w) ?_ ?_
 ·refine G.draw [] Try_mixed 13 rfl rfl (fun B1 => ?_)
  refine GH.take 0 rfl rfl (by kernel_rfl) (by kernel_rfl) (by kernel_rfl) (Qp.qv (V.fieldAddr (o' := 0) rfl Try.runUnderlying83 rfl Try.sizeOf3 rfl)) (fun _ _ _ _ h => h) ?_
  refine GH.take 1 rfl rfl (by kernel_rfl) (by kernel_rfl) (by kernel_rfl) (V.load_cell (i := 0) (ds := (lf_T_Pat b4)) (d := .val (.int .i64 b4.fKind)) rfl rfl Try.isAgg3 rfl rfl) (fun _ _ _ _ h => h) ?_
  refine GH.take 2 rfl rfl (by kernel_rfl) (by kernel_rfl) (by kernel_rfl) (Qp.qv (V.bin (u := .int .i64 b4.fKind) (v := .int .i64 6) (r := .bool (b4.fKind == 6)) rfl rfl b_eql)) (fun _ _ _ _ h => h) ?_
  refine GH.take 3 rfl rfl (by kernel_rfl) (by kernel_rfl) (by kernel_rfl) (Qp.qv (V.move rfl)) (fun _ _ _ _ h => h) ?_
  refine GH.byb (c := (b4.fKind == 6)) (fun hc8 => ?_) (fun hc8 => ?_)
  ·refine GH.take_y 4 rfl rfl (by kernel_rfl) (by kernel_rfl) (by kernel_rfl) rfl rfl hc8 (Qp.qv (V.move rfl)) (fun _ _ _ _ h => h) ?_
   refine GH.take_y 5 rfl rfl (by kernel_rfl) (by kernel_rfl) (by kernel_rfl) rfl rfl hc8 (Qp.qv (V.nilCheck rfl)) (fun _ _ _ _ h => h) ?_
   refine GH.take_y 6 rfl rfl (by kernel_rfl) (by kernel_rfl) (by kernel_rfl) rfl rfl hc8 (Qp.qv (V.fieldAddr (o' := 0) rfl Try.runUnderlying90 rfl Try.sizeOf79 rfl)) (fun _ _ _ _ h => h) ?_
   refine GH.take_y 7 rfl rfl (by kernel_rfl) (by kernel_rfl) (by kernel_rfl) rfl rfl hc8 (V.load_cell (i := 1) (ds := [.val (.map (some q1)), .val (.map (some q2)), .val (.map (some q3)), .val (.map (some q4))]) (d := .val (.map (some q1))) rfl rfl Try.isAgg79 rfl rfl) (fun _ _ _ _ h => h) ?_
   refine GH.take_y 8 rfl rfl (by kernel_rfl) (by kernel_rfl) (by kernel_rfl) rfl rfl hc8 (Qp.qv (V.fieldAddr (o' := 2) rfl Try.runUnderlying83 rfl Try.sizeOf9 rfl)) (fun _ _ _ _ h => h) ?_
   refine GH.take_y 9 rfl rfl (by kernel_rfl) (by kernel_rfl) (by kernel_rfl) rfl rfl hc8 (V.load_cell (i := 0) (ds := (lf_T_Pat b4)) (d := .val (bs b4.fText)) rfl rfl Try.isAgg9 rfl rfl) (fun _ _ _ _ h => h) ?_
   refine GH.take_y 10 rfl rfl (by kernel_rfl) (by kernel_rfl) (by kernel_rfl) rfl rfl hc8 (V.lookup (enc := eB) (k := b4.fText) (Keys.str Try.underlying9) Try.runUnderlying79 Try.zeroValue4 false (fun _ _ => RdV.val.2 rfl) rfl rfl (i := 2) rfl) (fun _ _ _ _ h => h) ?_
   refine GH.take_y 11 rfl rfl (by kernel_rfl) (by kernel_rfl) (by kernel_rfl) rfl rfl hc8 (Qp.qv (V.not (b := ((mget b0 b4.fText).getD false)) rfl)) (fun _ _ _ _ h => h) ?_
   refine GH.takep 12 rfl rfl (by kernel_rfl) (by kernel_rfl) (by kernel_rfl) (V.pick_yes (dv := .val (.bool (!((mget b0 b4.fText).getD false)))) rfl hc8 rfl) (fun _ _ _ _ h => h) ?_
   refine GH.view (congrArg D.val (and_yes (x := (!((mget b0 b4.fText).getD false))) hc8)) ?_
   refine GH.lift Ind.val ?_
   refine GH.done (is := [0, 3, 19]) (js := [1, 1, 1, 1, 1, 0]) (L' := [(0, .val (.pointer (some ⟨q0, 0, none⟩))), (3, .val (.pointer (some ⟨g3, 0, none⟩))), (19, .val (.bool ((b4.fKind == 6) && (!((mget b0 b4.fText).getD false)))))]) (R' := [.cells q0 90 [.val (.map (some q1)), .val (.map (some q2)), .val (.map (some q3)), .val (.map (some q4))], .map q1 (encM bs eB b0), .map q2 (encM bs eB b1), .map q3 (encM bs eB b2), .map q4 (encM bs (eI .i64) b3), .cells g3 83 (lf_T_Pat b4)]) (by kernel_rfl) rfl rfl ?_
   exact G.finE fun _ a w hA => hA
  ·refine GH.take_n 4 rfl rfl (by kernel_rfl) (by kernel_rfl) (by kernel_rfl) rfl rfl hc8 (fun _ _ _ _ h => h) ?_
   refine GH.take_n 5 rfl rfl (by kernel_rfl) (by kernel_rfl) (by kernel_rfl) rfl rfl hc8 (fun _ _ _ _ h => h) ?_
   refine GH.take_n 6 rfl rfl (by kernel_rfl) (by kernel_rfl) (by kernel_rfl) rfl rfl hc8 (fun _ _ _ _ h => h) ?_
   refine GH.take_n 7 rfl rfl (by kernel_rfl) (by kernel_rfl) (by kernel_rfl) rfl rfl hc8 (fun _ _ _ _ h => h) ?_
   refine GH.take_n 8 rfl rfl (by kernel_rfl) (by kernel_rfl) (by kernel_rfl) rfl rfl hc8 (fun _ _ _ _ h => h) ?_
   refine GH.take_n 9 rfl rfl (by kernel_rfl) (by kernel_rfl) (by kernel_rfl) rfl rfl hc8 (fun _ _ _ _ h => h) ?_
   refine GH.take_n 10 rfl rfl (by kernel_rfl) (by kernel_rfl) (by kernel_rfl) rfl rfl hc8 (fun _ _ _ _ h => h) ?_
   refine GH.take_n 11 rfl rfl (by kernel_rfl) (by kernel_rfl) (by kernel_rfl) rfl rfl hc8 (fun _ _ _ _ h => h) ?_
   refine GH.takep 12 rfl rfl (by kernel_rfl) (by kernel_rfl) (by kernel_rfl) (V.pick_no (dv := .val (.bool false)) rfl hc8 rfl) (fun _ _ _ _ h => h) ?_
   refine GH.view (congrArg D.val (and_no (x := (!((mget b0 b4.fText).getD false))) hc8)) ?_
   refine GH.lift Ind.val ?_
   refine GH.done (is := [0, 3, 19]) (js := [1, 1, 1, 1, 1, 0]) (L' := [(0, .val (.pointer (some ⟨q0, 0, none⟩))), (3, .val (.pointer (some ⟨g3, 0, none⟩))), (19, .val (.bool ((b4.fKind == 6) && (!((mget b0 b4.fText).getD false)))))]) (R' := [.cells q0 90 [.val (.map (some q1)), .val (.map (some q2)), .val (.map (some q3)), .val (.map (some q4))], .map q1 (encM bs eB b0), .map q2 (encM bs eB b1), .map q3 (encM bs eB b2), .map q4 (encM bs (eI .i64) b3), .cells g3 83 (lf_T_Pat b4)]) (by kernel_rfl) rfl rfl ?_
   exact G.finE fun _ a w hA => hA
 ·intro a w hA hF
  refine G.use hF hA ?_
  refine G.next_ hK7 ?_
  refine G.cond (b := ((b4.fKind == 6) && (!((mget b0 b4.fText).getD false)))) rfl (fun hc9 => ?_) (fun hc9 => ?_)
  ·refine G.norm (L' := []) (is := []) (R' := [.cells q0 90 [.val (.map (some q1)), .val (.map (some q2)), .val (.map (some q3)), .val (.map (some q4))], .map q1 (encM bs eB b0), .map q2 (encM bs eB b1), .map q3 (encM bs eB b2), .map q4 (encM bs (eI .i64) b3)]) (js := [0, 0, 0, 0, 0]) rfl rfl ?_
   refine G.seq fun K10 hK11 => ?_
   refine G.region ?_
   refine G.p rfl (V.assign rfl) ?_
   refine G.nil ?_
   refine G.norm (L' := [(4, .val (.bool true))]) (is := [4]) (R' := [.cells q0 90 [.val (.map (some q1)), .val (.map (some q2)), .val (.map (some q3)), .val (.map (some q4))], .map q1 (encM bs eB b0), .map q2 (encM bs eB b1), .map q3 (encM bs eB b2), .map q4 (encM bs (eI .i64) b3)]) (js := [0, 0, 0, 0, 0]) rfl rfl ?_
   refine G.next_ hK11 ?_
   refine G.ret ?_
   refine G.thn_ret ?_
   refine G.fin_ fun hF12 => ?_
   obtain rfl := Option.some.inj hF12
   exact G.ret1 Try.results44 () (is := [0, 0, 0, 0, 0]) (.of rfl) rfl
  ·refine G.norm (L' := [(0, .val (.pointer (some ⟨q0, 0, none⟩))), (3, .val (.pointer (some ⟨g3, 0, none⟩)))]) (is := [0, 3]) (R' := [.cells q0 90 [.val (.map (some q1)), .val (.map (some q2)), .val (.map (some q3)), .val (.map (some q4))], .map q1 (encM bs eB b0), .map q2 (encM bs eB b1), .map q3 (encM bs eB b2), .map q4 (encM bs (eI .i64) b3), .cells g3 83 (lf_T_Pat b4)]) (js := [0, 0, 0, 0, 0, 0]) rfl rfl ?_
   refine G.skip ?_
   refine G.next_ hK5 ?_
   refine G.seq fun K13 hK14 => ?_
   refine G.seq fun K15 hK16 => ?_
   refine G.region ?_
   refine G.p rfl (V.fieldAddr (o' := 3) rfl Try.runUnderlying83 rfl Try.sizeOf81 rfl) ?_
   refine G.q rfl (V.load_cell (i := 5) (ds := (lf_T_Pat b4)) (d := eL e_T_Pat 4 b4.fArgs) rfl rfl Try.isAgg81 rfl rfl) ?_
   refine G.lenb (enc := e_T_Pat) (xs := b4.fArgs) (sz := 4) (x := .tmp 21) (.of rfl) fun hN17 => ?_
   refine G.p rfl (V.len_sl (enc := e_T_Pat) (xs := b4.fArgs) (sz := 4) (.of rfl) Try.runUnderlying81) ?_
   refine G.p rfl (V.move rfl) ?_
   refine G.nil ?_
   refine G.norm (L' := [(0, .val (.pointer (some ⟨q0, 0, none⟩))), (21, eL e_T_Pat 4 b4.fArgs), (22, .val (.int .i64 (b4.fArgs.length : Int))), (23, .val (.int .i64 0))]) (is := [0, 21, 22, 23]) (R' := [.cells q0 90 [.val (.map (some q1)), .val (.map (some q2)), .val (.map (some q3)), .val (.map (some q4))], .map q1 (encM bs eB b0), .map q2 (encM bs eB b1), .map q3 (encM bs eB b2), .map q4 (encM bs (eI .i64) b3)]) (js := [0, 0, 0, 0, 0]) rfl rfl ?_
   refine G.next_ hK16 ?_
   refine G.join (E := fun o a w => ∃ b, o = .inr b ∧ Ass Gl B 31 [] [.cells q0 90 [.val (.map (some q1)), .val (.map (some q2)), .val (.map (some q3)), .val (.map (some q4))], .map q1 (encM bs eB b0), .map q2 (encM bs eB b1), .map q3 (encM bs eB b2), .map q4 (encM bs (eI .i64) b3)] a w) ?_ ?_
   ·intro b hF23
    refine G.block ?_
    refine G.norm (L' := [(0, .val (.pointer (some ⟨q0, 0, none⟩))), (21, eL e_T_Pat 4 b4.fArgs), (22, .val (.int .i64 (b4.fArgs.length : Int))), (23, .val (.int .i64 ((0 : Nat) : Int)))]) (is := [0, 21, 22, 23]) (R' := [.cells q0 90 [.val (.map (some q1)), .val (.map (some q2)), .val (.map (some q3)), .val (.map (some q4))], .map q1 (encM bs eB b0), .map q2 (encM bs eB b1), .map q3 (encM bs eB b2), .map q4 (encM bs (eI .i64) b3)]) (js := [0, 0, 0, 0, 0]) rfl rfl ?_
    refine G.loop (fun kq a w => ∃ (rest20 : List (T_Pat)) (i18 : Nat), kq = rest20.length ∧ scope_resolver_foreign.l1 b0 b1 b2 b3 rec_scope_resolver_foreign rest20 = some b ∧ b4.fArgs.drop i18 = rest20 ∧ Ass Gl B 31 [(0, .val (.pointer (some ⟨q0, 0, none⟩))), (21, eL e_T_Pat 4 b4.fArgs), (22, .val (.int .i64 (b4.fArgs.length : Int))), (23, .val (.int .i64 (i18 : Int)))] [.cells q0 90 [.val (.map (some q1)), .val (.map (some q2)), .val (.map (some q3)), .val (.map (some q4))], .map q1 (encM bs eB b0), .map q2 (encM bs eB b1), .map q3 (encM bs eB b2), .map q4 (encM bs (eI .i64) b3)] a w) (b4.fArgs.length) ?_ ?_
    ·intro hl50 a w hA
     exact ⟨b4.fArgs, 0, rfl, hl50, rfl, hA⟩
    ·rintro _ a w ⟨rest20, i18, rfl, hl24, hd21, hA⟩
     rcases rest20 with _ | ⟨y19, rest20⟩
     ·rw [scope_resolver_foreign.l1_nil] at hl24
      refine G.use hl24 hA ?_
      refine G.seq fun K25 hK26 => ?_
      refine G.region ?_
      refine G.p rfl (V.bin (u := .int .i64 (i18 : Int)) (v := .int .i64 (b4.fArgs.length : Int)) (r := .bool (decide ((i18 : Int) < (b4.fArgs.length : Int)))) rfl rfl b_lss) ?_
      refine G.nil ?_
      refine G.norm (L' := [(0, .val (.pointer (some ⟨q0, 0, none⟩))), (21, eL e_T_Pat 4 b4.fArgs), (22, .val (.int .i64 (b4.fArgs.length : Int))), (23, .val (.int .i64 (i18 : Int))), (24, .val (.bool (decide ((i18 : Int) < (b4.fArgs.length : Int)))))]) (is := [0, 21, 22, 23, 24]) (R' := [.cells q0 90 [.val (.map (some q1)), .val (.map (some q2)), .val (.map (some q3)), .val (.map (some q4))], .map q1 (encM bs eB b0), .map q2 (encM bs eB b1), .map q3 (encM bs eB b2), .map q4 (encM bs (eI .i64) b3)]) (js := [0, 0, 0, 0, 0]) rfl rfl ?_
      refine G.next_ hK26 ?_
      refine G.seq fun K27 hK28 => ?_
      refine G.no rfl (rng_end hd21) ?_
      refine G.exit ?_
      refine G.thn_exit ?_
      refine G.thn_exit ?_
      refine G.inB_eq ?_
      refine G.norm (L' := []) (is := []) (R' := [.cells q0 90 [.val (.map (some q1)), .val (.map (some q2)), .val (.map (some q3)), .val (.map (some q4))], .map q1 (encM bs eB b0), .map q2 (encM bs eB b1), .map q3 (encM bs eB b2), .map q4 (encM bs (eI .i64) b3)]) (js := [0, 0, 0, 0, 0]) rfl rfl ?_
      exact G.finE fun hb a w hA => by subst hb; exact ⟨_, rfl, hA⟩
     ·rw [scope_resolver_foreign.l1_cons] at hl24
      refine G.use hl24 hA ?_
      refine G.seq fun K29 hK30 => ?_
      refine G.region ?_
      refine G.p rfl (V.bin (u := .int .i64 (i18 : Int)) (v := .int .i64 (b4.fArgs.length : Int)) (r := .bool (decide ((i18 : Int) < (b4.fArgs.length : Int)))) rfl rfl b_lss) ?_
      refine G.nil ?_
      refine G.norm (L' := [(0, .val (.pointer (some ⟨q0, 0, none⟩))), (21, eL e_T_Pat 4 b4.fArgs), (22, .val (.int .i64 (b4.fArgs.length : Int))), (23, .val (.int .i64 (i18 : Int))), (24, .val (.bool (decide ((i18 : Int) < (b4.fArgs.length : Int)))))]) (is := [0, 21, 22, 23, 24]) (R' := [.cells q0 90 [.val (.map (some q1)), .val (.map (some q2)), .val (.map (some q3)), .val (.map (some q4))], .map q1 (encM bs eB b0), .map q2 (encM bs eB b1), .map q3 (encM bs eB b2), .map q4 (encM bs (eI .i64) b3)]) (js := [0, 0, 0, 0, 0]) rfl rfl ?_
      refine G.next_ hK30 ?_
      refine G.seq fun K31 hK32 => ?_
      refine G.yes rfl (rng_more hd21) ?_
      refine G.skip ?_
      refine G.next_ hK32 ?_
      refine G.seq fun K33 hK34 => ?_
      refine G.block ?_
      refine G.seq fun K35 hK36 => ?_
      refine G.region ?_
      refine G.p rfl (V.at_sl (k := i18) rfl rfl Try.runUnderlying81 Try.sizeOf83 (map_at (rng_at hd21))) ?_
      refine G.q rfl (V.load_ptrN (ds := (lf_T_Pat y19)) rfl (e_T_Pat_eq y19) Try.isAgg83 Try.sizeOf83 rfl) ?_
      refine G.op rfl (O.alloc (ds := [.val (.int .i64 0), .val (.int .i64 0), .val (bs ([] : Str)), .val (.slice none 0 0)]) Try.zeroValue83 rfl) fun g37 => ?_
      refine G.opn (O.store (i := 0) (o := 0) (ds := [.val (.int .i64 0), .val (.int .i64 0), .val (bs ([] : Str)), .val (.slice none 0 0)]) rfl (.of rfl) rfl (OneC.agg (List.forall_mem_cons.2 ⟨(.val rfl), (List.forall_mem_cons.2 ⟨(.val rfl), (List.forall_mem_cons.2 ⟨(.val rfl), (List.forall_mem_cons.2 ⟨.sl, (List.forall_mem_nil _)⟩)⟩)⟩)⟩)) Try.sizeOf83 rfl rfl) fun _ => ?_
      refine G.nil ?_
      refine G.norm (L' := [(0, .val (.pointer (some ⟨q0, 0, none⟩))), (6, .val (.pointer (some ⟨g37, 0, none⟩))), (21, eL e_T_Pat 4 b4.fArgs), (22, .val (.int .i64 (b4.fArgs.length : Int))), (23, .val (.int .i64 (i18 : Int)))]) (is := [0, 6, 21, 22, 23]) (R' := [.cells g37 83 (lf_T_Pat y19), .cells q0 90 [.val (.map (some q1)), .val (.map (some q2)), .val (.map (some q3)), .val (.map (some q4))], .map q1 (encM bs eB b0), .map q2 (encM bs eB b1), .map q3 (encM bs eB b2), .map q4 (encM bs (eI .i64) b3)]) (js := [0, 0, 0, 0, 0, 0]) rfl rfl ?_
      refine G.next_ hK36 ?_
      refine G.seq fun K38 hK39 => ?_
      refine G.region ?_
      refine G.p rfl (V.move rfl) ?_
      refine G.q rfl (V.load_cellN (i := 0) (ds := (lf_T_Pat y19)) (c1 := (lf_T_Pat y19)) rfl rfl Try.isAgg83 Try.sizeOf83 rfl rfl rfl) ?_
      refine G.bind fun r40 hr41 => ?_
      refine G.op rfl (O.call (xs := [.tmp 27, .tmp 28]) (is := [1, 1, 1, 1, 1]) (Rp := [.cells q0 90 [.val (.map (some q1)), .val (.map (some q2)), .val (.map (some q3)), .val (.map (some q4))], .map q1 (encM bs eB b0), .map q2 (encM bs eB b1), .map q3 (encM bs eB b2), .map q4 (encM bs (eI .i64) b3)]) (Rr := [.cells g37 83 (lf_T_Pat y19)]) (hrec_scope_resolver_foreign hr41) (.cons (.of rfl) (.cons (.of rfl) .nil)) Try.call44 rfl) fun x42 => ?_
      refine G.nil ?_
      refine G.norm (L' := [(0, .val (.pointer (some ⟨q0, 0, none⟩))), (21, eL e_T_Pat 4 b4.fArgs), (22, .val (.int .i64 (b4.fArgs.length : Int))), (23, .val (.int .i64 (i18 : Int))), (29, .val (.bool r40))]) (is := [0, 21, 22, 23, 29]) (R' := [.cells q0 90 [.val (.map (some q1)), .val (.map (some q2)), .val (.map (some q3)), .val (.map (some q4))], .map q1 (encM bs eB b0), .map q2 (encM bs eB b1), .map q3 (encM bs eB b2), .map q4 (encM bs (eI .i64) b3)]) (js := [0, 0, 0, 0, 0]) rfl rfl ?_
      refine G.next_ hK39 ?_
      refine G.cond (b := r40) rfl (fun hc43 => ?_) (fun hc43 => ?_)
      ·refine G.norm (L' := []) (is := []) (R' := [.cells q0 90 [.val (.map (some q1)), .val (.map (some q2)), .val (.map (some q3)), .val (.map (some q4))], .map q1 (encM bs eB b0), .map q2 (encM bs eB b1), .map q3 (encM bs eB b2), .map q4 (encM bs (eI .i64) b3)]) (js := [0, 0, 0, 0, 0]) rfl rfl ?_
       refine G.seq fun K44 hK45 => ?_
       refine G.region ?_
       refine G.p rfl (V.assign rfl) ?_
       refine G.nil ?_
       refine G.norm (L' := [(4, .val (.bool true))]) (is := [4]) (R' := [.cells q0 90 [.val (.map (some q1)), .val (.map (some q2)), .val (.map (some q3)), .val (.map (some q4))], .map q1 (encM bs eB b0), .map q2 (encM bs eB b1), .map q3 (encM bs eB b2), .map q4 (encM bs (eI .i64) b3)]) (js := [0, 0, 0, 0, 0]) rfl rfl ?_
       refine G.next_ hK45 ?_
       refine G.ret ?_
       refine G.inB_ret ?_
       refine G.thn_ret ?_
       refine G.thn_ret ?_
       refine G.inB_ret ?_
       refine G.thn_ret ?_
       refine G.thn_ret ?_
       refine G.fin_ fun hF46 => ?_
       have hb47 := Option.some.inj hF46
       subst hb47
       have hF48 : (some true : Option (Bool)) = some _ := hF23
       obtain rfl := Option.some.inj hF48
       exact G.ret1 Try.results44 () (is := [0, 0, 0, 0, 0]) (.of rfl) rfl
      ·refine G.norm (L' := [(0, .val (.pointer (some ⟨q0, 0, none⟩))), (21, eL e_T_Pat 4 b4.fArgs), (22, .val (.int .i64 (b4.fArgs.length : Int))), (23, .val (.int .i64 (i18 : Int)))]) (is := [0, 21, 22, 23]) (R' := [.cells q0 90 [.val (.map (some q1)), .val (.map (some q2)), .val (.map (some q3)), .val (.map (some q4))], .map q1 (encM bs eB b0), .map q2 (encM bs eB b1), .map q3 (encM bs eB b2), .map q4 (encM bs (eI .i64) b3)]) (js := [0, 0, 0, 0, 0]) rfl rfl ?_
       refine G.skip ?_
       refine G.inB ?_
       refine G.next_ hK34 ?_
       refine G.region ?_
       refine G.p rfl (V.incr (i := i18) (N := b4.fArgs.length) rfl rfl (rng_lt hd21) (hN17)) ?_
       refine G.p rfl (V.move rfl) ?_
       refine G.nil ?_
       refine G.norm (L' := [(0, .val (.pointer (some ⟨q0, 0, none⟩))), (21, eL e_T_Pat 4 b4.fArgs), (22, .val (.int .i64 (b4.fArgs.length : Int))), (23, .val (.int .i64 ((i18 + 1 : Nat) : Int)))]) (is := [0, 21, 22, 23]) (R' := [.cells q0 90 [.val (.map (some q1)), .val (.map (some q2)), .val (.map (some q3)), .val (.map (some q4))], .map q1 (encM bs eB b0), .map q2 (encM bs eB b1), .map q3 (encM bs eB b2), .map q4 (encM bs (eI .i64) b3)]) (js := [0, 0, 0, 0, 0]) rfl rfl ?_
       refine G.again ?_
       intro hl49 a w hA
       exact ⟨_, Nat.lt_succ_self _, rest20, i18 + 1, rfl, hl49, rng_next hd21, hA⟩
   ·rintro _ hb a w ⟨b51, rfl, hA⟩ hF52
    refine G.use hF52 hA ?_
    refine G.inr ?_
    refine G.next_ hK14 ?_
    refine G.seq fun K53 hK54 => ?_
    refine G.region ?_
    refine G.p rfl (V.assign rfl) ?_
    refine G.nil ?_
    refine G.norm (L' := [(4, .val (.bool false))]) (is := [4]) (R' := [.cells q0 90 [.val (.map (some q1)), .val (.map (some q2)), .val (.map (some q3)), .val (.map (some q4))], .map q1 (encM bs eB b0), .map q2 (encM bs eB b1), .map q3 (encM bs eB b2), .map q4 (encM bs (eI .i64) b3)]) (js := [0, 0, 0, 0, 0]) rfl rfl ?_
    refine G.next_ hK54 ?_
    refine G.ret ?_
    refine G.fin_ fun hF55 => ?_
    obtain rfl := Option.some.inj hF55
    exact G.ret1 Try.results44 () (is := [0, 0, 0, 0, 0]) (.of rfl) rfl
theorem scope_resolver_foreign.all_ok (k : Nat) : scope_resolver_foreign.Spec (scope_resolver_foreign.all k) := by
  induction k with
  | zero => exact by intro b0 b1 b2 b3 b4 q0 q1 q2 q3 q4 out hp; simp [scope_resolver_foreign.all] at hp
  | succ k ih => exact scope_resolver_foreign.body_ok ih 
def scope_resolver_foreign (k : Nat) : (List (Str × Bool)) → (List (Str × Bool)) → (List (Str × Bool)) → (List (Str × Int)) → T_Pat → Option (Bool) := (scope_resolver_foreign.all k)
theorem scope_resolver_foreign_ok (k : Nat) : scope_resolver_foreign.Spec (scope_resolver_foreign k) := (scope_resolver_foreign.all_ok k)
theorem scope_resolver_foreign_succ (k : Nat) (b0 : List (Str × Bool)) (b1 : List (Str × Bool)) (b2 : List (Str × Bool)) (b3 : List (Str × Int)) (b4 : T_Pat) : scope_resolver_foreign (k + 1) b0 b1 b2 b3 b4 = scope_resolver_foreign.body (scope_resolver_foreign k) b0 b1 b2 b3 b4 := rfl
theorem scope_resolver_foreign_zero (b0 : List (Str × Bool)) (b1 : List (Str × Bool)) (b2 : List (Str × Bool)) (b3 : List (Str × Int)) (b4 : T_Pat) : scope_resolver_foreign 0 b0 b1 b2 b3 b4 = none := rfl
/-! (*roadstead/scope.resolver).wrong -/
def scope_resolver_wrong.l1 (b0 : List (Str × Bool)) (b1 : List (Str × Bool)) (b2 : List (Str × Bool)) (b3 : List (Str × Int)) (k : Nat) : List (T_Arm) → Option (Bool ⊕ (Unit))
  | [] => some (.inr ())
  | y75 :: rest76 => (tree_Bound k y75.fPat).bind fun r96 => (scope_Twice r96).bind fun r99 => (if r99 = true then some true else (scope_resolver_foreign k b0 b1 b2 b3 y75.fPat).bind fun r105 => some r105).bind fun t103 => (if t103 = true then some (.inl true) else scope_resolver_wrong.l1 b0 b1 b2 b3 k rest76)

theorem scope_resolver_wrong.l1_nil (b0 : List (Str × Bool)) (b1 : List (Str × Bool)) (b2 : List (Str × Bool)) (b3 : List (Str × Int)) (k : Nat)  : scope_resolver_wrong.l1 b0 b1 b2 b3 k []  = some (.inr ()) := rfl
theorem scope_resolver_wrong.l1_cons (b0 : List (Str × Bool)) (b1 : List (Str × Bool)) (b2 : List (Str × Bool)) (b3 : List (Str × Int)) (k : Nat) {y75 : T_Arm} {rest76 : List (T_Arm)} : scope_resolver_wrong.l1 b0 b1 b2 b3 k (y75 :: rest76)  = (tree_Bound k y75.fPat).bind fun r96 => (scope_Twice r96).bind fun r99 => (if r99 = true then some true else (scope_resolver_foreign k b0 b1 b2 b3 y75.fPat).bind fun r105 => some r105).bind fun t103 => (if t103 = true then some (.inl true) else scope_resolver_wrong.l1 b0 b1 b2 b3 k rest76) := rfl
def scope_resolver_wrong.Spec (F : (List (Str × Bool)) → (List (Str × Bool)) → (List (Str × Bool)) → (List (Str × Int)) → T_Expr → Option (Bool)) : Prop := ∀ {b0 : List (Str × Bool)} {b1 : List (Str × Bool)} {b2 : List (Str × Bool)} {b3 : List (Str × Int)} {b4 : T_Expr} {q0 : Nat} {q1 : Nat} {q2 : Nat} {q3 : Nat} {q4 : Nat} {out : Bool}, F b0 b1 b2 b3 b4 = some out → Ct Gl Try.prog 38 [.val (.pointer (some ⟨q0, 0, none⟩)), .agg (lf_T_Expr b4)] [.cells q0 90 [.val (.map (some q1)), .val (.map (some q2)), .val (.map (some q3)), .val (.map (some q4))], .map q1 (encM bs eB b0), .map q2 (encM bs eB b1), .map q3 (encM bs eB b2), .map q4 (encM bs (eI .i64) b3)] (fun x : Unit => .val (.bool out)) (fun x : Unit => [.cells q0 90 [.val (.map (some q1)), .val (.map (some q2)), .val (.map (some q3)), .val (.map (some q4))], .map q1 (encM bs eB b0), .map q2 (encM bs eB b1), .map q3 (encM bs eB b2), .map q4 (encM bs (eI .i64) b3)])
def scope_resolver_wrong (k : Nat) (b0 : List (Str × Bool)) (b1 : List (Str × Bool)) (b2 : List (Str × Bool)) (b3 : List (Str × Int)) (b4 : T_Expr) : Option (Bool) := ((if (b4.fKind == 5) = true then (if (((mget b3 b4.fText).getD (0 : Int)) == 0) = true then some (.inl true) else some (.inr ())) else (if (b4.fKind == 9) = true then (if (!((mget b1 b4.fText).getD false)) = true then some (.inl true) else some (.inr ())) else (if (b4.fKind == 12) = true then (if (!((mget b0 b4.fText).getD false)) = true then some (.inl true) else some (.inr ())) else (if (b4.fKind == 14) = true then (if (!((mget b2 b4.fText).getD false)) = true then some (.inl true) else some (.inr ())) else (if (b4.fKind == 10) = true then (scope_Twice b4.fNames).bind fun r58 => (if r58 = true then some (.inl true) else some (.inr ())) else some (.inr ()))))))).bind (retOr fun b67 => (scope_resolver_wrong.l1 b0 b1 b2 b3 k b4.fArms).bind (retOr fun b116 => some false))
set_option maxRecDepth 100000 in
theorem scope_resolver_wrong_ok (k : Nat) : scope_resolver_wrong.Spec (scope_resolver_wrong k) := by
 intro b0 b1 b2 b3 b4 q0 q1 q2 q3 q4 out hp
 refine ct_of_G (nt := 72) Try.func38 rfl Try.ntmps38 rfl (fun B => ?_) hp
 unfold scope_resolver_wrong
 refine G.seq fun K1 hK2 => ?_
 refine G.region ?_
 refine G.op rfl (O.box (.of rfl) (OneC.agg (List.forall_mem_cons.2 ⟨(.val rfl), (List.forall_mem_cons.2 ⟨(.val rfl), (List.forall_mem_cons.2 ⟨(.val rfl), (List.forall_mem_cons.2 ⟨.sl, (List.forall_mem_cons.2 ⟨.sl, (List.forall_mem_cons.2 ⟨.sl, (List.forall_mem_cons.2 ⟨.sl, (List.forall_mem_cons.2 ⟨(.val rfl), (List.forall_mem_nil _)⟩)⟩)⟩)⟩)⟩)⟩)⟩)⟩))) fun g3 => ?_
 refine G.p rfl (V.assign rfl) ?_
 refine G.nil ?_
 refine G.norm (L' := [(0, .val (.pointer (some ⟨q0, 0, none⟩))), (3, .val (.pointer (some ⟨g3, 0, none⟩)))]) (is := [0, 3]) (R' := [.cells g3 47 (lf_T_Expr b4), .cells q0 90 [.val (.map (some q1)), .val (.map (some q2)), .val (.map (some q3)), .val (.map (some q4))], .map q1 (encM bs eB b0), .map q2 (encM bs eB b1), .map q3 (encM bs eB b2), .map q4 (encM bs (eI .i64) b3)]) (js := [0, 0, 0, 0, 0, 0]) rfl rfl ?_
 refine G.next_ hK2 ?_
 refine G.seq fun K4 hK5 => ?_
 refine G.seq fun K6 hK7 => ?_
 refine G.region ?_
 refine G.p rfl (V.fieldAddr (o' := 0) rfl Try.runUnderlying47 rfl Try.sizeOf3 rfl) ?_
 refine G.q rfl (V.load_cell (i := 0) (ds := (lf_T_Expr b4)) (d := .val (.int .i64 b4.fKind)) rfl rfl Try.isAgg3 rfl rfl) ?_
 refine G.nil ?_
 refine G.norm (L' := [(0, .val (.pointer (some ⟨q0, 0, none⟩))), (3, .val (.pointer (some ⟨g3, 0, none⟩))), (8, .val (.int .i64 b4.fKind))]) (is := [0, 3, 8]) (R' := [.cells g3 47 (lf_T_Expr b4), .cells q0 90 [.val (.map (some q1)), .val (.map (some q2)), .val (.map (some q3)), .val (.map (some q4))], .map q1 (encM bs eB b0), .map q2 (encM bs eB b1), .map q3 (encM bs eB b2), .map q4 (encM bs (eI .i64) b3)]) (js := [0, 0, 0, 0, 0, 0]) rfl rfl ?_
 refine G.next_ hK7 ?_
 refine G.block ?_
 refine G.seq fun K8 hK9 => ?_
 refine G.region ?_
 refine G.p rfl (V.bin (u := .int .i64 b4.fKind) (v := .int .i64 5) (r := .bool (b4.fKind == 5)) rfl rfl b_eql) ?_
 refine G.p rfl (V.assign rfl) ?_
 refine G.nil ?_
 refine G.norm (L' := [(0, .val (.pointer (some ⟨q0, 0, none⟩))), (3, .val (.pointer (some ⟨g3, 0, none⟩))), (8, .val (.int .i64 b4.fKind)), (9, .val (.bool (b4.fKind == 5)))]) (is := [0, 3, 8, 9]) (R' := [.cells g3 47 (lf_T_Expr b4), .cells q0 90 [.val (.map (some q1)), .val (.map (some q2)), .val (.map (some q3)), .val (.map (some q4))], .map q1 (encM bs eB b0), .map q2 (encM bs eB b1), .map q3 (encM bs eB b2), .map q4 (encM bs (eI .i64) b3)]) (js := [0, 0, 0, 0, 0, 0]) rfl rfl ?_
 refine G.next_ hK9 ?_
 refine G.join (E := fun o a w => ∃ b, o = .inr b ∧ Ass Gl B 72 [(0, .val (.pointer (some ⟨q0, 0, none⟩))), (3, .val (.pointer (some ⟨g3, 0, none⟩)))] [.cells q0 90 [.val (.map (some q1)), .val (.map (some q2)), .val (.map (some q3)), .val (.map (some q4))], .map q1 (encM bs eB b0), .map q2 (encM bs eB b1), .map q3 (encM bs eB b2), .map q4 (encM bs (eI .i64) b3), .cells g3 47 (lf_T_Expr b4)] a w) ?_ ?_
 ·intro b hF10
  refine G.cond (b := (b4.fKind == 5)) rfl (fun hc11 => ?_) (fun hc11 => ?_)
  ·refine G.norm (L' := [(0, .val (.pointer (some ⟨q0, 0, none⟩))), (3, .val (.pointer (some ⟨g3, 0, none⟩)))]) (is := [0, 3]) (R' := [.cells g3 47 (lf_T_Expr b4), .cells q0 90 [.val (.map (some q1)), .val (.map (some q2)), .val (.map (some q3)), .val (.map (some q4))], .map q1 (encM bs eB b0), .map q2 (encM bs eB b1), .map q3 (encM bs eB b2), .map q4 (encM bs (eI .i64) b3)]) (js := [0, 0, 0, 0, 0, 0]) rfl rfl ?_
   refine G.seq fun K12 hK13 => ?_
   refine G.draw [] Try_mixed 8 rfl rfl (fun B1 => ?_)
   refine GH.take 0 rfl rfl (by kernel_rfl) (by kernel_rfl) (by kernel_rfl) (Qp.qv (V.move rfl)) (fun _ _ _ _ h => h) ?_
   refine GH.take 1 rfl rfl (by kernel_rfl) (by kernel_rfl) (by kernel_rfl) (Qp.qv (V.nilCheck rfl)) (fun _ _ _ _ h => h) ?_
   refine GH.take 2 rfl rfl (by kernel_rfl) (by kernel_rfl) (by kernel_rfl) (Qp.qv (V.fieldAddr (o' := 3) rfl Try.runUnderlying90 rfl Try.sizeOf88 rfl)) (fun _ _ _ _ h => h) ?_
   refine GH.take 3 rfl rfl (by kernel_rfl) (by kernel_rfl) (by kernel_rfl) (V.load_cell (i := 1) (ds := [.val (.map (some q1)), .val (.map (some q2)), .val (.map (some q3)), .val (.map (some q4))]) (d := .val (.map (some q4))) rfl rfl Try.isAgg88 rfl rfl) (fun _ _ _ _ h => h) ?_
   refine GH.take 4 rfl rfl (by kernel_rfl) (by kernel_rfl) (by kernel_rfl) (Qp.qv (V.fieldAddr (o' := 2) rfl Try.runUnderlying47 rfl Try.sizeOf9 rfl)) (fun _ _ _ _ h => h) ?_
   refine GH.take 5 rfl rfl (by kernel_rfl) (by kernel_rfl) (by kernel_rfl) (V.load_cell (i := 0) (ds := (lf_T_Expr b4)) (d := .val (bs b4.fText)) rfl rfl Try.isAgg9 rfl rfl) (fun _ _ _ _ h => h) ?_
   refine GH.take 6 rfl rfl (by kernel_rfl) (by kernel_rfl) (by kernel_rfl) (V.lookup (enc := (eI .i64)) (k := b4.fText) (Keys.str Try.underlying9) Try.runUnderlying88 Try.zeroValue3 (0 : Int) (fun _ _ => RdV.val.2 rfl) rfl rfl (i := 5) rfl) (fun _ _ _ _ h => h) ?_
   refine GH.take 7 rfl rfl (by kernel_rfl) (by kernel_rfl) (by kernel_rfl) (Qp.qv (V.bin (u := .int .i64 ((mget b3 b4.fText).getD (0 : Int))) (v := .int .i64 0) (r := .bool (((mget b3 b4.fText).getD (0 : Int)) == 0)) rfl rfl b_eql)) (fun _ _ _ _ h => h) ?_
   refine GH.done (is := [0, 3, 18]) (js := [0, 0, 0, 0, 0, 0]) (L' := [(0, .val (.pointer (some ⟨q0, 0, none⟩))), (3, .val (.pointer (some ⟨g3, 0, none⟩))), (18, .val (.bool (((mget b3 b4.fText).getD (0 : Int)) == 0)))]) (R' := [.cells g3 47 (lf_T_Expr b4), .cells q0 90 [.val (.map (some q1)), .val (.map (some q2)), .val (.map (some q3)), .val (.map (some q4))], .map q1 (encM bs eB b0), .map q2 (encM bs eB b1), .map q3 (encM bs eB b2), .map q4 (encM bs (eI .i64) b3)]) (by kernel_rfl) rfl rfl ?_
   refine G.next_ hK13 ?_
   refine G.cond (b := (((mget b3 b4.fText).getD (0 : Int)) == 0)) rfl (fun hc14 => ?_) (fun hc14 => ?_)
   ·refine G.norm (L' := []) (is := []) (R' := [.cells q0 90 [.val (.map (some q1)), .val (.map (some q2)), .val (.map (some q3)), .val (.map (some q4))], .map q1 (encM bs eB b0), .map q2 (encM bs eB b1), .map q3 (encM bs eB b2), .map q4 (encM bs (eI .i64) b3)]) (js := [1, 1, 1, 1, 1]) rfl rfl ?_
    refine G.seq fun K15 hK16 => ?_
    refine G.region ?_
    refine G.p rfl (V.assign rfl) ?_
    refine G.nil ?_
    refine G.norm (L' := [(4, .val (.bool true))]) (is := [4]) (R' := [.cells q0 90 [.val (.map (some q1)), .val (.map (some q2)), .val (.map (some q3)), .val (.map (some q4))], .map q1 (encM bs eB b0), .map q2 (encM bs eB b1), .map q3 (encM bs eB b2), .map q4 (encM bs (eI .i64) b3)]) (js := [0, 0, 0, 0, 0]) rfl rfl ?_
    refine G.next_ hK16 ?_
    refine G.ret ?_
    refine G.thn_ret ?_
    refine G.inB_ret ?_
    refine G.thn_ret ?_
    refine G.fin_ fun hF17 => ?_
    have hb18 := Option.some.inj hF17
    subst hb18
    have hF19 : (some true : Option (Bool)) = some _ := hF10
    obtain rfl := Option.some.inj hF19
    exact G.ret1 Try.results38 () (is := [0, 0, 0, 0, 0]) (.of rfl) rfl
   ·refine G.norm (L' := [(0, .val (.pointer (some ⟨q0, 0, none⟩))), (3, .val (.pointer (some ⟨g3, 0, none⟩)))]) (is := [0, 3]) (R' := [.cells g3 47 (lf_T_Expr b4), .cells q0 90 [.val (.map (some q1)), .val (.map (some q2)), .val (.map (some q3)), .val (.map (some q4))], .map q1 (encM bs eB b0), .map q2 (encM bs eB b1), .map q3 (encM bs eB b2), .map q4 (encM bs (eI .i64) b3)]) (js := [0, 0, 0, 0, 0, 0]) rfl rfl ?_
    refine G.skip ?_
    refine G.norm (L' := [(0, .val (.pointer (some ⟨q0, 0, none⟩))), (3, .val (.pointer (some ⟨g3, 0, none⟩)))]) (is := [0, 3]) (R' := [.cells q0 90 [.val (.map (some q1)), .val (.map (some q2)), .val (.map (some q3)), .val (.map (some q4))], .map q1 (encM bs eB b0), .map q2 (encM bs eB b1), .map q3 (encM bs eB b2), .map q4 (encM bs (eI .i64) b3), .cells g3 47 (lf_T_Expr b4)]) (js := [1, 1, 1, 1, 1, 0]) rfl rfl ?_
    exact G.finE fun hb a w hA => by subst hb; exact ⟨_, rfl, hA⟩
  ·refine G.norm (L' := [(0, .val (.pointer (some ⟨q0, 0, none⟩))), (3, .val (.pointer (some ⟨g3, 0, none⟩))), (8, .val (.int .i64 b4.fKind))]) (is := [0, 3, 8]) (R' := [.cells g3 47 (lf_T_Expr b4), .cells q0 90 [.val (.map (some q1)), .val (.map (some q2)), .val (.map (some q3)), .val (.map (some q4))], .map q1 (encM bs eB b0), .map q2 (encM bs eB b1), .map q3 (encM bs eB b2), .map q4 (encM bs (eI .i64) b3)]) (js := [0, 0, 0, 0, 0, 0]) rfl rfl ?_
   refine G.seq fun K20 hK21 => ?_
   refine G.region ?_
   refine G.p rfl (V.bin (u := .int .i64 b4.fKind) (v := .int .i64 9) (r := .bool (b4.fKind == 9)) rfl rfl b_eql) ?_
   refine G.p rfl (V.assign rfl) ?_
   refine G.nil ?_
   refine G.norm (L' := [(0, .val (.pointer (some ⟨q0, 0, none⟩))), (3, .val (.pointer (some ⟨g3, 0, none⟩))), (8, .val (.int .i64 b4.fKind)), (19, .val (.bool (b4.fKind == 9)))]) (is := [0, 3, 8, 19]) (R' := [.cells g3 47 (lf_T_Expr b4), .cells q0 90 [.val (.map (some q1)), .val (.map (some q2)), .val (.map (some q3)), .val (.map (some q4))], .map q1 (encM bs eB b0), .map q2 (encM bs eB b1), .map q3 (encM bs eB b2), .map q4 (encM bs (eI .i64) b3)]) (js := [0, 0, 0, 0, 0, 0]) rfl rfl ?_
   refine G.next_ hK21 ?_
   refine G.cond (b := (b4.fKind == 9)) rfl (fun hc22 => ?_) (fun hc22 => ?_)
   ·refine G.norm (L' := [(0, .val (.pointer (some ⟨q0, 0, none⟩))), (3, .val (.pointer (some ⟨g3, 0, none⟩)))]) (is := [0, 3]) (R' := [.cells g3 47 (lf_T_Expr b4), .cells q0 90 [.val (.map (some q1)), .val (.map (some q2)), .val (.map (some q3)), .val (.map (some q4))], .map q1 (encM bs eB b0), .map q2 (encM bs eB b1), .map q3 (encM bs eB b2), .map q4 (encM bs (eI .i64) b3)]) (js := [0, 0, 0, 0, 0, 0]) rfl rfl ?_
    refine G.seq fun K23 hK24 => ?_
    refine G.draw [] Try_mixed 8 rfl rfl (fun B1 => ?_)
    refine GH.take 0 rfl rfl (by kernel_rfl) (by kernel_rfl) (by kernel_rfl) (Qp.qv (V.move rfl)) (fun _ _ _ _ h => h) ?_
    refine GH.take 1 rfl rfl (by kernel_rfl) (by kernel_rfl) (by kernel_rfl) (Qp.qv (V.nilCheck rfl)) (fun _ _ _ _ h => h) ?_
    refine GH.take 2 rfl rfl (by kernel_rfl) (by kernel_rfl) (by kernel_rfl) (Qp.qv (V.fieldAddr (o' := 1) rfl Try.runUnderlying90 rfl Try.sizeOf79 rfl)) (fun _ _ _ _ h => h) ?_
    refine GH.take 3 rfl rfl (by kernel_rfl) (by kernel_rfl) (by kernel_rfl) (V.load_cell (i := 1) (ds := [.val (.map (some q1)), .val (.map (some q2)), .val (.map (some q3)), .val (.map (some q4))]) (d := .val (.map (some q2))) rfl rfl Try.isAgg79 rfl rfl) (fun _ _ _ _ h => h) ?_
    refine GH.take 4 rfl rfl (by kernel_rfl) (by kernel_rfl) (by kernel_rfl) (Qp.qv (V.fieldAddr (o' := 2) rfl Try.runUnderlying47 rfl Try.sizeOf9 rfl)) (fun _ _ _ _ h => h) ?_
    refine GH.take 5 rfl rfl (by kernel_rfl) (by kernel_rfl) (by kernel_rfl) (V.load_cell (i := 0) (ds := (lf_T_Expr b4)) (d := .val (bs b4.fText)) rfl rfl Try.isAgg9 rfl rfl) (fun _ _ _ _ h => h) ?_
    refine GH.take 6 rfl rfl (by kernel_rfl) (by kernel_rfl) (by kernel_rfl) (V.lookup (enc := eB) (k := b4.fText) (Keys.str Try.underlying9) Try.runUnderlying79 Try.zeroValue4 false (fun _ _ => RdV.val.2 rfl) rfl rfl (i := 3) rfl) (fun _ _ _ _ h => h) ?_
    refine GH.take 7 rfl rfl (by kernel_rfl) (by kernel_rfl) (by kernel_rfl) (Qp.qv (V.not (b := ((mget b1 b4.fText).getD false)) rfl)) (fun _ _ _ _ h => h) ?_
    refine GH.done (is := [0, 3, 28]) (js := [0, 0, 0, 0, 0, 0]) (L' := [(0, .val (.pointer (some ⟨q0, 0, none⟩))), (3, .val (.pointer (some ⟨g3, 0, none⟩))), (28, .val (.bool (!((mget b1 b4.fText).getD false))))]) (R' := [.cells g3 47 (lf_T_Expr b4), .cells q0 90 [.val (.map (some q1)), .val (.map (some q2)), .val (.map (some q3)), .val (.map (some q4))], .map q1 (encM bs eB b0), .map q2 (encM bs eB b1), .map q3 (encM bs eB b2), .map q4 (encM bs (eI .i64) b3)]) (by kernel_rfl) rfl rfl ?_
    refine G.next_ hK24 ?_
    refine G.cond (b := (!((mget b1 b4.fText).getD false))) rfl (fun hc25 => ?_) (fun hc25 => ?_)
    ·refine G.norm (L' := []) (is := []) (R' := [.cells q0 90 [.val (.map (some q1)), .val (.map (some q2)), .val (.map (some q3)), .val (.map (some q4))], .map q1 (encM bs eB b0), .map q2 (encM bs eB b1), .map q3 (encM bs eB b2), .map q4 (encM bs (eI .i64) b3)]) (js := [1, 1, 1, 1, 1]) rfl rfl ?_
     refine G.seq fun K26 hK27 => ?_
     refine G.region ?_
     refine G.p rfl (V.assign rfl) ?_
     refine G.nil ?_
     refine G.norm (L' := [(4, .val (.bool true))]) (is := [4]) (R' := [.cells q0 90 [.val (.map (some q1)), .val (.map (some q2)), .val (.map (some q3)), .val (.map (some q4))], .map q1 (encM bs eB b0), .map q2 (encM bs eB b1), .map q3 (encM bs eB b2), .map q4 (encM bs (eI .i64) b3)]) (js := [0, 0, 0, 0, 0]) rfl rfl ?_
     refine G.next_ hK27 ?_
     refine G.ret ?_
     refine G.thn_ret ?_
     refine G.inB_ret ?_
     refine G.thn_ret ?_
     refine G.fin_ fun hF28 => ?_
     have hb29 := Option.some.inj hF28
     subst hb29
     have hF30 : (some true : Option (Bool)) = some _ := hF10
     obtain rfl := Option.some.inj hF30
     exact G.ret1 Try.results38 () (is := [0, 0, 0, 0, 0]) (.of rfl) rfl
    ·refine G.norm (L' := [(0, .val (.pointer (some ⟨q0, 0, none⟩))), (3, .val (.pointer (some ⟨g3, 0, none⟩)))]) (is := [0, 3]) (R' := [.cells g3 47 (lf_T_Expr b4), .cells q0 90 [.val (.map (some q1)), .val (.map (some q2)), .val (.map (some q3)), .val (.map (some q4))], .map q1 (encM bs eB b0), .map q2 (encM bs eB b1), .map q3 (encM bs eB b2), .map q4 (encM bs (eI .i64) b3)]) (js := [0, 0, 0, 0, 0, 0]) rfl rfl ?_
     refine G.skip ?_
     refine G.norm (L' := [(0, .val (.pointer (some ⟨q0, 0, none⟩))), (3, .val (.pointer (some ⟨g3, 0, none⟩)))]) (is := [0, 3]) (R' := [.cells q0 90 [.val (.map (some q1)), .val (.map (some q2)), .val (.map (some q3)), .val (.map (some q4))], .map q1 (encM bs eB b0), .map q2 (encM bs eB b1), .map q3 (encM bs eB b2), .map q4 (encM bs (eI .i64) b3), .cells g3 47 (lf_T_Expr b4)]) (js := [1, 1, 1, 1, 1, 0]) rfl rfl ?_
     exact G.finE fun hb a w hA => by subst hb; exact ⟨_, rfl, hA⟩
   ·refine G.norm (L' := [(0, .val (.pointer (some ⟨q0, 0, none⟩))), (3, .val (.pointer (some ⟨g3, 0, none⟩))), (8, .val (.int .i64 b4.fKind))]) (is := [0, 3, 8]) (R' := [.cells g3 47 (lf_T_Expr b4), .cells q0 90 [.val (.map (some q1)), .val (.map (some q2)), .val (.map (some q3)), .val (.map (some q4))], .map q1 (encM bs eB b0), .map q2 (encM bs eB b1), .map q3 (encM bs eB b2), .map q4 (encM bs (eI .i64) b3)]) (js := [0, 0, 0, 0, 0, 0]) rfl rfl ?_
    refine G.seq fun K31 hK32 => ?_
    refine G.region ?_
    refine G.p rfl (V.bin (u := .int .i64 b4.fKind) (v := .int .i64 12) (r := .bool (b4.fKind == 12)) rfl rfl b_eql) ?_
    refine G.p rfl (V.assign rfl) ?_
    refine G.nil ?_
    refine G.norm (L' := [(0, .val (.pointer (some ⟨q0, 0, none⟩))), (3, .val (.pointer (some ⟨g3, 0, none⟩))), (8, .val (.int .i64 b4.fKind)), (29, .val (.bool (b4.fKind == 12)))]) (is := [0, 3, 8, 29]) (R' := [.cells g3 47 (lf_T_Expr b4), .cells q0 90 [.val (.map (some q1)), .val (.map (some q2)), .val (.map (some q3)), .val (.map (some q4))], .map q1 (encM bs eB b0), .map q2 (encM bs eB b1), .map q3 (encM bs eB b2), .map q4 (encM bs (eI .i64) b3)]) (js := [0, 0, 0, 0, 0, 0]) rfl rfl ?_
    refine G.next_ hK32 ?_
    refine G.cond (b := (b4.fKind == 12)) rfl (fun hc33 => ?_) (fun hc33 => ?_)
    ·refine G.norm (L' := [(0, .val (.pointer (some ⟨q0, 0, none⟩))), (3, .val (.pointer (some ⟨g3, 0, none⟩)))]) (is := [0, 3]) (R' := [.cells g3 47 (lf_T_Expr b4), .cells q0 90 [.val (.map (some q1)), .val (.map (some q2)), .val (.map (some q3)), .val (.map (some q4))], .map q1 (encM bs eB b0), .map q2 (encM bs eB b1), .map q3 (encM bs eB b2), .map q4 (encM bs (eI .i64) b3)]) (js := [0, 0, 0, 0, 0, 0]) rfl rfl ?_
     refine G.seq fun K34 hK35 => ?_
     refine G.draw [] Try_mixed 8 rfl rfl (fun B1 => ?_)
     refine GH.take 0 rfl rfl (by kernel_rfl) (by kernel_rfl) (by kernel_rfl) (Qp.qv (V.move rfl)) (fun _ _ _ _ h => h) ?_
     refine GH.take 1 rfl rfl (by kernel_rfl) (by kernel_rfl) (by kernel_rfl) (Qp.qv (V.nilCheck rfl)) (fun _ _ _ _ h => h) ?_
     refine GH.take 2 rfl rfl (by kernel_rfl) (by kernel_rfl) (by kernel_rfl) (Qp.qv (V.fieldAddr (o' := 0) rfl Try.runUnderlying90 rfl Try.sizeOf79 rfl)) (fun _ _ _ _ h => h) ?_
     refine GH.take 3 rfl rfl (by kernel_rfl) (by kernel_rfl) (by kernel_rfl) (V.load_cell (i := 1) (ds := [.val (.map (some q1)), .val (.map (some q2)), .val (.map (some q3)), .val (.map (some q4))]) (d := .val (.map (some q1))) rfl rfl Try.isAgg79 rfl rfl) (fun _ _ _ _ h => h) ?_
     refine GH.take 4 rfl rfl (by kernel_rfl) (by kernel_rfl) (by kernel_rfl) (Qp.qv (V.fieldAddr (o' := 2) rfl Try.runUnderlying47 rfl Try.sizeOf9 rfl)) (fun _ _ _ _ h => h) ?_
     refine GH.take 5 rfl rfl (by kernel_rfl) (by kernel_rfl) (by kernel_rfl) (V.load_cell (i := 0) (ds := (lf_T_Expr b4)) (d := .val (bs b4.fText)) rfl rfl Try.isAgg9 rfl rfl) (fun _ _ _ _ h => h) ?_
     refine GH.take 6 rfl rfl (by kernel_rfl) (by kernel_rfl) (by kernel_rfl) (V.lookup (enc := eB) (k := b4.fText) (Keys.str Try.underlying9) Try.runUnderlying79 Try.zeroValue4 false (fun _ _ => RdV.val.2 rfl) rfl rfl (i := 2) rfl) (fun _ _ _ _ h => h) ?_
     refine GH.take 7 rfl rfl (by kernel_rfl) (by kernel_rfl) (by kernel_rfl) (Qp.qv (V.not (b := ((mget b0 b4.fText).getD false)) rfl)) (fun _ _ _ _ h => h) ?_
     refine GH.done (is := [0, 3, 38]) (js := [0, 0, 0, 0, 0, 0]) (L' := [(0, .val (.pointer (some ⟨q0, 0, none⟩))), (3, .val (.pointer (some ⟨g3, 0, none⟩))), (38, .val (.bool (!((mget b0 b4.fText).getD false))))]) (R' := [.cells g3 47 (lf_T_Expr b4), .cells q0 90 [.val (.map (some q1)), .val (.map (some q2)), .val (.map (some q3)), .val (.map (some q4))], .map q1 (encM bs eB b0), .map q2 (encM bs eB b1), .map q3 (encM bs eB b2), .map q4 (encM bs (eI .i64) b3)]) (by kernel_rfl) rfl rfl ?_
     refine G.next_ hK35 ?_
     refine G.cond (b := (!((mget b0 b4.fText).getD false))) rfl (fun hc36 => ?_) (fun hc36 => ?_)
     ·refine G.norm (L' := []) (is := []) (R' := [.cells q0 90 [.val (.map (some q1)), .val (.map (some q2)), .val (.map (some q3)), .val (.map (some q4))], .map q1 (encM bs eB b0), .map q2 (encM bs eB b1), .map q3 (encM bs eB b2), .map q4 (encM bs (eI .i64) b3)]) (js := [1, 1, 1, 1, 1]) rfl rfl ?_
      refine G.seq fun K37 hK38 => ?_
      refine G.region ?_
      refine G.p rfl (V.assign rfl) ?_
      refine G.nil ?_
      refine G.norm (L' := [(4, .val (.bool true))]) (is := [4]) (R' := [.cells q0 90 [.val (.map (some q1)), .val (.map (some q2)), .val (.map (some q3)), .val (.map (some q4))], .map q1 (encM bs eB b0), .map q2 (encM bs eB b1), .map q3 (encM bs eB b2), .map q4 (encM bs (eI .i64) b3)]) (js := [0, 0, 0, 0, 0]) rfl rfl ?_
      refine G.next_ hK38 ?_
      refine G.ret ?_
      refine G.thn_ret ?_
      refine G.inB_ret ?_
      refine G.thn_ret ?_
      refine G.fin_ fun hF39 => ?_
      have hb40 := Option.some.inj hF39
      subst hb40
      have hF41 : (some true : Option (Bool)) = some _ := hF10
      obtain rfl := Option.some.inj hF41
      exact G.ret1 Try.results38 () (is := [0, 0, 0, 0, 0]) (.of rfl) rfl
     ·refine G.norm (L' := [(0, .val (.pointer (some ⟨q0, 0, none⟩))), (3, .val (.pointer (some ⟨g3, 0, none⟩)))]) (is := [0, 3]) (R' := [.cells g3 47 (lf_T_Expr b4), .cells q0 90 [.val (.map (some q1)), .val (.map (some q2)), .val (.map (some q3)), .val (.map (some q4))], .map q1 (encM bs eB b0), .map q2 (encM bs eB b1), .map q3 (encM bs eB b2), .map q4 (encM bs (eI .i64) b3)]) (js := [0, 0, 0, 0, 0, 0]) rfl rfl ?_
      refine G.skip ?_
      refine G.norm (L' := [(0, .val (.pointer (some ⟨q0, 0, none⟩))), (3, .val (.pointer (some ⟨g3, 0, none⟩)))]) (is := [0, 3]) (R' := [.cells q0 90 [.val (.map (some q1)), .val (.map (some q2)), .val (.map (some q3)), .val (.map (some q4))], .map q1 (encM bs eB b0), .map q2 (encM bs eB b1), .map q3 (encM bs eB b2), .map q4 (encM bs (eI .i64) b3), .cells g3 47 (lf_T_Expr b4)]) (js := [1, 1, 1, 1, 1, 0]) rfl rfl ?_
      exact G.finE fun hb a w hA => by subst hb; exact ⟨_, rfl, hA⟩
    ·refine G.norm (L' := [(0, .val (.pointer (some ⟨q0, 0, none⟩))), (3, .val (.pointer (some ⟨g3, 0, none⟩))), (8, .val (.int .i64 b4.fKind))]) (is := [0, 3, 8]) (R' := [.cells g3 47 (lf_T_Expr b4), .cells q0 90 [.val (.map (some q1)), .val (.map (some q2)), .val (.map (some q3)), .val (.map (some q4))], .map q1 (encM bs eB b0), .map q2 (encM bs eB b1), .map q3 (encM bs eB b2), .map q4 (encM bs (eI .i64) b3)]) (js := [0, 0, 0, 0, 0, 0]) rfl rfl ?_
     refine G.seq fun K42 hK43 => ?_
     refine G.region ?_
     refine G.p rfl (V.bin (u := .int .i64 b4.fKind) (v := .int .i64 14) (r := .bool (b4.fKind == 14)) rfl rfl b_eql) ?_
     refine G.p rfl (V.assign rfl) ?_
     refine G.nil ?_
     refine G.norm (L' := [(0, .val (.pointer (some ⟨q0, 0, none⟩))), (3, .val (.pointer (some ⟨g3, 0, none⟩))), (8, .val (.int .i64 b4.fKind)), (39, .val (.bool (b4.fKind == 14)))]) (is := [0, 3, 8, 39]) (R' := [.cells g3 47 (lf_T_Expr b4), .cells q0 90 [.val (.map (some q1)), .val (.map (some q2)), .val (.map (some q3)), .val (.map (some q4))], .map q1 (encM bs eB b0), .map q2 (encM bs eB b1), .map q3 (encM bs eB b2), .map q4 (encM bs (eI .i64) b3)]) (js := [0, 0, 0, 0, 0, 0]) rfl rfl ?_
     refine G.next_ hK43 ?_
     refine G.cond (b := (b4.fKind == 14)) rfl (fun hc44 => ?_) (fun hc44 => ?_)
     ·refine G.norm (L' := [(0, .val (.pointer (some ⟨q0, 0, none⟩))), (3, .val (.pointer (some ⟨g3, 0, none⟩)))]) (is := [0, 3]) (R' := [.cells g3 47 (lf_T_Expr b4), .cells q0 90 [.val (.map (some q1)), .val (.map (some q2)), .val (.map (some q3)), .val (.map (some q4))], .map q1 (encM bs eB b0), .map q2 (encM bs eB b1), .map q3 (encM bs eB b2), .map q4 (encM bs (eI .i64) b3)]) (js := [0, 0, 0, 0, 0, 0]) rfl rfl ?_
      refine G.seq fun K45 hK46 => ?_
      refine G.draw [] Try_mixed 8 rfl rfl (fun B1 => ?_)
      refine GH.take 0 rfl rfl (by kernel_rfl) (by kernel_rfl) (by kernel_rfl) (Qp.qv (V.move rfl)) (fun _ _ _ _ h => h) ?_
      refine GH.take 1 rfl rfl (by kernel_rfl) (by kernel_rfl) (by kernel_rfl) (Qp.qv (V.nilCheck rfl)) (fun _ _ _ _ h => h) ?_
      refine GH.take 2 rfl rfl (by kernel_rfl) (by kernel_rfl) (by kernel_rfl) (Qp.qv (V.fieldAddr (o' := 2) rfl Try.runUnderlying90 rfl Try.sizeOf79 rfl)) (fun _ _ _ _ h => h) ?_
      refine GH.take 3 rfl rfl (by kernel_rfl) (by kernel_rfl) (by kernel_rfl) (V.load_cell (i := 1) (ds := [.val (.map (some q1)), .val (.map (some q2)), .val (.map (some q3)), .val (.map (some q4))]) (d := .val (.map (some q3))) rfl rfl Try.isAgg79 rfl rfl) (fun _ _ _ _ h => h) ?_
      refine GH.take 4 rfl rfl (by kernel_rfl) (by kernel_rfl) (by kernel_rfl) (Qp.qv (V.fieldAddr (o' := 2) rfl Try.runUnderlying47 rfl Try.sizeOf9 rfl)) (fun _ _ _ _ h => h) ?_
      refine GH.take 5 rfl rfl (by kernel_rfl) (by kernel_rfl) (by kernel_rfl) (V.load_cell (i := 0) (ds := (lf_T_Expr b4)) (d := .val (bs b4.fText)) rfl rfl Try.isAgg9 rfl rfl) (fun _ _ _ _ h => h) ?_
      refine GH.take 6 rfl rfl (by kernel_rfl) (by kernel_rfl) (by kernel_rfl) (V.lookup (enc := eB) (k := b4.fText) (Keys.str Try.underlying9) Try.runUnderlying79 Try.zeroValue4 false (fun _ _ => RdV.val.2 rfl) rfl rfl (i := 4) rfl) (fun _ _ _ _ h => h) ?_
      refine GH.take 7 rfl rfl (by kernel_rfl) (by kernel_rfl) (by kernel_rfl) (Qp.qv (V.not (b := ((mget b2 b4.fText).getD false)) rfl)) (fun _ _ _ _ h => h) ?_
      refine GH.done (is := [0, 3, 48]) (js := [0, 0, 0, 0, 0, 0]) (L' := [(0, .val (.pointer (some ⟨q0, 0, none⟩))), (3, .val (.pointer (some ⟨g3, 0, none⟩))), (48, .val (.bool (!((mget b2 b4.fText).getD false))))]) (R' := [.cells g3 47 (lf_T_Expr b4), .cells q0 90 [.val (.map (some q1)), .val (.map (some q2)), .val (.map (some q3)), .val (.map (some q4))], .map q1 (encM bs eB b0), .map q2 (encM bs eB b1), .map q3 (encM bs eB b2), .map q4 (encM bs (eI .i64) b3)]) (by kernel_rfl) rfl rfl ?_
      refine G.next_ hK46 ?_
      refine G.cond (b := (!((mget b2 b4.fText).getD false))) rfl (fun hc47 => ?_) (fun hc47 => ?_)
      ·refine G.norm (L' := []) (is := []) (R' := [.cells q0 90 [.val (.map (some q1)), .val (.map (some q2)), .val (.map (some q3)), .val (.map (some q4))], .map q1 (encM bs eB b0), .map q2 (encM bs eB b1), .map q3 (encM bs eB b2), .map q4 (encM bs (eI .i64) b3)]) (js := [1, 1, 1, 1, 1]) rfl rfl ?_
       refine G.seq fun K48 hK49 => ?_
       refine G.region ?_
       refine G.p rfl (V.assign rfl) ?_
       refine G.nil ?_
       refine G.norm (L' := [(4, .val (.bool true))]) (is := [4]) (R' := [.cells q0 90 [.val (.map (some q1)), .val (.map (some q2)), .val (.map (some q3)), .val (.map (some q4))], .map q1 (encM bs eB b0), .map q2 (encM bs eB b1), .map q3 (encM bs eB b2), .map q4 (encM bs (eI .i64) b3)]) (js := [0, 0, 0, 0, 0]) rfl rfl ?_
       refine G.next_ hK49 ?_
       refine G.ret ?_
       refine G.thn_ret ?_
       refine G.inB_ret ?_
       refine G.thn_ret ?_
       refine G.fin_ fun hF50 => ?_
       have hb51 := Option.some.inj hF50
       subst hb51
       have hF52 : (some true : Option (Bool)) = some _ := hF10
       obtain rfl := Option.some.inj hF52
       exact G.ret1 Try.results38 () (is := [0, 0, 0, 0, 0]) (.of rfl) rfl
      ·refine G.norm (L' := [(0, .val (.pointer (some ⟨q0, 0, none⟩))), (3, .val (.pointer (some ⟨g3, 0, none⟩)))]) (is := [0, 3]) (R' := [.cells g3 47 (lf_T_Expr b4), .cells q0 90 [.val (.map (some q1)), .val (.map (some q2)), .val (.map (some q3)), .val (.map (some q4))], .map q1 (encM bs eB b0), .map q2 (encM bs eB b1), .map q3 (encM bs eB b2), .map q4 (encM bs (eI .i64) b3)]) (js := [0, 0, 0, 0, 0, 0]) rfl rfl ?_
       refine G.skip ?_
       refine G.norm (L' := [(0, .val (.pointer (some ⟨q0, 0, none⟩))), (3, .val (.pointer (some ⟨g3, 0, none⟩)))]) (is := [0, 3]) (R' := [.cells q0 90 [.val (.map (some q1)), .val (.map (some q2)), .val (.map (some q3)), .val (.map (some q4))], .map q1 (encM bs eB b0), .map q2 (encM bs eB b1), .map q3 (encM bs eB b2), .map q4 (encM bs (eI .i64) b3), .cells g3 47 (lf_T_Expr b4)]) (js := [1, 1, 1, 1, 1, 0]) rfl rfl ?_
       exact G.finE fun hb a w hA => by subst hb; exact ⟨_, rfl, hA⟩
     ·refine G.norm (L' := [(0, .val (.pointer (some ⟨q0, 0, none⟩))), (3, .val (.pointer (some ⟨g3, 0, none⟩))), (8, .val (.int .i64 b4.fKind))]) (is := [0, 3, 8]) (R' := [.cells g3 47 (lf_T_Expr b4), .cells q0 90 [.val (.map (some q1)), .val (.map (some q2)), .val (.map (some q3)), .val (.map (some q4))], .map q1 (encM bs eB b0), .map q2 (encM bs eB b1), .map q3 (encM bs eB b2), .map q4 (encM bs (eI .i64) b3)]) (js := [0, 0, 0, 0, 0, 0]) rfl rfl ?_
      refine G.seq fun K53 hK54 => ?_
      refine G.region ?_
      refine G.p rfl (V.bin (u := .int .i64 b4.fKind) (v := .int .i64 10) (r := .bool (b4.fKind == 10)) rfl rfl b_eql) ?_
      refine G.p rfl (V.assign rfl) ?_
      refine G.nil ?_
      refine G.norm (L' := [(0, .val (.pointer (some ⟨q0, 0, none⟩))), (3, .val (.pointer (some ⟨g3, 0, none⟩))), (49, .val (.bool (b4.fKind == 10)))]) (is := [0, 3, 49]) (R' := [.cells g3 47 (lf_T_Expr b4), .cells q0 90 [.val (.map (some q1)), .val (.map (some q2)), .val (.map (some q3)), .val (.map (some q4))], .map q1 (encM bs eB b0), .map q2 (encM bs eB b1), .map q3 (encM bs eB b2), .map q4 (encM bs (eI .i64) b3)]) (js := [0, 0, 0, 0, 0, 0]) rfl rfl ?_
      refine G.next_ hK54 ?_
      refine G.cond (b := (b4.fKind == 10)) rfl (fun hc55 => ?_) (fun hc55 => ?_)
      ·refine G.norm (L' := [(0, .val (.pointer (some ⟨q0, 0, none⟩))), (3, .val (.pointer (some ⟨g3, 0, none⟩)))]) (is := [0, 3]) (R' := [.cells g3 47 (lf_T_Expr b4), .cells q0 90 [.val (.map (some q1)), .val (.map (some q2)), .val (.map (some q3)), .val (.map (some q4))], .map q1 (encM bs eB b0), .map q2 (encM bs eB b1), .map q3 (encM bs eB b2), .map q4 (encM bs (eI .i64) b3)]) (js := [0, 0, 0, 0, 0, 0]) rfl rfl ?_
       refine G.seq fun K56 hK57 => ?_
       refine G.region ?_
       refine G.p rfl (V.fieldAddr (o' := 3) rfl Try.runUnderlying47 rfl Try.sizeOf30 rfl) ?_
       refine G.q rfl (V.load_cell (i := 0) (ds := (lf_T_Expr b4)) (d := eL eS 1 b4.fNames) rfl rfl Try.isAgg30 rfl rfl) ?_
       refine G.bind fun r58 hr59 => ?_
       refine G.op rfl (O.call (xs := [.tmp 52]) (is := []) (Rp := []) (Rr := [.cells g3 47 (lf_T_Expr b4), .cells q0 90 [.val (.map (some q1)), .val (.map (some q2)), .val (.map (some q3)), .val (.map (some q4))], .map q1 (encM bs eB b0), .map q2 (encM bs eB b1), .map q3 (encM bs eB b2), .map q4 (encM bs (eI .i64) b3)]) (scope_Twice_ok hr59) (.cons (.of rfl) .nil) Try.call16 rfl) fun x60 => ?_
       refine G.nil ?_
       refine G.norm (L' := [(0, .val (.pointer (some ⟨q0, 0, none⟩))), (3, .val (.pointer (some ⟨g3, 0, none⟩))), (53, .val (.bool r58))]) (is := [0, 3, 53]) (R' := [.cells g3 47 (lf_T_Expr b4), .cells q0 90 [.val (.map (some q1)), .val (.map (some q2)), .val (.map (some q3)), .val (.map (some q4))], .map q1 (encM bs eB b0), .map q2 (encM bs eB b1), .map q3 (encM bs eB b2), .map q4 (encM bs (eI .i64) b3)]) (js := [0, 0, 0, 0, 0, 0]) rfl rfl ?_
       refine G.next_ hK57 ?_
       refine G.cond (b := r58) rfl (fun hc61 => ?_) (fun hc61 => ?_)
       ·refine G.norm (L' := []) (is := []) (R' := [.cells q0 90 [.val (.map (some q1)), .val (.map (some q2)), .val (.map (some q3)), .val (.map (some q4))], .map q1 (encM bs eB b0), .map q2 (encM bs eB b1), .map q3 (encM bs eB b2), .map q4 (encM bs (eI .i64) b3)]) (js := [1, 1, 1, 1, 1]) rfl rfl ?_
        refine G.seq fun K62 hK63 => ?_
        refine G.region ?_
        refine G.p rfl (V.assign rfl) ?_
        refine G.nil ?_
        refine G.norm (L' := [(4, .val (.bool true))]) (is := [4]) (R' := [.cells q0 90 [.val (.map (some q1)), .val (.map (some q2)), .val (.map (some q3)), .val (.map (some q4))], .map q1 (encM bs eB b0), .map q2 (encM bs eB b1), .map q3 (encM bs eB b2), .map q4 (encM bs (eI .i64) b3)]) (js := [0, 0, 0, 0, 0]) rfl rfl ?_
        refine G.next_ hK63 ?_
        refine G.ret ?_
        refine G.thn_ret ?_
        refine G.inB_ret ?_
        refine G.thn_ret ?_
        refine G.fin_ fun hF64 => ?_
        have hb65 := Option.some.inj hF64
        subst hb65
        have hF66 : (some true : Option (Bool)) = some _ := hF10
        obtain rfl := Option.some.inj hF66
        exact G.ret1 Try.results38 () (is := [0, 0, 0, 0, 0]) (.of rfl) rfl
       ·refine G.norm (L' := [(0, .val (.pointer (some ⟨q0, 0, none⟩))), (3, .val (.pointer (some ⟨g3, 0, none⟩)))]) (is := [0, 3]) (R' := [.cells g3 47 (lf_T_Expr b4), .cells q0 90 [.val (.map (some q1)), .val (.map (some q2)), .val (.map (some q3)), .val (.map (some q4))], .map q1 (encM bs eB b0), .map q2 (encM bs eB b1), .map q3 (encM bs eB b2), .map q4 (encM bs (eI .i64) b3)]) (js := [0, 0, 0, 0, 0, 0]) rfl rfl ?_
        refine G.skip ?_
        refine G.norm (L' := [(0, .val (.pointer (some ⟨q0, 0, none⟩))), (3, .val (.pointer (some ⟨g3, 0, none⟩)))]) (is := [0, 3]) (R' := [.cells q0 90 [.val (.map (some q1)), .val (.map (some q2)), .val (.map (some q3)), .val (.map (some q4))], .map q1 (encM bs eB b0), .map q2 (encM bs eB b1), .map q3 (encM bs eB b2), .map q4 (encM bs (eI .i64) b3), .cells g3 47 (lf_T_Expr b4)]) (js := [1, 1, 1, 1, 1, 0]) rfl rfl ?_
        exact G.finE fun hb a w hA => by subst hb; exact ⟨_, rfl, hA⟩
      ·refine G.norm (L' := [(0, .val (.pointer (some ⟨q0, 0, none⟩))), (3, .val (.pointer (some ⟨g3, 0, none⟩)))]) (is := [0, 3]) (R' := [.cells g3 47 (lf_T_Expr b4), .cells q0 90 [.val (.map (some q1)), .val (.map (some q2)), .val (.map (some q3)), .val (.map (some q4))], .map q1 (encM bs eB b0), .map q2 (encM bs eB b1), .map q3 (encM bs eB b2), .map q4 (encM bs (eI .i64) b3)]) (js := [0, 0, 0, 0, 0, 0]) rfl rfl ?_
       refine G.skip ?_
       refine G.norm (L' := [(0, .val (.pointer (some ⟨q0, 0, none⟩))), (3, .val (.pointer (some ⟨g3, 0, none⟩)))]) (is := [0, 3]) (R' := [.cells q0 90 [.val (.map (some q1)), .val (.map (some q2)), .val (.map (some q3)), .val (.map (some q4))], .map q1 (encM bs eB b0), .map q2 (encM bs eB b1), .map q3 (encM bs eB b2), .map q4 (encM bs (eI .i64) b3), .cells g3 47 (lf_T_Expr b4)]) (js := [1, 1, 1, 1, 1, 0]) rfl rfl ?_
       exact G.finE fun hb a w hA => by subst hb; exact ⟨_, rfl, hA⟩
 ·rintro _ hb a w ⟨b67, rfl, hA⟩ hF68
  refine G.use hF68 hA ?_
  refine G.inr ?_
  refine G.inB ?_
  refine G.next_ hK5 ?_
  refine G.seq fun K69 hK70 => ?_
  refine G.seq fun K71 hK72 => ?_
  refine G.region ?_
  refine G.p rfl (V.fieldAddr (o' := 6) rfl Try.runUnderlying47 rfl Try.sizeOf45 rfl) ?_
  refine G.q rfl (V.load_cell (i := 5) (ds := (lf_T_Expr b4)) (d := eL e_T_Arm 12 b4.fArms) rfl rfl Try.isAgg45 rfl rfl) ?_
  refine G.lenb (enc := e_T_Arm) (xs := b4.fArms) (sz := 12) (x := .tmp 55) (.of rfl) fun hN73 => ?_
  refine G.p rfl (V.len_sl (enc := e_T_Arm) (xs := b4.fArms) (sz := 12) (.of rfl) Try.runUnderlying45) ?_
  refine G.p rfl (V.move rfl) ?_
  refine G.nil ?_
  refine G.norm (L' := [(0, .val (.pointer (some ⟨q0, 0, none⟩))), (55, eL e_T_Arm 12 b4.fArms), (56, .val (.int .i64 (b4.fArms.length : Int))), (57, .val (.int .i64 0))]) (is := [0, 55, 56, 57]) (R' := [.cells q0 90 [.val (.map (some q1)), .val (.map (some q2)), .val (.map (some q3)), .val (.map (some q4))], .map q1 (encM bs eB b0), .map q2 (encM bs eB b1), .map q3 (encM bs eB b2), .map q4 (encM bs (eI .i64) b3)]) (js := [0, 0, 0, 0, 0]) rfl rfl ?_
  refine G.next_ hK72 ?_
  refine G.join (E := fun o a w => ∃ b, o = .inr b ∧ Ass Gl B 72 [] [.cells q0 90 [.val (.map (some q1)), .val (.map (some q2)), .val (.map (some q3)), .val (.map (some q4))], .map q1 (encM bs eB b0), .map q2 (encM bs eB b1), .map q3 (encM bs eB b2), .map q4 (encM bs (eI .i64) b3)] a w) ?_ ?_
  ·intro b hF79
   refine G.block ?_
   refine G.norm (L' := [(0, .val (.pointer (some ⟨q0, 0, none⟩))), (55, eL e_T_Arm 12 b4.fArms), (56, .val (.int .i64 (b4.fArms.length : Int))), (57, .val (.int .i64 ((0 : Nat) : Int)))]) (is := [0, 55, 56, 57]) (R' := [.cells q0 90 [.val (.map (some q1)), .val (.map (some q2)), .val (.map (some q3)), .val (.map (some q4))], .map q1 (encM bs eB b0), .map q2 (encM bs eB b1), .map q3 (encM bs eB b2), .map q4 (encM bs (eI .i64) b3)]) (js := [0, 0, 0, 0, 0]) rfl rfl ?_
   refine G.loop (fun kq a w => ∃ (rest76 : List (T_Arm)) (i74 : Nat), kq = rest76.length ∧ scope_resolver_wrong.l1 b0 b1 b2 b3 k rest76 = some b ∧ b4.fArms.drop i74 = rest76 ∧ Ass Gl B 72 [(0, .val (.pointer (some ⟨q0, 0, none⟩))), (55, eL e_T_Arm 12 b4.fArms), (56, .val (.int .i64 (b4.fArms.length : Int))), (57, .val (.int .i64 (i74 : Int)))] [.cells q0 90 [.val (.map (some q1)), .val (.map (some q2)), .val (.map (some q3)), .val (.map (some q4))], .map q1 (encM bs eB b0), .map q2 (encM bs eB b1), .map q3 (encM bs eB b2), .map q4 (encM bs (eI .i64) b3)] a w) (b4.fArms.length) ?_ ?_
   ·intro hl115 a w hA
    exact ⟨b4.fArms, 0, rfl, hl115, rfl, hA⟩
   ·rintro _ a w ⟨rest76, i74, rfl, hl80, hd77, hA⟩
    rcases rest76 with _ | ⟨y75, rest76⟩
    ·rw [scope_resolver_wrong.l1_nil] at hl80
     refine G.use hl80 hA ?_
     refine G.seq fun K81 hK82 => ?_
     refine G.region ?_
     refine G.p rfl (V.bin (u := .int .i64 (i74 : Int)) (v := .int .i64 (b4.fArms.length : Int)) (r := .bool (decide ((i74 : Int) < (b4.fArms.length : Int)))) rfl rfl b_lss) ?_
     refine G.nil ?_
     refine G.norm (L' := [(0, .val (.pointer (some ⟨q0, 0, none⟩))), (55, eL e_T_Arm 12 b4.fArms), (56, .val (.int .i64 (b4.fArms.length : Int))), (57, .val (.int .i64 (i74 : Int))), (58, .val (.bool (decide ((i74 : Int) < (b4.fArms.length : Int)))))]) (is := [0, 55, 56, 57, 58]) (R' := [.cells q0 90 [.val (.map (some q1)), .val (.map (some q2)), .val (.map (some q3)), .val (.map (some q4))], .map q1 (encM bs eB b0), .map q2 (encM bs eB b1), .map q3 (encM bs eB b2), .map q4 (encM bs (eI .i64) b3)]) (js := [0, 0, 0, 0, 0]) rfl rfl ?_
     refine G.next_ hK82 ?_
     refine G.seq fun K83 hK84 => ?_
     refine G.no rfl (rng_end hd77) ?_
     refine G.exit ?_
     refine G.thn_exit ?_
     refine G.thn_exit ?_
     refine G.inB_eq ?_
     refine G.norm (L' := []) (is := []) (R' := [.cells q0 90 [.val (.map (some q1)), .val (.map (some q2)), .val (.map (some q3)), .val (.map (some q4))], .map q1 (encM bs eB b0), .map q2 (encM bs eB b1), .map q3 (encM bs eB b2), .map q4 (encM bs (eI .i64) b3)]) (js := [0, 0, 0, 0, 0]) rfl rfl ?_
     exact G.finE fun hb a w hA => by subst hb; exact ⟨_, rfl, hA⟩
    ·rw [scope_resolver_wrong.l1_cons] at hl80
     refine G.use hl80 hA ?_
     refine G.seq fun K85 hK86 => ?_
     refine G.region ?_
     refine G.p rfl (V.bin (u := .int .i64 (i74 : Int)) (v := .int .i64 (b4.fArms.length : Int)) (r := .bool (decide ((i74 : Int) < (b4.fArms.length : Int)))) rfl rfl b_lss) ?_
     refine G.nil ?_
     refine G.norm (L' := [(0, .val (.pointer (some ⟨q0, 0, none⟩))), (55, eL e_T_Arm 12 b4.fArms), (56, .val (.int .i64 (b4.fArms.length : Int))), (57, .val (.int .i64 (i74 : Int))), (58, .val (.bool (decide ((i74 : Int) < (b4.fArms.length : Int)))))]) (is := [0, 55, 56, 57, 58]) (R' := [.cells q0 90 [.val (.map (some q1)), .val (.map (some q2)), .val (.map (some q3)), .val (.map (some q4))], .map q1 (encM bs eB b0), .map q2 (encM bs eB b1), .map q3 (encM bs eB b2), .map q4 (encM bs (eI .i64) b3)]) (js := [0, 0, 0, 0, 0]) rfl rfl ?_
     refine G.next_ hK86 ?_
     refine G.seq fun K87 hK88 => ?_
     refine G.yes rfl (rng_more hd77) ?_
     refine G.skip ?_
     refine G.next_ hK88 ?_
     refine G.seq fun K89 hK90 => ?_
     refine G.block ?_
     refine G.seq fun K91 hK92 => ?_
     refine G.region ?_
     refine G.p rfl (V.at_sl (k := i74) rfl rfl Try.runUnderlying45 Try.sizeOf85 (map_at (rng_at hd77))) ?_
     refine G.q rfl (V.load_ptrN (ds := (lf_T_Arm y75)) rfl (e_T_Arm_eq y75) Try.isAgg85 Try.sizeOf85 rfl) ?_
     refine G.op rfl (O.alloc (ds := [.val (.int .i64 0), .val (.int .i64 0), .val (bs ([] : Str)), .val (.slice none 0 0), .val (.int .i64 0), .val (.int .i64 0), .val (bs ([] : Str)), .val (.slice none 0 0), .val (.slice none 0 0), .val (.slice none 0 0), .val (.slice none 0 0), .val (.int .i64 0)]) Try.zeroValue85 rfl) fun g93 => ?_
     refine G.opn (O.store (i := 0) (o := 0) (ds := [.val (.int .i64 0), .val (.int .i64 0), .val (bs ([] : Str)), .val (.slice none 0 0), .val (.int .i64 0), .val (.int .i64 0), .val (bs ([] : Str)), .val (.slice none 0 0), .val (.slice none 0 0), .val (.slice none 0 0), .val (.slice none 0 0), .val (.int .i64 0)]) rfl (.of rfl) rfl (OneC.agg (List.forall_mem_cons.2 ⟨(.val rfl), (List.forall_mem_cons.2 ⟨(.val rfl), (List.forall_mem_cons.2 ⟨(.val rfl), (List.forall_mem_cons.2 ⟨.sl, (List.forall_mem_cons.2 ⟨(.val rfl), (List.forall_mem_cons.2 ⟨(.val rfl), (List.forall_mem_cons.2 ⟨(.val rfl), (List.forall_mem_cons.2 ⟨.sl, (List.forall_mem_cons.2 ⟨.sl, (List.forall_mem_cons.2 ⟨.sl, (List.forall_mem_cons.2 ⟨.sl, (List.forall_mem_cons.2 ⟨(.val rfl), (List.forall_mem_nil _)⟩)⟩)⟩)⟩)⟩)⟩)⟩)⟩)⟩)⟩)⟩)⟩)) Try.sizeOf85 rfl rfl) fun _ => ?_
     refine G.nil ?_
     refine G.norm (L' := [(0, .val (.pointer (some ⟨q0, 0, none⟩))), (6, .val (.pointer (some ⟨g93, 0, none⟩))), (55, eL e_T_Arm 12 b4.fArms), (56, .val (.int .i64 (b4.fArms.length : Int))), (57, .val (.int .i64 (i74 : Int)))]) (is := [0, 6, 55, 56, 57]) (R' := [.cells g93 85 (lf_T_Arm y75), .cells q0 90 [.val (.map (some q1)), .val (.map (some q2)), .val (.map (some q3)), .val (.map (some q4))], .map q1 (encM bs eB b0), .map q2 (encM bs eB b1), .map q3 (encM bs eB b2), .map q4 (encM bs (eI .i64) b3)]) (js := [0, 0, 0, 0, 0, 0]) rfl rfl ?_
     refine G.next_ hK92 ?_
     refine G.seq fun K94 hK95 => ?_
     refine G.region ?_
     refine G.p rfl (V.fieldAddr (o' := 0) rfl Try.runUnderlying85 rfl Try.sizeOf83 rfl) ?_
     refine G.q rfl (V.load_cellN (i := 0) (ds := (lf_T_Arm y75)) (c1 := (lf_T_Pat y75.fPat)) rfl rfl Try.isAgg83 Try.sizeOf83 rfl rfl rfl) ?_
     refine G.bind fun r96 hr97 => ?_
     refine G.op rfl (O.call (xs := [.tmp 62]) (is := []) (Rp := []) (Rr := [.cells g93 85 (lf_T_Arm y75), .cells q0 90 [.val (.map (some q1)), .val (.map (some q2)), .val (.map (some q3)), .val (.map (some q4))], .map q1 (encM bs eB b0), .map q2 (encM bs eB b1), .map q3 (encM bs eB b2), .map q4 (encM bs (eI .i64) b3)]) (tree_Bound_ok k hr97) (.cons (.of rfl) .nil) Try.call40 rfl) fun x98 => ?_
     refine G.norm (L' := [(0, .val (.pointer (some ⟨q0, 0, none⟩))), (6, .val (.pointer (some ⟨g93, 0, none⟩))), (55, eL e_T_Arm 12 b4.fArms), (56, .val (.int .i64 (b4.fArms.length : Int))), (57, .val (.int .i64 (i74 : Int))), (61, .val (.pointer (some ⟨g93, 0, none⟩))), (62, .agg (lf_T_Pat y75.fPat)), (63, .val x98)]) (is := [0, 6, 55, 56, 57, 61, 62, 63]) (R' := [.row x98 9 1 (r96.map eS), .cells g93 85 (lf_T_Arm y75), .cells q0 90 [.val (.map (some q1)), .val (.map (some q2)), .val (.map (some q3)), .val (.map (some q4))], .map q1 (encM bs eB b0), .map q2 (encM bs eB b1), .map q3 (encM bs eB b2), .map q4 (encM bs (eI .i64) b3)]) (js := [0, 0, 0, 0, 0, 0, 0]) rfl rfl ?_
     refine G.freeze 0 (L' := [(0, .val (.pointer (some ⟨q0, 0, none⟩))), (6, .val (.pointer (some ⟨g93, 0, none⟩))), (55, eL e_T_Arm 12 b4.fArms), (56, .val (.int .i64 (b4.fArms.length : Int))), (57, .val (.int .i64 (i74 : Int))), (61, .val (.pointer (some ⟨g93, 0, none⟩))), (62, .agg (lf_T_Pat y75.fPat)), (63, eL eS 1 r96)]) (R' := [.cells g93 85 (lf_T_Arm y75), .cells q0 90 [.val (.map (some q1)), .val (.map (some q2)), .val (.map (some q3)), .val (.map (some q4))], .map q1 (encM bs eB b0), .map q2 (encM bs eB b1), .map q3 (encM bs eB b2), .map q4 (encM bs (eI .i64) b3)]) rfl (fun S w h => .cons .refl (.cons .refl (.cons .refl (.cons .refl (.cons .refl (.cons .refl (.cons .refl (.cons (.fz h) .nil)))))))) (fun S w h => .same (.same (.same (.same (.same (.same .nil)))))) ?_
     refine G.bind fun r99 hr100 => ?_
     refine G.op rfl (O.call (xs := [.tmp 63]) (is := []) (Rp := []) (Rr := [.cells g93 85 (lf_T_Arm y75), .cells q0 90 [.val (.map (some q1)), .val (.map (some q2)), .val (.map (some q3)), .val (.map (some q4))], .map q1 (encM bs eB b0), .map q2 (encM bs eB b1), .map q3 (encM bs eB b2), .map q4 (encM bs (eI .i64) b3)]) (scope_Twice_ok hr100) (.cons (.of rfl) .nil) Try.call16 rfl) fun x101 => ?_
     refine G.p rfl (V.move rfl) ?_
     refine G.part 5 (fun b a w => Ass Gl B 72 [(0, .val (.pointer (some ⟨q0, 0, none⟩))), (6, .val (.pointer (some ⟨g93, 0, none⟩))), (55, eL e_T_Arm 12 b4.fArms), (56, .val (.int .i64 (b4.fArms.length : Int))), (57, .val (.int .i64 (i74 : Int))), (61, .val (.pointer (some ⟨g93, 0, none⟩))), (62, .agg (lf_T_Pat y75.fPat)), (63, eL eS 1 r96), (64, .val (.bool r99)), (65, .val (.bool r99)), (70, .val (.bool b))] [.cells q0 90 [.val (.map (some q1)), .val (.map (some q2)), .val (.map (some q3)), .val (.map (some q4))], .map q1 (encM bs eB b0), .map q2 (encM bs eB b1), .map q3 (encM bs eB b2), .map q4 (encM bs (eI .i64) b3), .cells g93 85 (lf_T_Arm y75)] a w) ?_ ?_
     ·intro b
      refine G.ifb (fun hc102 => ?_) (fun hc102 => ?_)
      ·refine G.skip_s rfl rfl hc102 rfl ?_
       refine G.skip_s rfl rfl hc102 rfl ?_
       refine G.skip_s rfl rfl hc102 rfl ?_
       refine G.skip_s rfl rfl hc102 rfl ?_
       refine G.p rfl (V.pick_yes (dv := .val (.bool true)) rfl hc102 rfl) ?_
       refine G.nil ?_
       refine G.norm (L' := [(0, .val (.pointer (some ⟨q0, 0, none⟩))), (6, .val (.pointer (some ⟨g93, 0, none⟩))), (55, eL e_T_Arm 12 b4.fArms), (56, .val (.int .i64 (b4.fArms.length : Int))), (57, .val (.int .i64 (i74 : Int))), (61, .val (.pointer (some ⟨g93, 0, none⟩))), (62, .agg (lf_T_Pat y75.fPat)), (63, eL eS 1 r96), (64, .val (.bool r99)), (65, .val (.bool r99)), (70, .val (.bool true))]) (is := [0, 6, 55, 56, 57, 61, 62, 63, 64, 65, 70]) (R' := [.cells q0 90 [.val (.map (some q1)), .val (.map (some q2)), .val (.map (some q3)), .val (.map (some q4))], .map q1 (encM bs eB b0), .map q2 (encM bs eB b1), .map q3 (encM bs eB b2), .map q4 (encM bs (eI .i64) b3), .cells g93 85 (lf_T_Arm y75)]) (js := [1, 1, 1, 1, 1, 0]) rfl rfl ?_
       exact G.finE fun hb a w hA => by subst hb; exact hA
      ·refine G.guard_yes rfl rfl hc102 ?_
       refine G.p rfl (V.move rfl) ?_
       refine G.guard_yes rfl rfl hc102 ?_
       refine G.p rfl (V.fieldAddr (o' := 0) rfl Try.runUnderlying85 rfl Try.sizeOf83 rfl) ?_
       refine G.guard_yes rfl rfl hc102 ?_
       refine G.q rfl (V.load_cellN (i := 0) (ds := (lf_T_Arm y75)) (c1 := (lf_T_Pat y75.fPat)) rfl rfl Try.isAgg83 Try.sizeOf83 rfl rfl rfl) ?_
       refine G.guard_yes rfl rfl hc102 ?_
       refine G.bind fun r105 hr106 => ?_
       refine G.op rfl (O.call (xs := [.tmp 66, .tmp 68]) (is := [1, 1, 1, 1, 1]) (Rp := [.cells q0 90 [.val (.map (some q1)), .val (.map (some q2)), .val (.map (some q3)), .val (.map (some q4))], .map q1 (encM bs eB b0), .map q2 (encM bs eB b1), .map q3 (encM bs eB b2), .map q4 (encM bs (eI .i64) b3)]) (Rr := [.cells g93 85 (lf_T_Arm y75)]) (scope_resolver_foreign_ok k hr106) (.cons (.of rfl) (.cons (.of rfl) .nil)) Try.call44 rfl) fun x107 => ?_
       refine G.p rfl (V.pick_no (dv := .val (.bool r105)) rfl hc102 rfl) ?_
       refine G.nil ?_
       refine G.norm (L' := [(0, .val (.pointer (some ⟨q0, 0, none⟩))), (6, .val (.pointer (some ⟨g93, 0, none⟩))), (55, eL e_T_Arm 12 b4.fArms), (56, .val (.int .i64 (b4.fArms.length : Int))), (57, .val (.int .i64 (i74 : Int))), (61, .val (.pointer (some ⟨g93, 0, none⟩))), (62, .agg (lf_T_Pat y75.fPat)), (63, eL eS 1 r96), (64, .val (.bool r99)), (65, .val (.bool r99)), (70, .val (.bool r105))]) (is := [0, 6, 55, 56, 57, 61, 62, 63, 64, 65, 70]) (R' := [.cells q0 90 [.val (.map (some q1)), .val (.map (some q2)), .val (.map (some q3)), .val (.map (some q4))], .map q1 (encM bs eB b0), .map q2 (encM bs eB b1), .map q3 (encM bs eB b2), .map q4 (encM bs (eI .i64) b3), .cells g93 85 (lf_T_Arm y75)]) (js := [0, 0, 0, 0, 0, 0]) rfl rfl ?_
       exact G.finE fun hb a w hA => by subst hb; exact hA
     ·rintro t103 hb a w hA hF
      refine G.use hF hA ?_
      refine G.nil ?_
      refine G.norm (L' := [(0, .val (.pointer (some ⟨q0, 0, none⟩))), (55, eL e_T_Arm 12 b4.fArms), (56, .val (.int .i64 (b4.fArms.length : Int))), (57, .val (.int .i64 (i74 : Int))), (70, .val (.bool t103))]) (is := [0, 55, 56, 57, 70]) (R' := [.cells q0 90 [.val (.map (some q1)), .val (.map (some q2)), .val (.map (some q3)), .val (.map (some q4))], .map q1 (encM bs eB b0), .map q2 (encM bs eB b1), .map q3 (encM bs eB b2), .map q4 (encM bs (eI .i64) b3)]) (js := [0, 0, 0, 0, 0]) rfl rfl ?_
      refine G.next_ hK95 ?_
      refine G.cond (b := t103) rfl (fun hc108 => ?_) (fun hc108 => ?_)
      ·refine G.norm (L' := []) (is := []) (R' := [.cells q0 90 [.val (.map (some q1)), .val (.map (some q2)), .val (.map (some q3)), .val (.map (some q4))], .map q1 (encM bs eB b0), .map q2 (encM bs eB b1), .map q3 (encM bs eB b2), .map q4 (encM bs (eI .i64) b3)]) (js := [0, 0, 0, 0, 0]) rfl rfl ?_
       refine G.seq fun K109 hK110 => ?_
       refine G.region ?_
       refine G.p rfl (V.assign rfl) ?_
       refine G.nil ?_
       refine G.norm (L' := [(4, .val (.bool true))]) (is := [4]) (R' := [.cells q0 90 [.val (.map (some q1)), .val (.map (some q2)), .val (.map (some q3)), .val (.map (some q4))], .map q1 (encM bs eB b0), .map q2 (encM bs eB b1), .map q3 (encM bs eB b2), .map q4 (encM bs (eI .i64) b3)]) (js := [0, 0, 0, 0, 0]) rfl rfl ?_
       refine G.next_ hK110 ?_
       refine G.ret ?_
       refine G.inB_ret ?_
       refine G.thn_ret ?_
       refine G.thn_ret ?_
       refine G.inB_ret ?_
       refine G.thn_ret ?_
       refine G.thn_ret ?_
       refine G.fin_ fun hF111 => ?_
       have hb112 := Option.some.inj hF111
       subst hb112
       have hF113 : (some true : Option (Bool)) = some _ := hF79
       obtain rfl := Option.some.inj hF113
       exact G.ret1 Try.results38 () (is := [0, 0, 0, 0, 0]) (.of rfl) rfl
      ·refine G.norm (L' := [(0, .val (.pointer (some ⟨q0, 0, none⟩))), (55, eL e_T_Arm 12 b4.fArms), (56, .val (.int .i64 (b4.fArms.length : Int))), (57, .val (.int .i64 (i74 : Int)))]) (is := [0, 55, 56, 57]) (R' := [.cells q0 90 [.val (.map (some q1)), .val (.map (some q2)), .val (.map (some q3)), .val (.map (some q4))], .map q1 (encM bs eB b0), .map q2 (encM bs eB b1), .map q3 (encM bs eB b2), .map q4 (encM bs (eI .i64) b3)]) (js := [0, 0, 0, 0, 0]) rfl rfl ?_
       refine G.skip ?_
       refine G.inB ?_
       refine G.next_ hK90 ?_
       refine G.region ?_
       refine G.p rfl (V.incr (i := i74) (N := b4.fArms.length) rfl rfl (rng_lt hd77) (hN73)) ?_
       refine G.p rfl (V.move rfl) ?_
       refine G.nil ?_
       refine G.norm (L' := [(0, .val (.pointer (some ⟨q0, 0, none⟩))), (55, eL e_T_Arm 12 b4.fArms), (56, .val (.int .i64 (b4.fArms.length : Int))), (57, .val (.int .i64 ((i74 + 1 : Nat) : Int)))]) (is := [0, 55, 56, 57]) (R' := [.cells q0 90 [.val (.map (some q1)), .val (.map (some q2)), .val (.map (some q3)), .val (.map (some q4))], .map q1 (encM bs eB b0), .map q2 (encM bs eB b1), .map q3 (encM bs eB b2), .map q4 (encM bs (eI .i64) b3)]) (js := [0, 0, 0, 0, 0]) rfl rfl ?_
       refine G.again ?_
       intro hl114 a w hA
       exact ⟨_, Nat.lt_succ_self _, rest76, i74 + 1, rfl, hl114, rng_next hd77, hA⟩
  ·rintro _ hb a w ⟨b116, rfl, hA⟩ hF117
   refine G.use hF117 hA ?_
   refine G.inr ?_
   refine G.next_ hK70 ?_
   refine G.seq fun K118 hK119 => ?_
   refine G.region ?_
   refine G.p rfl (V.assign rfl) ?_
   refine G.nil ?_
   refine G.norm (L' := [(4, .val (.bool false))]) (is := [4]) (R' := [.cells q0 90 [.val (.map (some q1)), .val (.map (some q2)), .val (.map (some q3)), .val (.map (some q4))], .map q1 (encM bs eB b0), .map q2 (encM bs eB b1), .map q3 (encM bs eB b2), .map q4 (encM bs (eI .i64) b3)]) (js := [0, 0, 0, 0, 0]) rfl rfl ?_
   refine G.next_ hK119 ?_
   refine G.ret ?_
   refine G.fin_ fun hF120 => ?_
   obtain rfl := Option.some.inj hF120
   exact G.ret1 Try.results38 () (is := [0, 0, 0, 0, 0]) (.of rfl) rfl
/-! (*roadstead/scope.resolver).visit -/
def scope_resolver_visit.l1 (b0 : List (Str × Bool)) (b1 : List (Str × Bool)) (b2 : List (Str × Bool)) (b4 : T_Expr) (rec_scope_resolver_under : (List (Str × Bool)) → (List (Str × Bool)) → (List (Str × Bool)) → (List (Str × Int)) → (List Str) → T_Expr → Option (Int × Bool × (List (Str × Int)))) : List (T_Expr) → Nat → (List (Str × Int)) → Option ((Int × Bool × (List (Str × Int))) ⊕ (List (Str × Int)))
  | [], i21, x20 => some (.inr x20)
  | y22 :: rest23, i21, x20 => ((if ((b4.fKind == 6) && ((i21 : Int) == 1)) = true then some ([b4.fText] : List Str) else (if (b4.fKind == 10) = true then some b4.fNames else some ([] : List Str)))).bind fun b54 => (rec_scope_resolver_under b0 b1 b2 x20 b54 y22).bind fun r58 => (if r58.2.1 = true then some (.inl (r58.1, true, r58.2.2)) else scope_resolver_visit.l1 b0 b1 b2 b4 rec_scope_resolver_under rest23 (i21 + 1) r58.2.2)

theorem scope_resolver_visit.l1_nil (b0 : List (Str × Bool)) (b1 : List (Str × Bool)) (b2 : List (Str × Bool)) (b4 : T_Expr) (rec_scope_resolver_under : (List (Str × Bool)) → (List (Str × Bool)) → (List (Str × Bool)) → (List (Str × Int)) → (List Str) → T_Expr → Option (Int × Bool × (List (Str × Int)))) {i21 : Nat} {x20 : List (Str × Int)} : scope_resolver_visit.l1 b0 b1 b2 b4 rec_scope_resolver_under [] i21 x20 = some (.inr x20) := rfl
theorem scope_resolver_visit.l1_cons (b0 : List (Str × Bool)) (b1 : List (Str × Bool)) (b2 : List (Str × Bool)) (b4 : T_Expr) (rec_scope_resolver_under : (List (Str × Bool)) → (List (Str × Bool)) → (List (Str × Bool)) → (List (Str × Int)) → (List Str) → T_Expr → Option (Int × Bool × (List (Str × Int)))) {y22 : T_Expr} {rest23 : List (T_Expr)} {i21 : Nat} {x20 : List (Str × Int)} : scope_resolver_visit.l1 b0 b1 b2 b4 rec_scope_resolver_under (y22 :: rest23) i21 x20 = ((if ((b4.fKind == 6) && ((i21 : Int) == 1)) = true then some ([b4.fText] : List Str) else (if (b4.fKind == 10) = true then some b4.fNames else some ([] : List Str)))).bind fun b54 => (rec_scope_resolver_under b0 b1 b2 x20 b54 y22).bind fun r58 => (if r58.2.1 = true then some (.inl (r58.1, true, r58.2.2)) else scope_resolver_visit.l1 b0 b1 b2 b4 rec_scope_resolver_under rest23 (i21 + 1) r58.2.2) := rfl
def scope_resolver_visit.l2 (b0 : List (Str × Bool)) (b1 : List (Str × Bool)) (b2 : List (Str × Bool)) (k : Nat) (rec_scope_resolver_under : (List (Str × Bool)) → (List (Str × Bool)) → (List (Str × Bool)) → (List (Str × Int)) → (List Str) → T_Expr → Option (Int × Bool × (List (Str × Int)))) : List (T_Arm) → (List (Str × Int)) → Option ((Int × Bool × (List (Str × Int))) ⊕ (List (Str × Int)))
  | [], x78 => some (.inr x78)
  | y80 :: rest81, x78 => (tree_Bound k y80.fPat).bind fun r101 => (rec_scope_resolver_under b0 b1 b2 x78 r101 y80.fBody).bind fun r104 => (if r104.2.1 = true then some (.inl (r104.1, true, r104.2.2)) else scope_resolver_visit.l2 b0 b1 b2 k rec_scope_resolver_under rest81 r104.2.2)

theorem scope_resolver_visit.l2_nil (b0 : List (Str × Bool)) (b1 : List (Str × Bool)) (b2 : List (Str × Bool)) (k : Nat) (rec_scope_resolver_under : (List (Str × Bool)) → (List (Str × Bool)) → (List (Str × Bool)) → (List (Str × Int)) → (List Str) → T_Expr → Option (Int × Bool × (List (Str × Int)))) {x78 : List (Str × Int)} : scope_resolver_visit.l2 b0 b1 b2 k rec_scope_resolver_under [] x78 = some (.inr x78) := rfl
theorem scope_resolver_visit.l2_cons (b0 : List (Str × Bool)) (b1 : List (Str × Bool)) (b2 : List (Str × Bool)) (k : Nat) (rec_scope_resolver_under : (List (Str × Bool)) → (List (Str × Bool)) → (List (Str × Bool)) → (List (Str × Int)) → (List Str) → T_Expr → Option (Int × Bool × (List (Str × Int)))) {y80 : T_Arm} {rest81 : List (T_Arm)} {x78 : List (Str × Int)} : scope_resolver_visit.l2 b0 b1 b2 k rec_scope_resolver_under (y80 :: rest81) x78 = (tree_Bound k y80.fPat).bind fun r101 => (rec_scope_resolver_under b0 b1 b2 x78 r101 y80.fBody).bind fun r104 => (if r104.2.1 = true then some (.inl (r104.1, true, r104.2.2)) else scope_resolver_visit.l2 b0 b1 b2 k rec_scope_resolver_under rest81 r104.2.2) := rfl
def scope_resolver_visit.Spec (F : (List (Str × Bool)) → (List (Str × Bool)) → (List (Str × Bool)) → (List (Str × Int)) → T_Expr → Option (Int × Bool × (List (Str × Int)))) : Prop := ∀ {b0 : List (Str × Bool)} {b1 : List (Str × Bool)} {b2 : List (Str × Bool)} {b3 : List (Str × Int)} {b4 : T_Expr} {q0 : Nat} {q1 : Nat} {q2 : Nat} {q3 : Nat} {q4 : Nat} {out : Int × Bool × (List (Str × Int))}, F b0 b1 b2 b3 b4 = some out → Ct Gl Try.prog 32 [.val (.pointer (some ⟨q0, 0, none⟩)), .agg (lf_T_Expr b4)] [.cells q0 90 [.val (.map (some q1)), .val (.map (some q2)), .val (.map (some q3)), .val (.map (some q4))], .map q1 (encM bs eB b0), .map q2 (encM bs eB b1), .map q3 (encM bs eB b2), .map q4 (encM bs (eI .i64) b3)] (fun x : Unit => .tup [.val (.int .i64 out.1), .val (.bool out.2.1)]) (fun x : Unit => [.cells q0 90 [.val (.map (some q1)), .val (.map (some q2)), .val (.map (some q3)), .val (.map (some q4))], .map q1 (encM bs eB b0), .map q2 (encM bs eB b1), .map q3 (encM bs eB b2), .map q4 (encM bs (eI .i64) out.2.2)])
def scope_resolver_visit.body (rec_scope_resolver_visit : (List (Str × Bool)) → (List (Str × Bool)) → (List (Str × Bool)) → (List (Str × Int)) → T_Expr → Option (Int × Bool × (List (Str × Int)))) (rec_scope_resolver_under : (List (Str × Bool)) → (List (Str × Bool)) → (List (Str × Bool)) → (List (Str × Int)) → (List Str) → T_Expr → Option (Int × Bool × (List (Str × Int)))) (k : Nat) (b0 : List (Str × Bool)) (b1 : List (Str × Bool)) (b2 : List (Str × Bool)) (b3 : List (Str × Int)) (b4 : T_Expr) : Option (Int × Bool × (List (Str × Int))) := (scope_resolver_wrong k b0 b1 b2 b3 b4).bind fun r8 => (if r8 = true then some (b4.fAt, true, b3) else (scope_resolver_visit.l1 b0 b1 b2 b4 rec_scope_resolver_under b4.fArgs 0 b3).bind (retOr fun b71 => (scope_resolver_visit.l2 b0 b1 b2 k rec_scope_resolver_under b4.fArms b71).bind (retOr fun b125 => some (0, false, b125))))
/-! (*roadstead/scope.resolver).under -/
def scope_resolver_under.l1  : List (Str) → (List (Str × Int)) → Option (List (Str × Int))
  | [], x9 => some x9
  | y11 :: rest12, x9 => scope_resolver_under.l1 rest12 (mput x9 y11 (addI ((mget x9 y11).getD (0 : Int)) 1))

theorem scope_resolver_under.l1_nil  {x9 : List (Str × Int)} : scope_resolver_under.l1  [] x9 = some x9 := rfl
theorem scope_resolver_under.l1_cons  {y11 : Str} {rest12 : List (Str)} {x9 : List (Str × Int)} : scope_resolver_under.l1  (y11 :: rest12) x9 = scope_resolver_under.l1 rest12 (mput x9 y11 (addI ((mget x9 y11).getD (0 : Int)) 1)) := rfl
def scope_resolver_under.l2  : List (Str) → (List (Str × Int)) → Option (List (Str × Int))
  | [], x43 => some x43
  | y45 :: rest46, x43 => scope_resolver_under.l2 rest46 (mput x43 y45 (subI ((mget x43 y45).getD (0 : Int)) 1))

theorem scope_resolver_under.l2_nil  {x43 : List (Str × Int)} : scope_resolver_under.l2  [] x43 = some x43 := rfl
theorem scope_resolver_under.l2_cons  {y45 : Str} {rest46 : List (Str)} {x43 : List (Str × Int)} : scope_resolver_under.l2  (y45 :: rest46) x43 = scope_resolver_under.l2 rest46 (mput x43 y45 (subI ((mget x43 y45).getD (0 : Int)) 1)) := rfl
def scope_resolver_under.Spec (F : (List (Str × Bool)) → (List (Str × Bool)) → (List (Str × Bool)) → (List (Str × Int)) → (List Str) → T_Expr → Option (Int × Bool × (List (Str × Int)))) : Prop := ∀ {b0 : List (Str × Bool)} {b1 : List (Str × Bool)} {b2 : List (Str × Bool)} {b3 : List (Str × Int)} {b4 : List Str} {b5 : T_Expr} {q0 : Nat} {q1 : Nat} {q2 : Nat} {q3 : Nat} {q4 : Nat} {out : Int × Bool × (List (Str × Int))}, F b0 b1 b2 b3 b4 b5 = some out → Ct Gl Try.prog 39 [.val (.pointer (some ⟨q0, 0, none⟩)), eL eS 1 b4, .agg (lf_T_Expr b5)] [.cells q0 90 [.val (.map (some q1)), .val (.map (some q2)), .val (.map (some q3)), .val (.map (some q4))], .map q1 (encM bs eB b0), .map q2 (encM bs eB b1), .map q3 (encM bs eB b2), .map q4 (encM bs (eI .i64) b3)] (fun x : Unit => .tup [.val (.int .i64 out.1), .val (.bool out.2.1)]) (fun x : Unit => [.cells q0 90 [.val (.map (some q1)), .val (.map (some q2)), .val (.map (some q3)), .val (.map (some q4))], .map q1 (encM bs eB b0), .map q2 (encM bs eB b1), .map q3 (encM bs eB b2), .map q4 (encM bs (eI .i64) out.2.2)])
def scope_resolver_under.body (rec_scope_resolver_visit : (List (Str × Bool)) → (List (Str × Bool)) → (List (Str × Bool)) → (List (Str × Int)) → T_Expr → Option (Int × Bool × (List (Str × Int)))) (rec_scope_resolver_under : (List (Str × Bool)) → (List (Str × Bool)) → (List (Str × Bool)) → (List (Str × Int)) → (List Str) → T_Expr → Option (Int × Bool × (List (Str × Int)))) (k : Nat) (b0 : List (Str × Bool)) (b1 : List (Str × Bool)) (b2 : List (Str × Bool)) (b3 : List (Str × Int)) (b4 : List Str) (b5 : T_Expr) : Option (Int × Bool × (List (Str × Int))) := (scope_resolver_under.l1 b4 b3).bind fun b31 => (rec_scope_resolver_visit b0 b1 b2 b31 b5).bind fun r35 => (scope_resolver_under.l2 b4 r35.2.2).bind fun b65 => some (r35.1, r35.2.1, b65)
def scope_resolver_visit.all : Nat → ((List (Str × Bool)) → (List (Str × Bool)) → (List (Str × Bool)) → (List (Str × Int)) → T_Expr → Option (Int × Bool × (List (Str × Int)))) × ((List (Str × Bool)) → (List (Str × Bool)) → (List (Str × Bool)) → (List (Str × Int)) → (List Str) → T_Expr → Option (Int × Bool × (List (Str × Int))))
  | 0 => (fun _ _ _ _ _ => none, fun _ _ _ _ _ _ => none)
  | k + 1 => (scope_resolver_visit.body ((scope_resolver_visit.all k).1) ((scope_resolver_visit.all k).2) k , scope_resolver_under.body ((scope_resolver_visit.all k).1) ((scope_resolver_visit.all k).2) k )
set_option maxRecDepth 100000 in
theorem scope_resolver_visit.body_ok {rec_scope_resolver_visit : (List (Str × Bool)) → (List (Str × Bool)) → (List (Str × Bool)) → (List (Str × Int)) → T_Expr → Option (Int × Bool × (List (Str × Int)))} {rec_scope_resolver_under : (List (Str × Bool)) → (List (Str × Bool)) → (List (Str × Bool)) → (List (Str × Int)) → (List Str) → T_Expr → Option (Int × Bool × (List (Str × Int)))} (hrec_scope_resolver_visit : scope_resolver_visit.Spec rec_scope_resolver_visit) (hrec_scope_resolver_under : scope_resolver_under.Spec rec_scope_resolver_under) (k : Nat) : scope_resolver_visit.Spec (scope_resolver_visit.body rec_scope_resolver_visit rec_scope_resolver_under k) := by
 intro b0 b1 b2 b3 b4 q0 q1 q2 q3 q4 out hp
 refine ct_of_G (nt := 75) Try.func32 rfl Try.ntmps32 rfl (fun B => ?_) hp
 unfold scope_resolver_visit.body
 refine G.seq fun K1 hK2 => ?_
 refine G.region ?_
 refine G.op rfl (O.box (.of rfl) (OneC.agg (List.forall_mem_cons.2 ⟨(.val rfl), (List.forall_mem_cons.2 ⟨(.val rfl), (List.forall_mem_cons.2 ⟨(.val rfl), (List.forall_mem_cons.2 ⟨.sl, (List.forall_mem_cons.2 ⟨.sl, (List.forall_mem_cons.2 ⟨.sl, (List.forall_mem_cons.2 ⟨.sl, (List.forall_mem_cons.2 ⟨(.val rfl), (List.forall_mem_nil _)⟩)⟩)⟩)⟩)⟩)⟩)⟩)⟩))) fun g3 => ?_
 refine G.p rfl (V.assign rfl) ?_
 refine G.p rfl (V.assign rfl) ?_
 refine G.nil ?_
 refine G.norm (L' := [(0, .val (.pointer (some ⟨q0, 0, none⟩))), (3, .val (.pointer (some ⟨g3, 0, none⟩)))]) (is := [0, 3]) (R' := [.cells g3 47 (lf_T_Expr b4), .cells q0 90 [.val (.map (some q1)), .val (.map (some q2)), .val (.map (some q3)), .val (.map (some q4))], .map q1 (encM bs eB b0), .map q2 (encM bs eB b1), .map q3 (encM bs eB b2), .map q4 (encM bs (eI .i64) b3)]) (js := [0, 0, 0, 0, 0, 0]) rfl rfl ?_
 refine G.next_ hK2 ?_
 refine G.seq fun K4 hK5 => ?_
 refine G.seq fun K6 hK7 => ?_
 refine G.region ?_
 refine G.p rfl (V.move rfl) ?_
 refine G.q rfl (V.load_cellN (i := 0) (ds := (lf_T_Expr b4)) (c1 := (lf_T_Expr b4)) rfl rfl Try.isAgg47 Try.sizeOf47 rfl rfl rfl) ?_
 refine G.bind fun r8 hr9 => ?_
 refine G.op rfl (O.call (xs := [.tmp 15, .tmp 16]) (is := [1, 1, 1, 1, 1]) (Rp := [.cells q0 90 [.val (.map (some q1)), .val (.map (some q2)), .val (.map (some q3)), .val (.map (some q4))], .map q1 (encM bs eB b0), .map q2 (encM bs eB b1), .map q3 (encM bs eB b2), .map q4 (encM bs (eI .i64) b3)]) (Rr := [.cells g3 47 (lf_T_Expr b4)]) (scope_resolver_wrong_ok k hr9) (.cons (.of rfl) (.cons (.of rfl) .nil)) Try.call38 rfl) fun x10 => ?_
 refine G.nil ?_
 refine G.norm (L' := [(0, .val (.pointer (some ⟨q0, 0, none⟩))), (3, .val (.pointer (some ⟨g3, 0, none⟩))), (17, .val (.bool r8))]) (is := [0, 3, 17]) (R' := [.cells q0 90 [.val (.map (some q1)), .val (.map (some q2)), .val (.map (some q3)), .val (.map (some q4))], .map q1 (encM bs eB b0), .map q2 (encM bs eB b1), .map q3 (encM bs eB b2), .map q4 (encM bs (eI .i64) b3), .cells g3 47 (lf_T_Expr b4)]) (js := [0, 0, 0, 0, 0, 0]) rfl rfl ?_
 refine G.next_ hK7 ?_
 refine G.cond (b := r8) rfl (fun hc11 => ?_) (fun hc11 => ?_)
 ·refine G.norm (L' := [(3, .val (.pointer (some ⟨g3, 0, none⟩)))]) (is := [3]) (R' := [.cells q0 90 [.val (.map (some q1)), .val (.map (some q2)), .val (.map (some q3)), .val (.map (some q4))], .map q1 (encM bs eB b0), .map q2 (encM bs eB b1), .map q3 (encM bs eB b2), .map q4 (encM bs (eI .i64) b3), .cells g3 47 (lf_T_Expr b4)]) (js := [0, 0, 0, 0, 0, 0]) rfl rfl ?_
  refine G.seq fun K12 hK13 => ?_
  refine G.region ?_
  refine G.p rfl (V.fieldAddr (o' := 7) rfl Try.runUnderlying47 rfl Try.sizeOf3 rfl) ?_
  refine G.q rfl (V.load_cell (i := 5) (ds := (lf_T_Expr b4)) (d := .val (.int .i64 b4.fAt)) rfl rfl Try.isAgg3 rfl rfl) ?_
  refine G.p rfl (V.assign rfl) ?_
  refine G.p rfl (V.assign rfl) ?_
  refine G.nil ?_
  refine G.norm (L' := [(4, .val (.int .i64 b4.fAt)), (5, .val (.bool true))]) (is := [4, 5]) (R' := [.cells q0 90 [.val (.map (some q1)), .val (.map (some q2)), .val (.map (some q3)), .val (.map (some q4))], .map q1 (encM bs eB b0), .map q2 (encM bs eB b1), .map q3 (encM bs eB b2), .map q4 (encM bs (eI .i64) b3)]) (js := [0, 0, 0, 0, 0]) rfl rfl ?_
  refine G.next_ hK13 ?_
  refine G.ret ?_
  refine G.thn_ret ?_
  refine G.fin_ fun hF14 => ?_
  obtain rfl := Option.some.inj hF14
  exact G.ret2 Try.results32 () (is := [0, 0, 0, 0, 0]) rfl (.of rfl) (.of rfl) rfl
 ·refine G.norm (L' := [(0, .val (.pointer (some ⟨q0, 0, none⟩))), (3, .val (.pointer (some ⟨g3, 0, none⟩)))]) (is := [0, 3]) (R' := [.cells q0 90 [.val (.map (some q1)), .val (.map (some q2)), .val (.map (some q3)), .val (.map (some q4))], .map q1 (encM bs eB b0), .map q2 (encM bs eB b1), .map q3 (encM bs eB b2), .map q4 (encM bs (eI .i64) b3), .cells g3 47 (lf_T_Expr b4)]) (js := [0, 0, 0, 0, 0, 0]) rfl rfl ?_
  refine G.skip ?_
  refine G.next_ hK5 ?_
  refine G.seq fun K15 hK16 => ?_
  refine G.seq fun K17 hK18 => ?_
  refine G.region ?_
  refine G.p rfl (V.fieldAddr (o' := 5) rfl Try.runUnderlying47 rfl Try.sizeOf42 rfl) ?_
  refine G.q rfl (V.load_cell (i := 5) (ds := (lf_T_Expr b4)) (d := eL e_T_Expr 8 b4.fArgs) rfl rfl Try.isAgg42 rfl rfl) ?_
  refine G.lenb (enc := e_T_Expr) (xs := b4.fArgs) (sz := 8) (x := .tmp 21) (.of rfl) fun hN19 => ?_
  refine G.p rfl (V.len_sl (enc := e_T_Expr) (xs := b4.fArgs) (sz := 8) (.of rfl) Try.runUnderlying42) ?_
  refine G.p rfl (V.move rfl) ?_
  refine G.nil ?_
  refine G.norm (L' := [(0, .val (.pointer (some ⟨q0, 0, none⟩))), (3, .val (.pointer (some ⟨g3, 0, none⟩))), (21, eL e_T_Expr 8 b4.fArgs), (22, .val (.int .i64 (b4.fArgs.length : Int))), (23, .val (.int .i64 0))]) (is := [0, 3, 21, 22, 23]) (R' := [.cells q0 90 [.val (.map (some q1)), .val (.map (some q2)), .val (.map (some q3)), .val (.map (some q4))], .map q1 (encM bs eB b0), .map q2 (encM bs eB b1), .map q3 (encM bs eB b2), .map q4 (encM bs (eI .i64) b3), .cells g3 47 (lf_T_Expr b4)]) (js := [0, 0, 0, 0, 0, 0]) rfl rfl ?_
  refine G.next_ hK18 ?_
  refine G.join (E := fun o a w => ∃ b, o = .inr b ∧ Ass Gl B 75 [(0, .val (.pointer (some ⟨q0, 0, none⟩))), (3, .val (.pointer (some ⟨g3, 0, none⟩)))] [.cells q0 90 [.val (.map (some q1)), .val (.map (some q2)), .val (.map (some q3)), .val (.map (some q4))], .map q1 (encM bs eB b0), .map q2 (encM bs eB b1), .map q3 (encM bs eB b2), .map q4 (encM bs (eI .i64) b), .cells g3 47 (lf_T_Expr b4)] a w) ?_ ?_
  ·intro b hF26
   refine G.block ?_
   refine G.norm (L' := [(0, .val (.pointer (some ⟨q0, 0, none⟩))), (3, .val (.pointer (some ⟨g3, 0, none⟩))), (21, eL e_T_Expr 8 b4.fArgs), (22, .val (.int .i64 (b4.fArgs.length : Int))), (23, .val (.int .i64 ((0 : Nat) : Int)))]) (is := [0, 3, 21, 22, 23]) (R' := [.cells q0 90 [.val (.map (some q1)), .val (.map (some q2)), .val (.map (some q3)), .val (.map (some q4))], .map q1 (encM bs eB b0), .map q2 (encM bs eB b1), .map q3 (encM bs eB b2), .map q4 (encM bs (eI .i64) b3), .cells g3 47 (lf_T_Expr b4)]) (js := [0, 0, 0, 0, 0, 0]) rfl rfl ?_
   refine G.loop (fun kq a w => ∃ (rest23 : List (T_Expr)) (i21 : Nat) (x20 : List (Str × Int)), kq = rest23.length ∧ scope_resolver_visit.l1 b0 b1 b2 b4 rec_scope_resolver_under rest23 i21 x20 = some b ∧ b4.fArgs.drop i21 = rest23 ∧ Ass Gl B 75 [(0, .val (.pointer (some ⟨q0, 0, none⟩))), (3, .val (.pointer (some ⟨g3, 0, none⟩))), (21, eL e_T_Expr 8 b4.fArgs), (22, .val (.int .i64 (b4.fArgs.length : Int))), (23, .val (.int .i64 (i21 : Int)))] [.cells q0 90 [.val (.map (some q1)), .val (.map (some q2)), .val (.map (some q3)), .val (.map (some q4))], .map q1 (encM bs eB b0), .map q2 (encM bs eB b1), .map q3 (encM bs eB b2), .map q4 (encM bs (eI .i64) x20), .cells g3 47 (lf_T_Expr b4)] a w) (b4.fArgs.length) ?_ ?_
   ·intro hl70 a w hA
    exact ⟨b4.fArgs, 0, b3, rfl, hl70, rfl, hA⟩
   ·rintro _ a w ⟨rest23, i21, x20, rfl, hl27, hd24, hA⟩
    rcases rest23 with _ | ⟨y22, rest23⟩
    ·rw [scope_resolver_visit.l1_nil] at hl27
     refine G.use hl27 hA ?_
     refine G.seq fun K28 hK29 => ?_
     refine G.region ?_
     refine G.p rfl (V.bin (u := .int .i64 (i21 : Int)) (v := .int .i64 (b4.fArgs.length : Int)) (r := .bool (decide ((i21 : Int) < (b4.fArgs.length : Int)))) rfl rfl b_lss) ?_
     refine G.nil ?_
     refine G.norm (L' := [(0, .val (.pointer (some ⟨q0, 0, none⟩))), (3, .val (.pointer (some ⟨g3, 0, none⟩))), (21, eL e_T_Expr 8 b4.fArgs), (22, .val (.int .i64 (b4.fArgs.length : Int))), (23, .val (.int .i64 (i21 : Int))), (24, .val (.bool (decide ((i21 : Int) < (b4.fArgs.length : Int)))))]) (is := [0, 3, 21, 22, 23, 24]) (R' := [.cells q0 90 [.val (.map (some q1)), .val (.map (some q2)), .val (.map (some q3)), .val (.map (some q4))], .map q1 (encM bs eB b0), .map q2 (encM bs eB b1), .map q3 (encM bs eB b2), .map q4 (encM bs (eI .i64) x20), .cells g3 47 (lf_T_Expr b4)]) (js := [0, 0, 0, 0, 0, 0]) rfl rfl ?_
     refine G.next_ hK29 ?_
     refine G.seq fun K30 hK31 => ?_
     refine G.no rfl (rng_end hd24) ?_
     refine G.exit ?_
     refine G.thn_exit ?_
     refine G.thn_exit ?_
     refine G.inB_eq ?_
     refine G.norm (L' := [(0, .val (.pointer (some ⟨q0, 0, none⟩))), (3, .val (.pointer (some ⟨g3, 0, none⟩)))]) (is := [0, 3]) (R' := [.cells q0 90 [.val (.map (some q1)), .val (.map (some q2)), .val (.map (some q3)), .val (.map (some q4))], .map q1 (encM bs eB b0), .map q2 (encM bs eB b1), .map q3 (encM bs eB b2), .map q4 (encM bs (eI .i64) x20), .cells g3 47 (lf_T_Expr b4)]) (js := [0, 0, 0, 0, 0, 0]) rfl rfl ?_
     exact G.finE fun hb a w hA => by subst hb; exact ⟨_, rfl, hA⟩
    ·rw [scope_resolver_visit.l1_cons] at hl27
     refine G.use hl27 hA ?_
     refine G.seq fun K32 hK33 => ?_
     refine G.region ?_
     refine G.p rfl (V.bin (u := .int .i64 (i21 : Int)) (v := .int .i64 (b4.fArgs.length : Int)) (r := .bool (decide ((i21 : Int) < (b4.fArgs.length : Int)))) rfl rfl b_lss) ?_
     refine G.nil ?_
     refine G.norm (L' := [(0, .val (.pointer (some ⟨q0, 0, none⟩))), (3, .val (.pointer (some ⟨g3, 0, none⟩))), (21, eL e_T_Expr 8 b4.fArgs), (22, .val (.int .i64 (b4.fArgs.length : Int))), (23, .val (.int .i64 (i21 : Int))), (24, .val (.bool (decide ((i21 : Int) < (b4.fArgs.length : Int)))))]) (is := [0, 3, 21, 22, 23, 24]) (R' := [.cells q0 90 [.val (.map (some q1)), .val (.map (some q2)), .val (.map (some q3)), .val (.map (some q4))], .map q1 (encM bs eB b0), .map q2 (encM bs eB b1), .map q3 (encM bs eB b2), .map q4 (encM bs (eI .i64) x20), .cells g3 47 (lf_T_Expr b4)]) (js := [0, 0, 0, 0, 0, 0]) rfl rfl ?_
     refine G.next_ hK33 ?_
     refine G.seq fun K34 hK35 => ?_
     refine G.yes rfl (rng_more hd24) ?_
     refine G.skip ?_
     refine G.next_ hK35 ?_
     refine G.seq fun K36 hK37 => ?_
     refine G.block ?_
     refine G.seq fun K38 hK39 => ?_
     refine G.region ?_
     refine G.p rfl (V.move rfl) ?_
     refine G.p rfl (V.at_sl (k := i21) rfl rfl Try.runUnderlying42 Try.sizeOf47 (map_at (rng_at hd24))) ?_
     refine G.q rfl (V.load_ptrN (ds := (lf_T_Expr y22)) rfl (e_T_Expr_eq y22) Try.isAgg47 Try.sizeOf47 rfl) ?_
     refine G.op rfl (O.alloc (ds := [.val (.int .i64 0), .val (.int .i64 0), .val (bs ([] : Str)), .val (.slice none 0 0), .val (.slice none 0 0), .val (.slice none 0 0), .val (.slice none 0 0), .val (.int .i64 0)]) Try.zeroValue47 rfl) fun g40 => ?_
     refine G.p rfl (V.assign rfl) ?_
     refine G.opn (O.store (i := 0) (o := 0) (ds := [.val (.int .i64 0), .val (.int .i64 0), .val (bs ([] : Str)), .val (.slice none 0 0), .val (.slice none 0 0), .val (.slice none 0 0), .val (.slice none 0 0), .val (.int .i64 0)]) rfl (.of rfl) rfl (OneC.agg (List.forall_mem_cons.2 ⟨(.val rfl), (List.forall_mem_cons.2 ⟨(.val rfl), (List.forall_mem_cons.2 ⟨(.val rfl), (List.forall_mem_cons.2 ⟨.sl, (List.forall_mem_cons.2 ⟨.sl, (List.forall_mem_cons.2 ⟨.sl, (List.forall_mem_cons.2 ⟨.sl, (List.forall_mem_cons.2 ⟨(.val rfl), (List.forall_mem_nil _)⟩)⟩)⟩)⟩)⟩)⟩)⟩)⟩)) Try.sizeOf47 rfl rfl) fun _ => ?_
     refine G.nil ?_
     refine G.norm (L' := [(0, .val (.pointer (some ⟨q0, 0, none⟩))), (3, .val (.pointer (some ⟨g3, 0, none⟩))), (6, .val (.int .i64 (i21 : Int))), (7, .val (.pointer (some ⟨g40, 0, none⟩))), (21, eL e_T_Expr 8 b4.fArgs), (22, .val (.int .i64 (b4.fArgs.length : Int))), (23, .val (.int .i64 (i21 : Int)))]) (is := [0, 3, 6, 7, 21, 22, 23]) (R' := [.cells g40 47 (lf_T_Expr y22), .cells q0 90 [.val (.map (some q1)), .val (.map (some q2)), .val (.map (some q3)), .val (.map (some q4))], .map q1 (encM bs eB b0), .map q2 (encM bs eB b1), .map q3 (encM bs eB b2), .map q4 (encM bs (eI .i64) x20), .cells g3 47 (lf_T_Expr b4)]) (js := [0, 0, 0, 0, 0, 0, 0]) rfl rfl ?_
     refine G.next_ hK39 ?_
     refine G.seq fun K41 hK42 => ?_
     refine G.region ?_
     refine G.p rfl (V.assign rfl) ?_
     refine G.nil ?_
     refine G.norm (L' := [(0, .val (.pointer (some ⟨q0, 0, none⟩))), (3, .val (.pointer (some ⟨g3, 0, none⟩))), (6, .val (.int .i64 (i21 : Int))), (7, .val (.pointer (some ⟨g40, 0, none⟩))), (8, .val (.slice none 0 0)), (21, eL e_T_Expr 8 b4.fArgs), (22, .val (.int .i64 (b4.fArgs.length : Int))), (23, .val (.int .i64 (i21 : Int)))]) (is := [0, 3, 6, 7, 8, 21, 22, 23]) (R' := [.cells g40 47 (lf_T_Expr y22), .cells q0 90 [.val (.map (some q1)), .val (.map (some q2)), .val (.map (some q3)), .val (.map (some q4))], .map q1 (encM bs eB b0), .map q2 (encM bs eB b1), .map q3 (encM bs eB b2), .map q4 (encM bs (eI .i64) x20), .cells g3 47 (lf_T_Expr b4)]) (js := [0, 0, 0, 0, 0, 0, 0]) rfl rfl ?_
     refine G.next_ hK42 ?_
     refine G.seq fun K43 hK44 => ?_
     refine G.block ?_
     refine G.seq fun K45 hK46 => ?_
     refine G.region ?_
     refine G.p rfl (V.fieldAddr (o' := 0) rfl Try.runUnderlying47 rfl Try.sizeOf3 rfl) ?_
     refine G.q rfl (V.load_cell (i := 6) (ds := (lf_T_Expr b4)) (d := .val (.int .i64 b4.fKind)) rfl rfl Try.isAgg3 rfl rfl) ?_
     refine G.p rfl (V.bin (u := .int .i64 b4.fKind) (v := .int .i64 6) (r := .bool (b4.fKind == 6)) rfl rfl b_eql) ?_
     refine G.p rfl (V.move rfl) ?_
     refine G.cut 3 (fun a w => Ass Gl B 75 [(0, .val (.pointer (some ⟨q0, 0, none⟩))), (3, .val (.pointer (some ⟨g3, 0, none⟩))), (6, .val (.int .i64 (i21 : Int))), (7, .val (.pointer (some ⟨g40, 0, none⟩))), (8, .val (.slice none 0 0)), (21, eL e_T_Expr 8 b4.fArgs), (22, .val (.int .i64 (b4.fArgs.length : Int))), (23, .val (.int .i64 (i21 : Int))), (29, .val (.pointer (some ⟨g3, 0, none⟩))), (30, .val (.int .i64 b4.fKind)), (31, .val (.bool (b4.fKind == 6))), (32, .val (.bool (b4.fKind == 6))), (35, .val (.bool ((b4.fKind == 6) && ((i21 : Int) == 1))))] [.cells g40 47 (lf_T_Expr y22), .cells q0 90 [.val (.map (some q1)), .val (.map (some q2)), .val (.map (some q3)), .val (.map (some q4))], .map q1 (encM bs eB b0), .map q2 (encM bs eB b1), .map q3 (encM bs eB b2), .map q4 (encM bs (eI .i64) x20), .cells g3 47 (lf_T_Expr b4)] a w) ?_ ?_
     ·refine G.byb (c := (b4.fKind == 6)) (fun hc47 => ?_) (fun hc47 => ?_)
      ·refine G.guard_yes rfl rfl hc47 ?_
       refine G.p rfl (V.move rfl) ?_
       refine G.guard_yes rfl rfl hc47 ?_
       refine G.p rfl (V.bin (u := .int .i64 (i21 : Int)) (v := .int .i64 1) (r := .bool ((i21 : Int) == 1)) rfl rfl b_eql) ?_
       refine G.p rfl (V.pick_yes (dv := .val (.bool ((i21 : Int) == 1))) rfl hc47 rfl) ?_
       refine G.view (congrArg D.val (and_yes (x := ((i21 : Int) == 1)) hc47)) ?_
       refine G.nil ?_
       refine G.norm (L' := [(0, .val (.pointer (some ⟨q0, 0, none⟩))), (3, .val (.pointer (some ⟨g3, 0, none⟩))), (6, .val (.int .i64 (i21 : Int))), (7, .val (.pointer (some ⟨g40, 0, none⟩))), (8, .val (.slice none 0 0)), (21, eL e_T_Expr 8 b4.fArgs), (22, .val (.int .i64 (b4.fArgs.length : Int))), (23, .val (.int .i64 (i21 : Int))), (29, .val (.pointer (some ⟨g3, 0, none⟩))), (30, .val (.int .i64 b4.fKind)), (31, .val (.bool (b4.fKind == 6))), (32, .val (.bool (b4.fKind == 6))), (35, .val (.bool ((b4.fKind == 6) && ((i21 : Int) == 1))))]) (is := [0, 3, 6, 7, 8, 21, 22, 23, 29, 30, 31, 32, 35]) (R' := [.cells g40 47 (lf_T_Expr y22), .cells q0 90 [.val (.map (some q1)), .val (.map (some q2)), .val (.map (some q3)), .val (.map (some q4))], .map q1 (encM bs eB b0), .map q2 (encM bs eB b1), .map q3 (encM bs eB b2), .map q4 (encM bs (eI .i64) x20), .cells g3 47 (lf_T_Expr b4)]) (js := [0, 0, 0, 0, 0, 0, 0]) rfl rfl ?_
       exact G.finE fun _ _ _ h => h
      ·refine G.skip_s rfl rfl hc47 rfl ?_
       refine G.skip_s rfl rfl hc47 rfl ?_
       refine G.p rfl (V.pick_no (dv := .val (.bool false)) rfl hc47 rfl) ?_
       refine G.view (congrArg D.val (and_no (x := ((i21 : Int) == 1)) hc47)) ?_
       refine G.nil ?_
       refine G.norm (L' := [(0, .val (.pointer (some ⟨q0, 0, none⟩))), (3, .val (.pointer (some ⟨g3, 0, none⟩))), (6, .val (.int .i64 (i21 : Int))), (7, .val (.pointer (some ⟨g40, 0, none⟩))), (8, .val (.slice none 0 0)), (21, eL e_T_Expr 8 b4.fArgs), (22, .val (.int .i64 (b4.fArgs.length : Int))), (23, .val (.int .i64 (i21 : Int))), (29, .val (.pointer (some ⟨g3, 0, none⟩))), (30, .val (.int .i64 b4.fKind)), (31, .val (.bool (b4.fKind == 6))), (32, .val (.bool (b4.fKind == 6))), (35, .val (.bool ((b4.fKind == 6) && ((i21 : Int) == 1))))]) (is := [0, 3, 6, 7, 8, 21, 22, 23, 29, 30, 31, 32, 35]) (R' := [.cells g40 47 (lf_T_Expr y22), .cells q0 90 [.val (.map (some q1)), .val (.map (some q2)), .val (.map (some q3)), .val (.map (some q4))], .map q1 (encM bs eB b0), .map q2 (encM bs eB b1), .map q3 (encM bs eB b2), .map q4 (encM bs (eI .i64) x20), .cells g3 47 (lf_T_Expr b4)]) (js := [0, 0, 0, 0, 0, 0, 0]) rfl rfl ?_
       exact G.finE fun _ _ _ h => h
     ·intro a w hA hF
      refine G.use hF hA ?_
      refine G.p rfl (V.assign rfl) ?_
      refine G.nil ?_
      refine G.norm (L' := [(0, .val (.pointer (some ⟨q0, 0, none⟩))), (3, .val (.pointer (some ⟨g3, 0, none⟩))), (7, .val (.pointer (some ⟨g40, 0, none⟩))), (8, .val (.slice none 0 0)), (21, eL e_T_Expr 8 b4.fArgs), (22, .val (.int .i64 (b4.fArgs.length : Int))), (23, .val (.int .i64 (i21 : Int))), (28, .val (.bool ((b4.fKind == 6) && ((i21 : Int) == 1))))]) (is := [0, 3, 7, 8, 21, 22, 23, 28]) (R' := [.cells g40 47 (lf_T_Expr y22), .cells q0 90 [.val (.map (some q1)), .val (.map (some q2)), .val (.map (some q3)), .val (.map (some q4))], .map q1 (encM bs eB b0), .map q2 (encM bs eB b1), .map q3 (encM bs eB b2), .map q4 (encM bs (eI .i64) x20), .cells g3 47 (lf_T_Expr b4)]) (js := [0, 0, 0, 0, 0, 0, 0]) rfl rfl ?_
      refine G.next_ hK46 ?_
      refine G.join (E := fun b a w => Ass Gl B 75 [(0, .val (.pointer (some ⟨q0, 0, none⟩))), (3, .val (.pointer (some ⟨g3, 0, none⟩))), (7, .val (.pointer (some ⟨g40, 0, none⟩))), (8, eL eS 1 b), (21, eL e_T_Expr 8 b4.fArgs), (22, .val (.int .i64 (b4.fArgs.length : Int))), (23, .val (.int .i64 (i21 : Int)))] [.cells q0 90 [.val (.map (some q1)), .val (.map (some q2)), .val (.map (some q3)), .val (.map (some q4))], .map q1 (encM bs eB b0), .map q2 (encM bs eB b1), .map q3 (encM bs eB b2), .map q4 (encM bs (eI .i64) x20), .cells g3 47 (lf_T_Expr b4), .cells g40 47 (lf_T_Expr y22)] a w) ?_ ?_
      ·intro b hF48
       refine G.cond (b := ((b4.fKind == 6) && ((i21 : Int) == 1))) rfl (fun hc49 => ?_) (fun hc49 => ?_)
       ·refine G.norm (L' := [(0, .val (.pointer (some ⟨q0, 0, none⟩))), (3, .val (.pointer (some ⟨g3, 0, none⟩))), (7, .val (.pointer (some ⟨g40, 0, none⟩))), (21, eL e_T_Expr 8 b4.fArgs), (22, .val (.int .i64 (b4.fArgs.length : Int))), (23, .val (.int .i64 (i21 : Int)))]) (is := [0, 3, 7, 21, 22, 23]) (R' := [.cells g40 47 (lf_T_Expr y22), .cells q0 90 [.val (.map (some q1)), .val (.map (some q2)), .val (.map (some q3)), .val (.map (some q4))], .map q1 (encM bs eB b0), .map q2 (encM bs eB b1), .map q3 (encM bs eB b2), .map q4 (encM bs (eI .i64) x20), .cells g3 47 (lf_T_Expr b4)]) (js := [0, 0, 0, 0, 0, 0, 0]) rfl rfl ?_
        refine G.region ?_
        refine G.p rfl (V.fieldAddr (o' := 2) rfl Try.runUnderlying47 rfl Try.sizeOf9 rfl) ?_
        refine G.q rfl (V.load_cell (i := 6) (ds := (lf_T_Expr b4)) (d := .val (bs b4.fText)) rfl rfl Try.isAgg9 rfl rfl) ?_
        refine G.op rfl (O.buildSlice (xs := [.tmp 37]) (ds := ([b4.fText] : List Str).map eS) elt30 rfl (.cons (.of rfl) .nil) rfl (by decide) (List.forall_mem_cons.2 ⟨(fun c hc => ((fun _ => one_S) _ c hc).mono), (List.forall_mem_nil _)⟩) (List.forall_mem_cons.2 ⟨rfl, (List.forall_mem_nil _)⟩)) fun v50 => ?_
        refine G.p rfl (V.assign rfl) ?_
        refine G.nil ?_
        refine G.norm (L' := [(0, .val (.pointer (some ⟨q0, 0, none⟩))), (3, .val (.pointer (some ⟨g3, 0, none⟩))), (7, .val (.pointer (some ⟨g40, 0, none⟩))), (8, .val v50), (21, eL e_T_Expr 8 b4.fArgs), (22, .val (.int .i64 (b4.fArgs.length : Int))), (23, .val (.int .i64 (i21 : Int)))]) (is := [0, 3, 7, 8, 21, 22, 23]) (R' := [.row v50 9 1 (([b4.fText] : List Str).map eS), .cells g40 47 (lf_T_Expr y22), .cells q0 90 [.val (.map (some q1)), .val (.map (some q2)), .val (.map (some q3)), .val (.map (some q4))], .map q1 (encM bs eB b0), .map q2 (encM bs eB b1), .map q3 (encM bs eB b2), .map q4 (encM bs (eI .i64) x20), .cells g3 47 (lf_T_Expr b4)]) (js := [0, 0, 0, 0, 0, 0, 0, 0]) rfl rfl ?_
        refine G.freeze 0 (L' := [(0, .val (.pointer (some ⟨q0, 0, none⟩))), (3, .val (.pointer (some ⟨g3, 0, none⟩))), (7, .val (.pointer (some ⟨g40, 0, none⟩))), (8, eL eS 1 ([b4.fText] : List Str)), (21, eL e_T_Expr 8 b4.fArgs), (22, .val (.int .i64 (b4.fArgs.length : Int))), (23, .val (.int .i64 (i21 : Int)))]) (R' := [.cells g40 47 (lf_T_Expr y22), .cells q0 90 [.val (.map (some q1)), .val (.map (some q2)), .val (.map (some q3)), .val (.map (some q4))], .map q1 (encM bs eB b0), .map q2 (encM bs eB b1), .map q3 (encM bs eB b2), .map q4 (encM bs (eI .i64) x20), .cells g3 47 (lf_T_Expr b4)]) rfl (fun S w h => .cons .refl (.cons .refl (.cons .refl (.cons (.fz h) (.cons .refl (.cons .refl (.cons .refl .nil))))))) (fun S w h => .same (.same (.same (.same (.same (.same (.same .nil))))))) ?_
        refine G.norm (L' := [(0, .val (.pointer (some ⟨q0, 0, none⟩))), (3, .val (.pointer (some ⟨g3, 0, none⟩))), (7, .val (.pointer (some ⟨g40, 0, none⟩))), (8, eL eS 1 ([b4.fText] : List Str)), (21, eL e_T_Expr 8 b4.fArgs), (22, .val (.int .i64 (b4.fArgs.length : Int))), (23, .val (.int .i64 (i21 : Int)))]) (is := [0, 3, 7, 8, 21, 22, 23]) (R' := [.cells q0 90 [.val (.map (some q1)), .val (.map (some q2)), .val (.map (some q3)), .val (.map (some q4))], .map q1 (encM bs eB b0), .map q2 (encM bs eB b1), .map q3 (encM bs eB b2), .map q4 (encM bs (eI .i64) x20), .cells g3 47 (lf_T_Expr b4), .cells g40 47 (lf_T_Expr y22)]) (js := [1, 1, 1, 1, 1, 1, 0]) rfl rfl ?_
        exact G.finE fun hb a w hA => by subst hb; exact hA
       ·refine G.norm (L' := [(0, .val (.pointer (some ⟨q0, 0, none⟩))), (3, .val (.pointer (some ⟨g3, 0, none⟩))), (7, .val (.pointer (some ⟨g40, 0, none⟩))), (8, .val (.slice none 0 0)), (21, eL e_T_Expr 8 b4.fArgs), (22, .val (.int .i64 (b4.fArgs.length : Int))), (23, .val (.int .i64 (i21 : Int)))]) (is := [0, 3, 7, 8, 21, 22, 23]) (R' := [.cells g40 47 (lf_T_Expr y22), .cells q0 90 [.val (.map (some q1)), .val (.map (some q2)), .val (.map (some q3)), .val (.map (some q4))], .map q1 (encM bs eB b0), .map q2 (encM bs eB b1), .map q3 (encM bs eB b2), .map q4 (encM bs (eI .i64) x20), .cells g3 47 (lf_T_Expr b4)]) (js := [0, 0, 0, 0, 0, 0, 0]) rfl rfl ?_
        refine G.seq fun K51 hK52 => ?_
        refine G.region ?_
        refine G.p rfl (V.fieldAddr (o' := 0) rfl Try.runUnderlying47 rfl Try.sizeOf3 rfl) ?_
        refine G.q rfl (V.load_cell (i := 6) (ds := (lf_T_Expr b4)) (d := .val (.int .i64 b4.fKind)) rfl rfl Try.isAgg3 rfl rfl) ?_
        refine G.p rfl (V.bin (u := .int .i64 b4.fKind) (v := .int .i64 10) (r := .bool (b4.fKind == 10)) rfl rfl b_eql) ?_
        refine G.p rfl (V.assign rfl) ?_
        refine G.nil ?_
        refine G.norm (L' := [(0, .val (.pointer (some ⟨q0, 0, none⟩))), (3, .val (.pointer (some ⟨g3, 0, none⟩))), (7, .val (.pointer (some ⟨g40, 0, none⟩))), (8, .val (.slice none 0 0)), (21, eL e_T_Expr 8 b4.fArgs), (22, .val (.int .i64 (b4.fArgs.length : Int))), (23, .val (.int .i64 (i21 : Int))), (39, .val (.bool (b4.fKind == 10)))]) (is := [0, 3, 7, 8, 21, 22, 23, 39]) (R' := [.cells g40 47 (lf_T_Expr y22), .cells q0 90 [.val (.map (some q1)), .val (.map (some q2)), .val (.map (some q3)), .val (.map (some q4))], .map q1 (encM bs eB b0), .map q2 (encM bs eB b1), .map q3 (encM bs eB b2), .map q4 (encM bs (eI .i64) x20), .cells g3 47 (lf_T_Expr b4)]) (js := [0, 0, 0, 0, 0, 0, 0]) rfl rfl ?_
        refine G.next_ hK52 ?_
        refine G.cond (b := (b4.fKind == 10)) rfl (fun hc53 => ?_) (fun hc53 => ?_)
        ·refine G.norm (L' := [(0, .val (.pointer (some ⟨q0, 0, none⟩))), (3, .val (.pointer (some ⟨g3, 0, none⟩))), (7, .val (.pointer (some ⟨g40, 0, none⟩))), (21, eL e_T_Expr 8 b4.fArgs), (22, .val (.int .i64 (b4.fArgs.length : Int))), (23, .val (.int .i64 (i21 : Int)))]) (is := [0, 3, 7, 21, 22, 23]) (R' := [.cells g40 47 (lf_T_Expr y22), .cells q0 90 [.val (.map (some q1)), .val (.map (some q2)), .val (.map (some q3)), .val (.map (some q4))], .map q1 (encM bs eB b0), .map q2 (encM bs eB b1), .map q3 (encM bs eB b2), .map q4 (encM bs (eI .i64) x20), .cells g3 47 (lf_T_Expr b4)]) (js := [0, 0, 0, 0, 0, 0, 0]) rfl rfl ?_
         refine G.region ?_
         refine G.p rfl (V.fieldAddr (o' := 3) rfl Try.runUnderlying47 rfl Try.sizeOf30 rfl) ?_
         refine G.q rfl (V.load_cell (i := 6) (ds := (lf_T_Expr b4)) (d := eL eS 1 b4.fNames) rfl rfl Try.isAgg30 rfl rfl) ?_
         refine G.p rfl (V.assign rfl) ?_
         refine G.nil ?_
         refine G.norm (L' := [(0, .val (.pointer (some ⟨q0, 0, none⟩))), (3, .val (.pointer (some ⟨g3, 0, none⟩))), (7, .val (.pointer (some ⟨g40, 0, none⟩))), (8, eL eS 1 b4.fNames), (21, eL e_T_Expr 8 b4.fArgs), (22, .val (.int .i64 (b4.fArgs.length : Int))), (23, .val (.int .i64 (i21 : Int)))]) (is := [0, 3, 7, 8, 21, 22, 23]) (R' := [.cells g40 47 (lf_T_Expr y22), .cells q0 90 [.val (.map (some q1)), .val (.map (some q2)), .val (.map (some q3)), .val (.map (some q4))], .map q1 (encM bs eB b0), .map q2 (encM bs eB b1), .map q3 (encM bs eB b2), .map q4 (encM bs (eI .i64) x20), .cells g3 47 (lf_T_Expr b4)]) (js := [0, 0, 0, 0, 0, 0, 0]) rfl rfl ?_
         refine G.norm (L' := [(0, .val (.pointer (some ⟨q0, 0, none⟩))), (3, .val (.pointer (some ⟨g3, 0, none⟩))), (7, .val (.pointer (some ⟨g40, 0, none⟩))), (8, eL eS 1 b4.fNames), (21, eL e_T_Expr 8 b4.fArgs), (22, .val (.int .i64 (b4.fArgs.length : Int))), (23, .val (.int .i64 (i21 : Int)))]) (is := [0, 3, 7, 8, 21, 22, 23]) (R' := [.cells q0 90 [.val (.map (some q1)), .val (.map (some q2)), .val (.map (some q3)), .val (.map (some q4))], .map q1 (encM bs eB b0), .map q2 (encM bs eB b1), .map q3 (encM bs eB b2), .map q4 (encM bs (eI .i64) x20), .cells g3 47 (lf_T_Expr b4), .cells g40 47 (lf_T_Expr y22)]) (js := [1, 1, 1, 1, 1, 1, 0]) rfl rfl ?_
         exact G.finE fun hb a w hA => by subst hb; exact hA
        ·refine G.norm (L' := [(0, .val (.pointer (some ⟨q0, 0, none⟩))), (3, .val (.pointer (some ⟨g3, 0, none⟩))), (7, .val (.pointer (some ⟨g40, 0, none⟩))), (8, .val (.slice none 0 0)), (21, eL e_T_Expr 8 b4.fArgs), (22, .val (.int .i64 (b4.fArgs.length : Int))), (23, .val (.int .i64 (i21 : Int)))]) (is := [0, 3, 7, 8, 21, 22, 23]) (R' := [.cells g40 47 (lf_T_Expr y22), .cells q0 90 [.val (.map (some q1)), .val (.map (some q2)), .val (.map (some q3)), .val (.map (some q4))], .map q1 (encM bs eB b0), .map q2 (encM bs eB b1), .map q3 (encM bs eB b2), .map q4 (encM bs (eI .i64) x20), .cells g3 47 (lf_T_Expr b4)]) (js := [0, 0, 0, 0, 0, 0, 0]) rfl rfl ?_
         refine G.skip ?_
         refine G.norm (L' := [(0, .val (.pointer (some ⟨q0, 0, none⟩))), (3, .val (.pointer (some ⟨g3, 0, none⟩))), (7, .val (.pointer (some ⟨g40, 0, none⟩))), (8, .val (.slice none 0 0)), (21, eL e_T_Expr 8 b4.fArgs), (22, .val (.int .i64 (b4.fArgs.length : Int))), (23, .val (.int .i64 (i21 : Int)))]) (is := [0, 3, 7, 8, 21, 22, 23]) (R' := [.cells q0 90 [.val (.map (some q1)), .val (.map (some q2)), .val (.map (some q3)), .val (.map (some q4))], .map q1 (encM bs eB b0), .map q2 (encM bs eB b1), .map q3 (encM bs eB b2), .map q4 (encM bs (eI .i64) x20), .cells g3 47 (lf_T_Expr b4), .cells g40 47 (lf_T_Expr y22)]) (js := [1, 1, 1, 1, 1, 1, 0]) rfl rfl ?_
         refine G.weak (L' := [(0, .val (.pointer (some ⟨q0, 0, none⟩))), (3, .val (.pointer (some ⟨g3, 0, none⟩))), (7, .val (.pointer (some ⟨g40, 0, none⟩))), (8, eL eS 1 ([] : List Str)), (21, eL e_T_Expr 8 b4.fArgs), (22, .val (.int .i64 (b4.fArgs.length : Int))), (23, .val (.int .i64 (i21 : Int)))]) (fun _ _ => .cons .refl (.cons .refl (.cons .refl (.cons .nil (.cons .refl (.cons .refl (.cons .refl .nil))))))) ?_
         exact G.finE fun hb a w hA => by subst hb; exact hA
      ·rintro b54 hb a w hA hF55
       refine G.use hF55 hA ?_
       refine G.inB ?_
       refine G.next_ hK44 ?_
       refine G.seq fun K56 hK57 => ?_
       refine G.region ?_
       refine G.p rfl (V.move rfl) ?_
       refine G.p rfl (V.move rfl) ?_
       refine G.q rfl (V.load_cellN (i := 6) (ds := (lf_T_Expr y22)) (c1 := (lf_T_Expr y22)) rfl rfl Try.isAgg47 Try.sizeOf47 rfl rfl rfl) ?_
       refine G.bind fun r58 hr59 => ?_
       refine G.op rfl (O.call (xs := [.tmp 46, .tmp 47, .tmp 48]) (is := [0, 0, 0, 0, 0]) (Rp := [.cells q0 90 [.val (.map (some q1)), .val (.map (some q2)), .val (.map (some q3)), .val (.map (some q4))], .map q1 (encM bs eB b0), .map q2 (encM bs eB b1), .map q3 (encM bs eB b2), .map q4 (encM bs (eI .i64) x20)]) (Rr := [.cells g3 47 (lf_T_Expr b4), .cells g40 47 (lf_T_Expr y22)]) (hrec_scope_resolver_under hr59) (.cons (.of rfl) (.cons (.of rfl) (.cons (.of rfl) .nil))) Try.call39 rfl) fun x60 => ?_
       refine G.p rfl (V.move rfl) ?_
       refine G.p rfl (V.extract (ds := [.val (.int .i64 r58.1), .val (.bool r58.2.1)]) (d := .val (.int .i64 r58.1)) rfl rfl) ?_
       refine G.p rfl (V.extract (ds := [.val (.int .i64 r58.1), .val (.bool r58.2.1)]) (d := .val (.bool r58.2.1)) rfl rfl) ?_
       refine G.p rfl (V.assign rfl) ?_
       refine G.p rfl (V.assign rfl) ?_
       refine G.nil ?_
       refine G.norm (L' := [(0, .val (.pointer (some ⟨q0, 0, none⟩))), (3, .val (.pointer (some ⟨g3, 0, none⟩))), (9, .val (.int .i64 r58.1)), (10, .val (.bool r58.2.1)), (21, eL e_T_Expr 8 b4.fArgs), (22, .val (.int .i64 (b4.fArgs.length : Int))), (23, .val (.int .i64 (i21 : Int)))]) (is := [0, 3, 9, 10, 21, 22, 23]) (R' := [.cells q0 90 [.val (.map (some q1)), .val (.map (some q2)), .val (.map (some q3)), .val (.map (some q4))], .map q1 (encM bs eB b0), .map q2 (encM bs eB b1), .map q3 (encM bs eB b2), .map q4 (encM bs (eI .i64) r58.2.2), .cells g3 47 (lf_T_Expr b4)]) (js := [0, 0, 0, 0, 0, 0]) rfl rfl ?_
       refine G.next_ hK57 ?_
       refine G.seq fun K61 hK62 => ?_
       refine G.region ?_
       refine G.p rfl (V.move rfl) ?_
       refine G.nil ?_
       refine G.norm (L' := [(0, .val (.pointer (some ⟨q0, 0, none⟩))), (3, .val (.pointer (some ⟨g3, 0, none⟩))), (9, .val (.int .i64 r58.1)), (21, eL e_T_Expr 8 b4.fArgs), (22, .val (.int .i64 (b4.fArgs.length : Int))), (23, .val (.int .i64 (i21 : Int))), (52, .val (.bool r58.2.1))]) (is := [0, 3, 9, 21, 22, 23, 52]) (R' := [.cells q0 90 [.val (.map (some q1)), .val (.map (some q2)), .val (.map (some q3)), .val (.map (some q4))], .map q1 (encM bs eB b0), .map q2 (encM bs eB b1), .map q3 (encM bs eB b2), .map q4 (encM bs (eI .i64) r58.2.2), .cells g3 47 (lf_T_Expr b4)]) (js := [0, 0, 0, 0, 0, 0]) rfl rfl ?_
       refine G.next_ hK62 ?_
       refine G.cond (b := r58.2.1) rfl (fun hc63 => ?_) (fun hc63 => ?_)
       ·refine G.norm (L' := [(9, .val (.int .i64 r58.1))]) (is := [9]) (R' := [.cells q0 90 [.val (.map (some q1)), .val (.map (some q2)), .val (.map (some q3)), .val (.map (some q4))], .map q1 (encM bs eB b0), .map q2 (encM bs eB b1), .map q3 (encM bs eB b2), .map q4 (encM bs (eI .i64) r58.2.2)]) (js := [0, 0, 0, 0, 0]) rfl rfl ?_
        refine G.seq fun K64 hK65 => ?_
        refine G.region ?_
        refine G.p rfl (V.move rfl) ?_
        refine G.p rfl (V.assign rfl) ?_
        refine G.p rfl (V.assign rfl) ?_
        refine G.nil ?_
        refine G.norm (L' := [(4, .val (.int .i64 r58.1)), (5, .val (.bool true))]) (is := [4, 5]) (R' := [.cells q0 90 [.val (.map (some q1)), .val (.map (some q2)), .val (.map (some q3)), .val (.map (some q4))], .map q1 (encM bs eB b0), .map q2 (encM bs eB b1), .map q3 (encM bs eB b2), .map q4 (encM bs (eI .i64) r58.2.2)]) (js := [0, 0, 0, 0, 0]) rfl rfl ?_
        refine G.next_ hK65 ?_
        refine G.ret ?_
        refine G.inB_ret ?_
        refine G.thn_ret ?_
        refine G.thn_ret ?_
        refine G.inB_ret ?_
        refine G.thn_ret ?_
        refine G.thn_ret ?_
        refine G.fin_ fun hF66 => ?_
        have hb67 := Option.some.inj hF66
        subst hb67
        have hF68 : (some (r58.1, true, r58.2.2) : Option (Int × Bool × (List (Str × Int)))) = some _ := hF26
        obtain rfl := Option.some.inj hF68
        exact G.ret2 Try.results32 () (is := [0, 0, 0, 0, 0]) rfl (.of rfl) (.of rfl) rfl
       ·refine G.norm (L' := [(0, .val (.pointer (some ⟨q0, 0, none⟩))), (3, .val (.pointer (some ⟨g3, 0, none⟩))), (21, eL e_T_Expr 8 b4.fArgs), (22, .val (.int .i64 (b4.fArgs.length : Int))), (23, .val (.int .i64 (i21 : Int)))]) (is := [0, 3, 21, 22, 23]) (R' := [.cells q0 90 [.val (.map (some q1)), .val (.map (some q2)), .val (.map (some q3)), .val (.map (some q4))], .map q1 (encM bs eB b0), .map q2 (encM bs eB b1), .map q3 (encM bs eB b2), .map q4 (encM bs (eI .i64) r58.2.2), .cells g3 47 (lf_T_Expr b4)]) (js := [0, 0, 0, 0, 0, 0]) rfl rfl ?_
        refine G.skip ?_
        refine G.inB ?_
        refine G.next_ hK37 ?_
        refine G.region ?_
        refine G.p rfl (V.incr (i := i21) (N := b4.fArgs.length) rfl rfl (rng_lt hd24) (hN19)) ?_
        refine G.p rfl (V.move rfl) ?_
        refine G.nil ?_
        refine G.norm (L' := [(0, .val (.pointer (some ⟨q0, 0, none⟩))), (3, .val (.pointer (some ⟨g3, 0, none⟩))), (21, eL e_T_Expr 8 b4.fArgs), (22, .val (.int .i64 (b4.fArgs.length : Int))), (23, .val (.int .i64 ((i21 + 1 : Nat) : Int)))]) (is := [0, 3, 21, 22, 23]) (R' := [.cells q0 90 [.val (.map (some q1)), .val (.map (some q2)), .val (.map (some q3)), .val (.map (some q4))], .map q1 (encM bs eB b0), .map q2 (encM bs eB b1), .map q3 (encM bs eB b2), .map q4 (encM bs (eI .i64) r58.2.2), .cells g3 47 (lf_T_Expr b4)]) (js := [0, 0, 0, 0, 0, 0]) rfl rfl ?_
        refine G.again ?_
        intro hl69 a w hA
        exact ⟨_, Nat.lt_succ_self _, rest23, i21 + 1, r58.2.2, rfl, hl69, rng_next hd24, hA⟩
  ·rintro _ hb a w ⟨b71, rfl, hA⟩ hF72
   refine G.use hF72 hA ?_
   refine G.inr ?_
   refine G.next_ hK16 ?_
   refine G.seq fun K73 hK74 => ?_
   refine G.seq fun K75 hK76 => ?_
   refine G.region ?_
   refine G.p rfl (V.fieldAddr (o' := 6) rfl Try.runUnderlying47 rfl Try.sizeOf45 rfl) ?_
   refine G.q rfl (V.load_cell (i := 5) (ds := (lf_T_Expr b4)) (d := eL e_T_Arm 12 b4.fArms) rfl rfl Try.isAgg45 rfl rfl) ?_
   refine G.lenb (enc := e_T_Arm) (xs := b4.fArms) (sz := 12) (x := .tmp 56) (.of rfl) fun hN77 => ?_
   refine G.p rfl (V.len_sl (enc := e_T_Arm) (xs := b4.fArms) (sz := 12) (.of rfl) Try.runUnderlying45) ?_
   refine G.p rfl (V.move rfl) ?_
   refine G.nil ?_
   refine G.norm (L' := [(0, .val (.pointer (some ⟨q0, 0, none⟩))), (56, eL e_T_Arm 12 b4.fArms), (57, .val (.int .i64 (b4.fArms.length : Int))), (58, .val (.int .i64 0))]) (is := [0, 56, 57, 58]) (R' := [.cells q0 90 [.val (.map (some q1)), .val (.map (some q2)), .val (.map (some q3)), .val (.map (some q4))], .map q1 (encM bs eB b0), .map q2 (encM bs eB b1), .map q3 (encM bs eB b2), .map q4 (encM bs (eI .i64) b71)]) (js := [0, 0, 0, 0, 0]) rfl rfl ?_
   refine G.next_ hK76 ?_
   refine G.join (E := fun o a w => ∃ b, o = .inr b ∧ Ass Gl B 75 [] [.cells q0 90 [.val (.map (some q1)), .val (.map (some q2)), .val (.map (some q3)), .val (.map (some q4))], .map q1 (encM bs eB b0), .map q2 (encM bs eB b1), .map q3 (encM bs eB b2), .map q4 (encM bs (eI .i64) b)] a w) ?_ ?_
   ·intro b hF84
    refine G.block ?_
    refine G.norm (L' := [(0, .val (.pointer (some ⟨q0, 0, none⟩))), (56, eL e_T_Arm 12 b4.fArms), (57, .val (.int .i64 (b4.fArms.length : Int))), (58, .val (.int .i64 ((0 : Nat) : Int)))]) (is := [0, 56, 57, 58]) (R' := [.cells q0 90 [.val (.map (some q1)), .val (.map (some q2)), .val (.map (some q3)), .val (.map (some q4))], .map q1 (encM bs eB b0), .map q2 (encM bs eB b1), .map q3 (encM bs eB b2), .map q4 (encM bs (eI .i64) b71)]) (js := [0, 0, 0, 0, 0]) rfl rfl ?_
    refine G.loop (fun kq a w => ∃ (rest81 : List (T_Arm)) (i79 : Nat) (x78 : List (Str × Int)), kq = rest81.length ∧ scope_resolver_visit.l2 b0 b1 b2 k rec_scope_resolver_under rest81 x78 = some b ∧ b4.fArms.drop i79 = rest81 ∧ Ass Gl B 75 [(0, .val (.pointer (some ⟨q0, 0, none⟩))), (56, eL e_T_Arm 12 b4.fArms), (57, .val (.int .i64 (b4.fArms.length : Int))), (58, .val (.int .i64 (i79 : Int)))] [.cells q0 90 [.val (.map (some q1)), .val (.map (some q2)), .val (.map (some q3)), .val (.map (some q4))], .map q1 (encM bs eB b0), .map q2 (encM bs eB b1), .map q3 (encM bs eB b2), .map q4 (encM bs (eI .i64) x78)] a w) (b4.fArms.length) ?_ ?_
    ·intro hl124 a w hA
     exact ⟨b4.fArms, 0, b71, rfl, hl124, rfl, hA⟩
    ·rintro _ a w ⟨rest81, i79, x78, rfl, hl85, hd82, hA⟩
     rcases rest81 with _ | ⟨y80, rest81⟩
     ·rw [scope_resolver_visit.l2_nil] at hl85
      refine G.use hl85 hA ?_
      refine G.seq fun K86 hK87 => ?_
      refine G.region ?_
      refine G.p rfl (V.bin (u := .int .i64 (i79 : Int)) (v := .int .i64 (b4.fArms.length : Int)) (r := .bool (decide ((i79 : Int) < (b4.fArms.length : Int)))) rfl rfl b_lss) ?_
      refine G.nil ?_
      refine G.norm (L' := [(0, .val (.pointer (some ⟨q0, 0, none⟩))), (56, eL e_T_Arm 12 b4.fArms), (57, .val (.int .i64 (b4.fArms.length : Int))), (58, .val (.int .i64 (i79 : Int))), (59, .val (.bool (decide ((i79 : Int) < (b4.fArms.length : Int)))))]) (is := [0, 56, 57, 58, 59]) (R' := [.cells q0 90 [.val (.map (some q1)), .val (.map (some q2)), .val (.map (some q3)), .val (.map (some q4))], .map q1 (encM bs eB b0), .map q2 (encM bs eB b1), .map q3 (encM bs eB b2), .map q4 (encM bs (eI .i64) x78)]) (js := [0, 0, 0, 0, 0]) rfl rfl ?_
      refine G.next_ hK87 ?_
      refine G.seq fun K88 hK89 => ?_
      refine G.no rfl (rng_end hd82) ?_
      refine G.exit ?_
      refine G.thn_exit ?_
      refine G.thn_exit ?_
      refine G.inB_eq ?_
      refine G.norm (L' := []) (is := []) (R' := [.cells q0 90 [.val (.map (some q1)), .val (.map (some q2)), .val (.map (some q3)), .val (.map (some q4))], .map q1 (encM bs eB b0), .map q2 (encM bs eB b1), .map q3 (encM bs eB b2), .map q4 (encM bs (eI .i64) x78)]) (js := [0, 0, 0, 0, 0]) rfl rfl ?_
      exact G.finE fun hb a w hA => by subst hb; exact ⟨_, rfl, hA⟩
     ·rw [scope_resolver_visit.l2_cons] at hl85
      refine G.use hl85 hA ?_
      refine G.seq fun K90 hK91 => ?_
      refine G.region ?_
      refine G.p rfl (V.bin (u := .int .i64 (i79 : Int)) (v := .int .i64 (b4.fArms.length : Int)) (r := .bool (decide ((i79 : Int) < (b4.fArms.length : Int)))) rfl rfl b_lss) ?_
      refine G.nil ?_
      refine G.norm (L' := [(0, .val (.pointer (some ⟨q0, 0, none⟩))), (56, eL e_T_Arm 12 b4.fArms), (57, .val (.int .i64 (b4.fArms.length : Int))), (58, .val (.int .i64 (i79 : Int))), (59, .val (.bool (decide ((i79 : Int) < (b4.fArms.length : Int)))))]) (is := [0, 56, 57, 58, 59]) (R' := [.cells q0 90 [.val (.map (some q1)), .val (.map (some q2)), .val (.map (some q3)), .val (.map (some q4))], .map q1 (encM bs eB b0), .map q2 (encM bs eB b1), .map q3 (encM bs eB b2), .map q4 (encM bs (eI .i64) x78)]) (js := [0, 0, 0, 0, 0]) rfl rfl ?_
      refine G.next_ hK91 ?_
      refine G.seq fun K92 hK93 => ?_
      refine G.yes rfl (rng_more hd82) ?_
      refine G.skip ?_
      refine G.next_ hK93 ?_
      refine G.seq fun K94 hK95 => ?_
      refine G.block ?_
      refine G.seq fun K96 hK97 => ?_
      refine G.region ?_
      refine G.p rfl (V.at_sl (k := i79) rfl rfl Try.runUnderlying45 Try.sizeOf85 (map_at (rng_at hd82))) ?_
      refine G.q rfl (V.load_ptrN (ds := (lf_T_Arm y80)) rfl (e_T_Arm_eq y80) Try.isAgg85 Try.sizeOf85 rfl) ?_
      refine G.op rfl (O.alloc (ds := [.val (.int .i64 0), .val (.int .i64 0), .val (bs ([] : Str)), .val (.slice none 0 0), .val (.int .i64 0), .val (.int .i64 0), .val (bs ([] : Str)), .val (.slice none 0 0), .val (.slice none 0 0), .val (.slice none 0 0), .val (.slice none 0 0), .val (.int .i64 0)]) Try.zeroValue85 rfl) fun g98 => ?_
      refine G.opn (O.store (i := 0) (o := 0) (ds := [.val (.int .i64 0), .val (.int .i64 0), .val (bs ([] : Str)), .val (.slice none 0 0), .val (.int .i64 0), .val (.int .i64 0), .val (bs ([] : Str)), .val (.slice none 0 0), .val (.slice none 0 0), .val (.slice none 0 0), .val (.slice none 0 0), .val (.int .i64 0)]) rfl (.of rfl) rfl (OneC.agg (List.forall_mem_cons.2 ⟨(.val rfl), (List.forall_mem_cons.2 ⟨(.val rfl), (List.forall_mem_cons.2 ⟨(.val rfl), (List.forall_mem_cons.2 ⟨.sl, (List.forall_mem_cons.2 ⟨(.val rfl), (List.forall_mem_cons.2 ⟨(.val rfl), (List.forall_mem_cons.2 ⟨(.val rfl), (List.forall_mem_cons.2 ⟨.sl, (List.forall_mem_cons.2 ⟨.sl, (List.forall_mem_cons.2 ⟨.sl, (List.forall_mem_cons.2 ⟨.sl, (List.forall_mem_cons.2 ⟨(.val rfl), (List.forall_mem_nil _)⟩)⟩)⟩)⟩)⟩)⟩)⟩)⟩)⟩)⟩)⟩)⟩)) Try.sizeOf85 rfl rfl) fun _ => ?_
      refine G.nil ?_
      refine G.norm (L' := [(0, .val (.pointer (some ⟨q0, 0, none⟩))), (12, .val (.pointer (some ⟨g98, 0, none⟩))), (56, eL e_T_Arm 12 b4.fArms), (57, .val (.int .i64 (b4.fArms.length : Int))), (58, .val (.int .i64 (i79 : Int)))]) (is := [0, 12, 56, 57, 58]) (R' := [.cells g98 85 (lf_T_Arm y80), .cells q0 90 [.val (.map (some q1)), .val (.map (some q2)), .val (.map (some q3)), .val (.map (some q4))], .map q1 (encM bs eB b0), .map q2 (encM bs eB b1), .map q3 (encM bs eB b2), .map q4 (encM bs (eI .i64) x78)]) (js := [0, 0, 0, 0, 0, 0]) rfl rfl ?_
      refine G.next_ hK97 ?_
      refine G.seq fun K99 hK100 => ?_
      refine G.bind fun r101 hr102 => ?_
      refine G.bind fun r104 hr105 => ?_
      refine G.draw [1, 1, 1, 1, 1] Try_mixed 12 rfl rfl (fun B1 => ?_)
      refine GH.take 0 rfl rfl (by kernel_rfl) (by kernel_rfl) (by kernel_rfl) (Qp.qv (V.move rfl)) (fun _ _ _ _ h => h) ?_
      refine GH.take 1 rfl rfl (by kernel_rfl) (by kernel_rfl) (by kernel_rfl) (Qp.qv (V.fieldAddr (o' := 0) rfl Try.runUnderlying85 rfl Try.sizeOf83 rfl)) (fun _ _ _ _ h => h) ?_
      refine GH.take 2 rfl rfl (by kernel_rfl) (by kernel_rfl) (by kernel_rfl) (V.load_cellN (i := 0) (ds := (lf_T_Arm y80)) (c1 := (lf_T_Pat y80.fPat)) rfl rfl Try.isAgg83 Try.sizeOf83 rfl rfl rfl) (fun _ _ _ _ h => h) ?_
      refine GH.take 4 rfl rfl (by kernel_rfl) (by kernel_rfl) (by kernel_rfl) (Qp.qv (V.fieldAddr (o' := 4) rfl Try.runUnderlying85 rfl Try.sizeOf47 rfl)) (fun _ _ _ _ h => h) ?_
      refine GH.take 5 rfl rfl (by kernel_rfl) (by kernel_rfl) (by kernel_rfl) (V.load_cellN (i := 0) (ds := (lf_T_Arm y80)) (c1 := (lf_T_Expr y80.fBody)) rfl rfl Try.isAgg47 Try.sizeOf47 rfl rfl rfl) (fun _ _ _ _ h => h) ?_
      refine GH.all [3] (by kernel_rfl) (by decide) ?_
      refine (all_cons ?_ (List.forall_mem_nil _))
      ·refine GH.loud rfl rfl (O.call (xs := [.tmp 65]) (is := []) (Rp := []) (Rr := [.cells q0 90 [.val (.map (some q1)), .val (.map (some q2)), .val (.map (some q3)), .val (.map (some q4))], .map q1 (encM bs eB b0), .map q2 (encM bs eB b1), .map q3 (encM bs eB b2), .map q4 (encM bs (eI .i64) x78)]) (tree_Bound_ok k hr102) (.cons (.of rfl) .nil) Try.call40 rfl) fun x113 => ?_
       refine GH.all [6] (by kernel_rfl) (by decide) ?_
       refine (all_cons ?_ (List.forall_mem_nil _))
       ·refine GH.freeze 0 (L2' := [(66, eL eS 1 r101)]) (R' := [.cells q0 90 [.val (.map (some q1)), .val (.map (some q2)), .val (.map (some q3)), .val (.map (some q4))], .map q1 (encM bs eB b0), .map q2 (encM bs eB b1), .map q3 (encM bs eB b2), .map q4 (encM bs (eI .i64) x78)]) rfl (fun S w h => .cons (.fz h) .nil) (fun S w h => .same (.same (.same (.same (.same .nil))))) ?_
        refine GH.loud rfl rfl (O.call (xs := [.tmp 63, .tmp 66, .tmp 68]) (is := [0, 0, 0, 0, 0]) (Rp := [.cells q0 90 [.val (.map (some q1)), .val (.map (some q2)), .val (.map (some q3)), .val (.map (some q4))], .map q1 (encM bs eB b0), .map q2 (encM bs eB b1), .map q3 (encM bs eB b2), .map q4 (encM bs (eI .i64) x78)]) (Rr := []) (hrec_scope_resolver_under hr105) (.cons (.of rfl) (.cons (.of rfl) (.cons (.of rfl) .nil))) Try.call39 rfl) fun x114 => ?_
        refine GH.takep 7 rfl rfl (by kernel_rfl) (by kernel_rfl) (by kernel_rfl) (V.move rfl) (fun _ _ _ _ h => h) ?_
        refine GH.takep 8 rfl rfl (by kernel_rfl) (by kernel_rfl) (by kernel_rfl) (V.extract (ds := [.val (.int .i64 r104.1), .val (.bool r104.2.1)]) (d := .val (.int .i64 r104.1)) rfl rfl) (fun _ _ _ _ h => h) ?_
        refine GH.lift Ind.val ?_
        refine GH.takep 9 rfl rfl (by kernel_rfl) (by kernel_rfl) (by kernel_rfl) (V.extract (ds := [.val (.int .i64 r104.1), .val (.bool r104.2.1)]) (d := .val (.bool r104.2.1)) rfl rfl) (fun _ _ _ _ h => h) ?_
        refine GH.lift Ind.val ?_
        refine GH.take 10 rfl rfl (by kernel_rfl) (by kernel_rfl) (by kernel_rfl) (Qp.qv (V.assign rfl)) (fun _ _ _ _ h => h) ?_
        refine GH.take 11 rfl rfl (by kernel_rfl) (by kernel_rfl) (by kernel_rfl) (Qp.qv (V.assign rfl)) (fun _ _ _ _ h => h) ?_
        refine GH.done (is := [0, 13, 14, 56, 57, 58]) (js := [0, 0, 0, 0, 0]) (L' := [(0, .val (.pointer (some ⟨q0, 0, none⟩))), (13, .val (.int .i64 r104.1)), (14, .val (.bool r104.2.1)), (56, eL e_T_Arm 12 b4.fArms), (57, .val (.int .i64 (b4.fArms.length : Int))), (58, .val (.int .i64 (i79 : Int)))]) (R' := [.cells q0 90 [.val (.map (some q1)), .val (.map (some q2)), .val (.map (some q3)), .val (.map (some q4))], .map q1 (encM bs eB b0), .map q2 (encM bs eB b1), .map q3 (encM bs eB b2), .map q4 (encM bs (eI .i64) r104.2.2)]) (by kernel_rfl) rfl rfl ?_
        refine G.next_ hK100 ?_
        refine G.seq fun K115 hK116 => ?_
        refine G.region ?_
        refine G.p rfl (V.move rfl) ?_
        refine G.nil ?_
        refine G.norm (L' := [(0, .val (.pointer (some ⟨q0, 0, none⟩))), (13, .val (.int .i64 r104.1)), (56, eL e_T_Arm 12 b4.fArms), (57, .val (.int .i64 (b4.fArms.length : Int))), (58, .val (.int .i64 (i79 : Int))), (72, .val (.bool r104.2.1))]) (is := [0, 13, 56, 57, 58, 72]) (R' := [.cells q0 90 [.val (.map (some q1)), .val (.map (some q2)), .val (.map (some q3)), .val (.map (some q4))], .map q1 (encM bs eB b0), .map q2 (encM bs eB b1), .map q3 (encM bs eB b2), .map q4 (encM bs (eI .i64) r104.2.2)]) (js := [0, 0, 0, 0, 0]) rfl rfl ?_
        refine G.next_ hK116 ?_
        refine G.cond (b := r104.2.1) rfl (fun hc117 => ?_) (fun hc117 => ?_)
        ·refine G.norm (L' := [(13, .val (.int .i64 r104.1))]) (is := [13]) (R' := [.cells q0 90 [.val (.map (some q1)), .val (.map (some q2)), .val (.map (some q3)), .val (.map (some q4))], .map q1 (encM bs eB b0), .map q2 (encM bs eB b1), .map q3 (encM bs eB b2), .map q4 (encM bs (eI .i64) r104.2.2)]) (js := [0, 0, 0, 0, 0]) rfl rfl ?_
         refine G.seq fun K118 hK119 => ?_
         refine G.region ?_
         refine G.p rfl (V.move rfl) ?_
         refine G.p rfl (V.assign rfl) ?_
         refine G.p rfl (V.assign rfl) ?_
         refine G.nil ?_
         refine G.norm (L' := [(4, .val (.int .i64 r104.1)), (5, .val (.bool true))]) (is := [4, 5]) (R' := [.cells q0 90 [.val (.map (some q1)), .val (.map (some q2)), .val (.map (some q3)), .val (.map (some q4))], .map q1 (encM bs eB b0), .map q2 (encM bs eB b1), .map q3 (encM bs eB b2), .map q4 (encM bs (eI .i64) r104.2.2)]) (js := [0, 0, 0, 0, 0]) rfl rfl ?_
         refine G.next_ hK119 ?_
         refine G.ret ?_
         refine G.inB_ret ?_
         refine G.thn_ret ?_
         refine G.thn_ret ?_
         refine G.inB_ret ?_
         refine G.thn_ret ?_
         refine G.thn_ret ?_
         refine G.fin_ fun hF120 => ?_
         have hb121 := Option.some.inj hF120
         subst hb121
         have hF122 : (some (r104.1, true, r104.2.2) : Option (Int × Bool × (List (Str × Int)))) = some _ := hF84
         obtain rfl := Option.some.inj hF122
         exact G.ret2 Try.results32 () (is := [0, 0, 0, 0, 0]) rfl (.of rfl) (.of rfl) rfl
        ·refine G.norm (L' := [(0, .val (.pointer (some ⟨q0, 0, none⟩))), (56, eL e_T_Arm 12 b4.fArms), (57, .val (.int .i64 (b4.fArms.length : Int))), (58, .val (.int .i64 (i79 : Int)))]) (is := [0, 56, 57, 58]) (R' := [.cells q0 90 [.val (.map (some q1)), .val (.map (some q2)), .val (.map (some q3)), .val (.map (some q4))], .map q1 (encM bs eB b0), .map q2 (encM bs eB b1), .map q3 (encM bs eB b2), .map q4 (encM bs (eI .i64) r104.2.2)]) (js := [0, 0, 0, 0, 0]) rfl rfl ?_
         refine G.skip ?_
         refine G.inB ?_
         refine G.next_ hK95 ?_
         refine G.region ?_
         refine G.p rfl (V.incr (i := i79) (N := b4.fArms.length) rfl rfl (rng_lt hd82) (hN77)) ?_
         refine G.p rfl (V.move rfl) ?_
         refine G.nil ?_
         refine G.norm (L' := [(0, .val (.pointer (some ⟨q0, 0, none⟩))), (56, eL e_T_Arm 12 b4.fArms), (57, .val (.int .i64 (b4.fArms.length : Int))), (58, .val (.int .i64 ((i79 + 1 : Nat) : Int)))]) (is := [0, 56, 57, 58]) (R' := [.cells q0 90 [.val (.map (some q1)), .val (.map (some q2)), .val (.map (some q3)), .val (.map (some q4))], .map q1 (encM bs eB b0), .map q2 (encM bs eB b1), .map q3 (encM bs eB b2), .map q4 (encM bs (eI .i64) r104.2.2)]) (js := [0, 0, 0, 0, 0]) rfl rfl ?_
         refine G.again ?_
         intro hl123 a w hA
         exact ⟨_, Nat.lt_succ_self _, rest81, i79 + 1, r104.2.2, rfl, hl123, rng_next hd82, hA⟩
   ·rintro _ hb a w ⟨b125, rfl, hA⟩ hF126
    refine G.use hF126 hA ?_
    refine G.inr ?_
    refine G.next_ hK74 ?_
    refine G.seq fun K127 hK128 => ?_
    refine G.region ?_
    refine G.p rfl (V.assign rfl) ?_
    refine G.p rfl (V.assign rfl) ?_
    refine G.nil ?_
    refine G.norm (L' := [(4, .val (.int .i64 0)), (5, .val (.bool false))]) (is := [4, 5]) (R' := [.cells q0 90 [.val (.map (some q1)), .val (.map (some q2)), .val (.map (some q3)), .val (.map (some q4))], .map q1 (encM bs eB b0), .map q2 (encM bs eB b1), .map q3 (encM bs eB b2), .map q4 (encM bs (eI .i64) b125)]) (js := [0, 0, 0, 0, 0]) rfl rfl ?_
    refine G.next_ hK128 ?_
    refine G.ret ?_
    refine G.fin_ fun hF129 => ?_
    obtain rfl := Option.some.inj hF129
    exact G.ret2 Try.results32 () (is := [0, 0, 0, 0, 0]) rfl (.of rfl) (.of rfl) rfl
set_option maxRecDepth 100000 in
theorem scope_resolver_under.body_ok {rec_scope_resolver_visit : (List (Str × Bool)) → (List (Str × Bool)) → (List (Str × Bool)) → (List (Str × Int)) → T_Expr → Option (Int × Bool × (List (Str × Int)))} {rec_scope_resolver_under : (List (Str × Bool)) → (List (Str × Bool)) → (List (Str × Bool)) → (List (Str × Int)) → (List Str) → T_Expr → Option (Int × Bool × (List (Str × Int)))} (hrec_scope_resolver_visit : scope_resolver_visit.Spec rec_scope_resolver_visit) (hrec_scope_resolver_under : scope_resolver_under.Spec rec_scope_resolver_under) (k : Nat) : scope_resolver_under.Spec (scope_resolver_under.body rec_scope_resolver_visit rec_scope_resolver_under k) := by
 intro b0 b1 b2 b3 b4 b5 q0 q1 q2 q3 q4 out hp
 refine ct_of_G (nt := 50) Try.func39 rfl Try.ntmps39 rfl (fun B => ?_) hp
 unfold scope_resolver_under.body
 refine G.seq fun K1 hK2 => ?_
 refine G.region ?_
 refine G.op rfl (O.box (.of rfl) (OneC.agg (List.forall_mem_cons.2 ⟨(.val rfl), (List.forall_mem_cons.2 ⟨(.val rfl), (List.forall_mem_cons.2 ⟨(.val rfl), (List.forall_mem_cons.2 ⟨.sl, (List.forall_mem_cons.2 ⟨.sl, (List.forall_mem_cons.2 ⟨.sl, (List.forall_mem_cons.2 ⟨.sl, (List.forall_mem_cons.2 ⟨(.val rfl), (List.forall_mem_nil _)⟩)⟩)⟩)⟩)⟩)⟩)⟩)⟩))) fun g3 => ?_
 refine G.p rfl (V.assign rfl) ?_
 refine G.p rfl (V.assign rfl) ?_
 refine G.nil ?_
 refine G.norm (L' := [(0, .val (.pointer (some ⟨q0, 0, none⟩))), (1, eL eS 1 b4), (5, .val (.pointer (some ⟨g3, 0, none⟩)))]) (is := [0, 1, 5]) (R' := [.cells g3 47 (lf_T_Expr b5), .cells q0 90 [.val (.map (some q1)), .val (.map (some q2)), .val (.map (some q3)), .val (.map (some q4))], .map q1 (encM bs eB b0), .map q2 (encM bs eB b1), .map q3 (encM bs eB b2), .map q4 (encM bs (eI .i64) b3)]) (js := [0, 0, 0, 0, 0, 0]) rfl rfl ?_
 refine G.next_ hK2 ?_
 refine G.seq fun K4 hK5 => ?_
 refine G.seq fun K6 hK7 => ?_
 refine G.region ?_
 refine G.p rfl (V.move rfl) ?_
 refine G.lenb (enc := eS) (xs := b4) (sz := 1) (x := .tmp 14) (.of rfl) fun hN8 => ?_
 refine G.p rfl (V.len_sl (enc := eS) (xs := b4) (sz := 1) (.of rfl) Try.runUnderlying30) ?_
 refine G.p rfl (V.move rfl) ?_
 refine G.nil ?_
 refine G.norm (L' := [(0, .val (.pointer (some ⟨q0, 0, none⟩))), (1, eL eS 1 b4), (5, .val (.pointer (some ⟨g3, 0, none⟩))), (14, eL eS 1 b4), (15, .val (.int .i64 (b4.length : Int))), (16, .val (.int .i64 0))]) (is := [0, 1, 5, 14, 15, 16]) (R' := [.cells g3 47 (lf_T_Expr b5), .cells q0 90 [.val (.map (some q1)), .val (.map (some q2)), .val (.map (some q3)), .val (.map (some q4))], .map q1 (encM bs eB b0), .map q2 (encM bs eB b1), .map q3 (encM bs eB b2), .map q4 (encM bs (eI .i64) b3)]) (js := [0, 0, 0, 0, 0, 0]) rfl rfl ?_
 refine G.next_ hK7 ?_
 refine G.join (E := fun b a w => Ass Gl B 50 [(0, .val (.pointer (some ⟨q0, 0, none⟩))), (1, eL eS 1 b4), (5, .val (.pointer (some ⟨g3, 0, none⟩)))] [.cells q0 90 [.val (.map (some q1)), .val (.map (some q2)), .val (.map (some q3)), .val (.map (some q4))], .map q1 (encM bs eB b0), .map q2 (encM bs eB b1), .map q3 (encM bs eB b2), .map q4 (encM bs (eI .i64) b), .cells g3 47 (lf_T_Expr b5)] a w) ?_ ?_
 ·intro b hF15
  refine G.block ?_
  refine G.norm (L' := [(0, .val (.pointer (some ⟨q0, 0, none⟩))), (1, eL eS 1 b4), (5, .val (.pointer (some ⟨g3, 0, none⟩))), (14, eL eS 1 b4), (15, .val (.int .i64 (b4.length : Int))), (16, .val (.int .i64 ((0 : Nat) : Int)))]) (is := [0, 1, 5, 14, 15, 16]) (R' := [.cells q0 90 [.val (.map (some q1)), .val (.map (some q2)), .val (.map (some q3)), .val (.map (some q4))], .map q1 (encM bs eB b0), .map q2 (encM bs eB b1), .map q3 (encM bs eB b2), .map q4 (encM bs (eI .i64) b3), .cells g3 47 (lf_T_Expr b5)]) (js := [1, 1, 1, 1, 1, 0]) rfl rfl ?_
  refine G.loop (fun kq a w => ∃ (rest12 : List (Str)) (i10 : Nat) (x9 : List (Str × Int)), kq = rest12.length ∧ scope_resolver_under.l1 rest12 x9 = some b ∧ b4.drop i10 = rest12 ∧ Ass Gl B 50 [(0, .val (.pointer (some ⟨q0, 0, none⟩))), (1, eL eS 1 b4), (5, .val (.pointer (some ⟨g3, 0, none⟩))), (14, eL eS 1 b4), (15, .val (.int .i64 (b4.length : Int))), (16, .val (.int .i64 (i10 : Int)))] [.cells q0 90 [.val (.map (some q1)), .val (.map (some q2)), .val (.map (some q3)), .val (.map (some q4))], .map q1 (encM bs eB b0), .map q2 (encM bs eB b1), .map q3 (encM bs eB b2), .map q4 (encM bs (eI .i64) x9), .cells g3 47 (lf_T_Expr b5)] a w) (b4.length) ?_ ?_
  ·intro hl30 a w hA
   exact ⟨b4, 0, b3, rfl, hl30, rfl, hA⟩
  ·rintro _ a w ⟨rest12, i10, x9, rfl, hl16, hd13, hA⟩
   rcases rest12 with _ | ⟨y11, rest12⟩
   ·rw [scope_resolver_under.l1_nil] at hl16
    refine G.use hl16 hA ?_
    refine G.seq fun K17 hK18 => ?_
    refine G.region ?_
    refine G.p rfl (V.bin (u := .int .i64 (i10 : Int)) (v := .int .i64 (b4.length : Int)) (r := .bool (decide ((i10 : Int) < (b4.length : Int)))) rfl rfl b_lss) ?_
    refine G.nil ?_
    refine G.norm (L' := [(0, .val (.pointer (some ⟨q0, 0, none⟩))), (1, eL eS 1 b4), (5, .val (.pointer (some ⟨g3, 0, none⟩))), (14, eL eS 1 b4), (15, .val (.int .i64 (b4.length : Int))), (16, .val (.int .i64 (i10 : Int))), (17, .val (.bool (decide ((i10 : Int) < (b4.length : Int)))))]) (is := [0, 1, 5, 14, 15, 16, 17]) (R' := [.cells q0 90 [.val (.map (some q1)), .val (.map (some q2)), .val (.map (some q3)), .val (.map (some q4))], .map q1 (encM bs eB b0), .map q2 (encM bs eB b1), .map q3 (encM bs eB b2), .map q4 (encM bs (eI .i64) x9), .cells g3 47 (lf_T_Expr b5)]) (js := [0, 0, 0, 0, 0, 0]) rfl rfl ?_
    refine G.next_ hK18 ?_
    refine G.seq fun K19 hK20 => ?_
    refine G.no rfl (rng_end hd13) ?_
    refine G.exit ?_
    refine G.thn_exit ?_
    refine G.thn_exit ?_
    refine G.inB_eq ?_
    refine G.norm (L' := [(0, .val (.pointer (some ⟨q0, 0, none⟩))), (1, eL eS 1 b4), (5, .val (.pointer (some ⟨g3, 0, none⟩)))]) (is := [0, 1, 5]) (R' := [.cells q0 90 [.val (.map (some q1)), .val (.map (some q2)), .val (.map (some q3)), .val (.map (some q4))], .map q1 (encM bs eB b0), .map q2 (encM bs eB b1), .map q3 (encM bs eB b2), .map q4 (encM bs (eI .i64) x9), .cells g3 47 (lf_T_Expr b5)]) (js := [0, 0, 0, 0, 0, 0]) rfl rfl ?_
    exact G.finE fun hb a w hA => by subst hb; exact hA
   ·rw [scope_resolver_under.l1_cons] at hl16
    refine G.use hl16 hA ?_
    refine G.seq fun K21 hK22 => ?_
    refine G.region ?_
    refine G.p rfl (V.bin (u := .int .i64 (i10 : Int)) (v := .int .i64 (b4.length : Int)) (r := .bool (decide ((i10 : Int) < (b4.length : Int)))) rfl rfl b_lss) ?_
    refine G.nil ?_
    refine G.norm (L' := [(0, .val (.pointer (some ⟨q0, 0, none⟩))), (1, eL eS 1 b4), (5, .val (.pointer (some ⟨g3, 0, none⟩))), (14, eL eS 1 b4), (15, .val (.int .i64 (b4.length : Int))), (16, .val (.int .i64 (i10 : Int))), (17, .val (.bool (decide ((i10 : Int) < (b4.length : Int)))))]) (is := [0, 1, 5, 14, 15, 16, 17]) (R' := [.cells q0 90 [.val (.map (some q1)), .val (.map (some q2)), .val (.map (some q3)), .val (.map (some q4))], .map q1 (encM bs eB b0), .map q2 (encM bs eB b1), .map q3 (encM bs eB b2), .map q4 (encM bs (eI .i64) x9), .cells g3 47 (lf_T_Expr b5)]) (js := [0, 0, 0, 0, 0, 0]) rfl rfl ?_
    refine G.next_ hK22 ?_
    refine G.seq fun K23 hK24 => ?_
    refine G.yes rfl (rng_more hd13) ?_
    refine G.skip ?_
    refine G.next_ hK24 ?_
    refine G.seq fun K25 hK26 => ?_
    refine G.block ?_
    refine G.seq fun K27 hK28 => ?_
    refine G.region ?_
    refine G.p rfl (V.at_sl (k := i10) rfl rfl Try.runUnderlying30 Try.sizeOf9 (map_at (rng_at hd13))) ?_
    refine G.q rfl (V.load_ptr (d := .val (bs y11)) rfl Try.isAgg9 rfl) ?_
    refine G.p rfl (V.assign rfl) ?_
    refine G.nil ?_
    refine G.norm (L' := [(0, .val (.pointer (some ⟨q0, 0, none⟩))), (1, eL eS 1 b4), (5, .val (.pointer (some ⟨g3, 0, none⟩))), (9, .val (bs y11)), (14, eL eS 1 b4), (15, .val (.int .i64 (b4.length : Int))), (16, .val (.int .i64 (i10 : Int)))]) (is := [0, 1, 5, 9, 14, 15, 16]) (R' := [.cells q0 90 [.val (.map (some q1)), .val (.map (some q2)), .val (.map (some q3)), .val (.map (some q4))], .map q1 (encM bs eB b0), .map q2 (encM bs eB b1), .map q3 (encM bs eB b2), .map q4 (encM bs (eI .i64) x9), .cells g3 47 (lf_T_Expr b5)]) (js := [0, 0, 0, 0, 0, 0]) rfl rfl ?_
    refine G.next_ hK28 ?_
    refine G.region ?_
    refine G.p rfl (V.move rfl) ?_
    refine G.p rfl (V.nilCheck rfl) ?_
    refine G.p rfl (V.fieldAddr (o' := 3) rfl Try.runUnderlying90 rfl Try.sizeOf88 rfl) ?_
    refine G.q rfl (V.load_cell (i := 0) (ds := [.val (.map (some q1)), .val (.map (some q2)), .val (.map (some q3)), .val (.map (some q4))]) (d := .val (.map (some q4))) rfl rfl Try.isAgg88 rfl rfl) ?_
    refine G.p rfl (V.move rfl) ?_
    refine G.q rfl (V.lookup (enc := (eI .i64)) (k := y11) (Keys.str Try.underlying9) Try.runUnderlying88 Try.zeroValue3 (0 : Int) (fun _ _ => RdV.val.2 rfl) rfl rfl (i := 4) rfl) ?_
    refine G.p rfl (V.bin (u := .int .i64 ((mget x9 y11).getD (0 : Int))) (v := .int .i64 1) (r := .int .i64 (addI ((mget x9 y11).getD (0 : Int)) 1)) rfl rfl b_add) ?_
    refine G.opn (O.mapUpdate (k := y11) (u := addI ((mget x9 y11).getD (0 : Int)) 1) (Keys.str Try.underlying9) Try.runUnderlying88 rfl rfl (.of rfl) (i := 4) rfl) fun _ => ?_
    refine G.nil ?_
    refine G.norm (L' := [(0, .val (.pointer (some ⟨q0, 0, none⟩))), (1, eL eS 1 b4), (5, .val (.pointer (some ⟨g3, 0, none⟩))), (14, eL eS 1 b4), (15, .val (.int .i64 (b4.length : Int))), (16, .val (.int .i64 (i10 : Int)))]) (is := [0, 1, 5, 14, 15, 16]) (R' := [.cells q0 90 [.val (.map (some q1)), .val (.map (some q2)), .val (.map (some q3)), .val (.map (some q4))], .map q1 (encM bs eB b0), .map q2 (encM bs eB b1), .map q3 (encM bs eB b2), .map q4 (encM bs (eI .i64) (mput x9 y11 (addI ((mget x9 y11).getD (0 : Int)) 1))), .cells g3 47 (lf_T_Expr b5)]) (js := [0, 0, 0, 0, 0, 0]) rfl rfl ?_
    refine G.inB ?_
    refine G.next_ hK26 ?_
    refine G.region ?_
    refine G.p rfl (V.incr (i := i10) (N := b4.length) rfl rfl (rng_lt hd13) (hN8)) ?_
    refine G.p rfl (V.move rfl) ?_
    refine G.nil ?_
    refine G.norm (L' := [(0, .val (.pointer (some ⟨q0, 0, none⟩))), (1, eL eS 1 b4), (5, .val (.pointer (some ⟨g3, 0, none⟩))), (14, eL eS 1 b4), (15, .val (.int .i64 (b4.length : Int))), (16, .val (.int .i64 ((i10 + 1 : Nat) : Int)))]) (is := [0, 1, 5, 14, 15, 16]) (R' := [.cells q0 90 [.val (.map (some q1)), .val (.map (some q2)), .val (.map (some q3)), .val (.map (some q4))], .map q1 (encM bs eB b0), .map q2 (encM bs eB b1), .map q3 (encM bs eB b2), .map q4 (encM bs (eI .i64) (mput x9 y11 (addI ((mget x9 y11).getD (0 : Int)) 1))), .cells g3 47 (lf_T_Expr b5)]) (js := [0, 0, 0, 0, 0, 0]) rfl rfl ?_
    refine G.again ?_
    intro hl29 a w hA
    exact ⟨_, Nat.lt_succ_self _, rest12, i10 + 1, (mput x9 y11 (addI ((mget x9 y11).getD (0 : Int)) 1)), rfl, hl29, rng_next hd13, hA⟩
 ·rintro b31 hb a w hA hF32
  refine G.use hF32 hA ?_
  refine G.next_ hK5 ?_
  refine G.seq fun K33 hK34 => ?_
  refine G.region ?_
  refine G.p rfl (V.move rfl) ?_
  refine G.q rfl (V.load_cellN (i := 5) (ds := (lf_T_Expr b5)) (c1 := (lf_T_Expr b5)) rfl rfl Try.isAgg47 Try.sizeOf47 rfl rfl rfl) ?_
  refine G.bind fun r35 hr36 => ?_
  refine G.op rfl (O.call (xs := [.tmp 29, .tmp 30]) (is := [0, 0, 0, 0, 0]) (Rp := [.cells q0 90 [.val (.map (some q1)), .val (.map (some q2)), .val (.map (some q3)), .val (.map (some q4))], .map q1 (encM bs eB b0), .map q2 (encM bs eB b1), .map q3 (encM bs eB b2), .map q4 (encM bs (eI .i64) b31)]) (Rr := [.cells g3 47 (lf_T_Expr b5)]) (hrec_scope_resolver_visit hr36) (.cons (.of rfl) (.cons (.of rfl) .nil)) Try.call32 rfl) fun x37 => ?_
  refine G.p rfl (V.move rfl) ?_
  refine G.p rfl (V.extract (ds := [.val (.int .i64 r35.1), .val (.bool r35.2.1)]) (d := .val (.int .i64 r35.1)) rfl rfl) ?_
  refine G.p rfl (V.extract (ds := [.val (.int .i64 r35.1), .val (.bool r35.2.1)]) (d := .val (.bool r35.2.1)) rfl rfl) ?_
  refine G.p rfl (V.assign rfl) ?_
  refine G.p rfl (V.assign rfl) ?_
  refine G.nil ?_
  refine G.norm (L' := [(0, .val (.pointer (some ⟨q0, 0, none⟩))), (1, eL eS 1 b4), (10, .val (.int .i64 r35.1)), (11, .val (.bool r35.2.1))]) (is := [0, 1, 10, 11]) (R' := [.cells q0 90 [.val (.map (some q1)), .val (.map (some q2)), .val (.map (some q3)), .val (.map (some q4))], .map q1 (encM bs eB b0), .map q2 (encM bs eB b1), .map q3 (encM bs eB b2), .map q4 (encM bs (eI .i64) r35.2.2)]) (js := [0, 0, 0, 0, 0]) rfl rfl ?_
  refine G.next_ hK34 ?_
  refine G.seq fun K38 hK39 => ?_
  refine G.seq fun K40 hK41 => ?_
  refine G.region ?_
  refine G.p rfl (V.move rfl) ?_
  refine G.lenb (enc := eS) (xs := b4) (sz := 1) (x := .tmp 34) (.of rfl) fun hN42 => ?_
  refine G.p rfl (V.len_sl (enc := eS) (xs := b4) (sz := 1) (.of rfl) Try.runUnderlying30) ?_
  refine G.p rfl (V.move rfl) ?_
  refine G.nil ?_
  refine G.norm (L' := [(0, .val (.pointer (some ⟨q0, 0, none⟩))), (10, .val (.int .i64 r35.1)), (11, .val (.bool r35.2.1)), (34, eL eS 1 b4), (35, .val (.int .i64 (b4.length : Int))), (36, .val (.int .i64 0))]) (is := [0, 10, 11, 34, 35, 36]) (R' := [.cells q0 90 [.val (.map (some q1)), .val (.map (some q2)), .val (.map (some q3)), .val (.map (some q4))], .map q1 (encM bs eB b0), .map q2 (encM bs eB b1), .map q3 (encM bs eB b2), .map q4 (encM bs (eI .i64) r35.2.2)]) (js := [0, 0, 0, 0, 0]) rfl rfl ?_
  refine G.next_ hK41 ?_
  refine G.join (E := fun b a w => Ass Gl B 50 [(10, .val (.int .i64 r35.1)), (11, .val (.bool r35.2.1))] [.cells q0 90 [.val (.map (some q1)), .val (.map (some q2)), .val (.map (some q3)), .val (.map (some q4))], .map q1 (encM bs eB b0), .map q2 (encM bs eB b1), .map q3 (encM bs eB b2), .map q4 (encM bs (eI .i64) b)] a w) ?_ ?_
  ·intro b hF49
   refine G.block ?_
   refine G.norm (L' := [(0, .val (.pointer (some ⟨q0, 0, none⟩))), (10, .val (.int .i64 r35.1)), (11, .val (.bool r35.2.1)), (34, eL eS 1 b4), (35, .val (.int .i64 (b4.length : Int))), (36, .val (.int .i64 ((0 : Nat) : Int)))]) (is := [0, 10, 11, 34, 35, 36]) (R' := [.cells q0 90 [.val (.map (some q1)), .val (.map (some q2)), .val (.map (some q3)), .val (.map (some q4))], .map q1 (encM bs eB b0), .map q2 (encM bs eB b1), .map q3 (encM bs eB b2), .map q4 (encM bs (eI .i64) r35.2.2)]) (js := [0, 0, 0, 0, 0]) rfl rfl ?_
   refine G.loop (fun kq a w => ∃ (rest46 : List (Str)) (i44 : Nat) (x43 : List (Str × Int)), kq = rest46.length ∧ scope_resolver_under.l2 rest46 x43 = some b ∧ b4.drop i44 = rest46 ∧ Ass Gl B 50 [(0, .val (.pointer (some ⟨q0, 0, none⟩))), (10, .val (.int .i64 r35.1)), (11, .val (.bool r35.2.1)), (34, eL eS 1 b4), (35, .val (.int .i64 (b4.length : Int))), (36, .val (.int .i64 (i44 : Int)))] [.cells q0 90 [.val (.map (some q1)), .val (.map (some q2)), .val (.map (some q3)), .val (.map (some q4))], .map q1 (encM bs eB b0), .map q2 (encM bs eB b1), .map q3 (encM bs eB b2), .map q4 (encM bs (eI .i64) x43)] a w) (b4.length) ?_ ?_
   ·intro hl64 a w hA
    exact ⟨b4, 0, r35.2.2, rfl, hl64, rfl, hA⟩
   ·rintro _ a w ⟨rest46, i44, x43, rfl, hl50, hd47, hA⟩
    rcases rest46 with _ | ⟨y45, rest46⟩
    ·rw [scope_resolver_under.l2_nil] at hl50
     refine G.use hl50 hA ?_
     refine G.seq fun K51 hK52 => ?_
     refine G.region ?_
     refine G.p rfl (V.bin (u := .int .i64 (i44 : Int)) (v := .int .i64 (b4.length : Int)) (r := .bool (decide ((i44 : Int) < (b4.length : Int)))) rfl rfl b_lss) ?_
     refine G.nil ?_
     refine G.norm (L' := [(0, .val (.pointer (some ⟨q0, 0, none⟩))), (10, .val (.int .i64 r35.1)), (11, .val (.bool r35.2.1)), (34, eL eS 1 b4), (35, .val (.int .i64 (b4.length : Int))), (36, .val (.int .i64 (i44 : Int))), (37, .val (.bool (decide ((i44 : Int) < (b4.length : Int)))))]) (is := [0, 10, 11, 34, 35, 36, 37]) (R' := [.cells q0 90 [.val (.map (some q1)), .val (.map (some q2)), .val (.map (some q3)), .val (.map (some q4))], .map q1 (encM bs eB b0), .map q2 (encM bs eB b1), .map q3 (encM bs eB b2), .map q4 (encM bs (eI .i64) x43)]) (js := [0, 0, 0, 0, 0]) rfl rfl ?_
     refine G.next_ hK52 ?_
     refine G.seq fun K53 hK54 => ?_
     refine G.no rfl (rng_end hd47) ?_
     refine G.exit ?_
     refine G.thn_exit ?_
     refine G.thn_exit ?_
     refine G.inB_eq ?_
     refine G.norm (L' := [(10, .val (.int .i64 r35.1)), (11, .val (.bool r35.2.1))]) (is := [10, 11]) (R' := [.cells q0 90 [.val (.map (some q1)), .val (.map (some q2)), .val (.map (some q3)), .val (.map (some q4))], .map q1 (encM bs eB b0), .map q2 (encM bs eB b1), .map q3 (encM bs eB b2), .map q4 (encM bs (eI .i64) x43)]) (js := [0, 0, 0, 0, 0]) rfl rfl ?_
     exact G.finE fun hb a w hA => by subst hb; exact hA
    ·rw [scope_resolver_under.l2_cons] at hl50
     refine G.use hl50 hA ?_
     refine G.seq fun K55 hK56 => ?_
     refine G.region ?_
     refine G.p rfl (V.bin (u := .int .i64 (i44 : Int)) (v := .int .i64 (b4.length : Int)) (r := .bool (decide ((i44 : Int) < (b4.length : Int)))) rfl rfl b_lss) ?_
     refine G.nil ?_
     refine G.norm (L' := [(0, .val (.pointer (some ⟨q0, 0, none⟩))), (10, .val (.int .i64 r35.1)), (11, .val (.bool r35.2.1)), (34, eL eS 1 b4), (35, .val (.int .i64 (b4.length : Int))), (36, .val (.int .i64 (i44 : Int))), (37, .val (.bool (decide ((i44 : Int) < (b4.length : Int)))))]) (is := [0, 10, 11, 34, 35, 36, 37]) (R' := [.cells q0 90 [.val (.map (some q1)), .val (.map (some q2)), .val (.map (some q3)), .val (.map (some q4))], .map q1 (encM bs eB b0), .map q2 (encM bs eB b1), .map q3 (encM bs eB b2), .map q4 (encM bs (eI .i64) x43)]) (js := [0, 0, 0, 0, 0]) rfl rfl ?_
     refine G.next_ hK56 ?_
     refine G.seq fun K57 hK58 => ?_
     refine G.yes rfl (rng_more hd47) ?_
     refine G.skip ?_
     refine G.next_ hK58 ?_
     refine G.seq fun K59 hK60 => ?_
     refine G.block ?_
     refine G.seq fun K61 hK62 => ?_
     refine G.region ?_
     refine G.p rfl (V.at_sl (k := i44) rfl rfl Try.runUnderlying30 Try.sizeOf9 (map_at (rng_at hd47))) ?_
     refine G.q rfl (V.load_ptr (d := .val (bs y45)) rfl Try.isAgg9 rfl) ?_
     refine G.p rfl (V.assign rfl) ?_
     refine G.nil ?_
     refine G.norm (L' := [(0, .val (.pointer (some ⟨q0, 0, none⟩))), (10, .val (.int .i64 r35.1)), (11, .val (.bool r35.2.1)), (13, .val (bs y45)), (34, eL eS 1 b4), (35, .val (.int .i64 (b4.length : Int))), (36, .val (.int .i64 (i44 : Int)))]) (is := [0, 10, 11, 13, 34, 35, 36]) (R' := [.cells q0 90 [.val (.map (some q1)), .val (.map (some q2)), .val (.map (some q3)), .val (.map (some q4))], .map q1 (encM bs eB b0), .map q2 (encM bs eB b1), .map q3 (encM bs eB b2), .map q4 (encM bs (eI .i64) x43)]) (js := [0, 0, 0, 0, 0]) rfl rfl ?_
     refine G.next_ hK62 ?_
     refine G.region ?_
     refine G.p rfl (V.move rfl) ?_
     refine G.p rfl (V.nilCheck rfl) ?_
     refine G.p rfl (V.fieldAddr (o' := 3) rfl Try.runUnderlying90 rfl Try.sizeOf88 rfl) ?_
     refine G.q rfl (V.load_cell (i := 0) (ds := [.val (.map (some q1)), .val (.map (some q2)), .val (.map (some q3)), .val (.map (some q4))]) (d := .val (.map (some q4))) rfl rfl Try.isAgg88 rfl rfl) ?_
     refine G.p rfl (V.move rfl) ?_
     refine G.q rfl (V.lookup (enc := (eI .i64)) (k := y45) (Keys.str Try.underlying9) Try.runUnderlying88 Try.zeroValue3 (0 : Int) (fun _ _ => RdV.val.2 rfl) rfl rfl (i := 4) rfl) ?_
     refine G.p rfl (V.bin (u := .int .i64 ((mget x43 y45).getD (0 : Int))) (v := .int .i64 1) (r := .int .i64 (subI ((mget x43 y45).getD (0 : Int)) 1)) rfl rfl b_sub) ?_
     refine G.opn (O.mapUpdate (k := y45) (u := subI ((mget x43 y45).getD (0 : Int)) 1) (Keys.str Try.underlying9) Try.runUnderlying88 rfl rfl (.of rfl) (i := 4) rfl) fun _ => ?_
     refine G.nil ?_
     refine G.norm (L' := [(0, .val (.pointer (some ⟨q0, 0, none⟩))), (10, .val (.int .i64 r35.1)), (11, .val (.bool r35.2.1)), (34, eL eS 1 b4), (35, .val (.int .i64 (b4.length : Int))), (36, .val (.int .i64 (i44 : Int)))]) (is := [0, 10, 11, 34, 35, 36]) (R' := [.cells q0 90 [.val (.map (some q1)), .val (.map (some q2)), .val (.map (some q3)), .val (.map (some q4))], .map q1 (encM bs eB b0), .map q2 (encM bs eB b1), .map q3 (encM bs eB b2), .map q4 (encM bs (eI .i64) (mput x43 y45 (subI ((mget x43 y45).getD (0 : Int)) 1)))]) (js := [0, 0, 0, 0, 0]) rfl rfl ?_
     refine G.inB ?_
     refine G.next_ hK60 ?_
     refine G.region ?_
     refine G.p rfl (V.incr (i := i44) (N := b4.length) rfl rfl (rng_lt hd47) (hN42)) ?_
     refine G.p rfl (V.move rfl) ?_
     refine G.nil ?_
     refine G.norm (L' := [(0, .val (.pointer (some ⟨q0, 0, none⟩))), (10, .val (.int .i64 r35.1)), (11, .val (.bool r35.2.1)), (34, eL eS 1 b4), (35, .val (.int .i64 (b4.length : Int))), (36, .val (.int .i64 ((i44 + 1 : Nat) : Int)))]) (is := [0, 10, 11, 34, 35, 36]) (R' := [.cells q0 90 [.val (.map (some q1)), .val (.map (some q2)), .val (.map (some q3)), .val (.map (some q4))], .map q1 (encM bs eB b0), .map q2 (encM bs eB b1), .map q3 (encM bs eB b2), .map q4 (encM bs (eI .i64) (mput x43 y45 (subI ((mget x43 y45).getD (0 : Int)) 1)))]) (js := [0, 0, 0, 0, 0]) rfl rfl ?_
     refine G.again ?_
     intro hl63 a w hA
     exact ⟨_, Nat.lt_succ_self _, rest46, i44 + 1, (mput x43 y45 (subI ((mget x43 y45).getD (0 : Int)) 1)), rfl, hl63, rng_next hd47, hA⟩
  ·rintro b65 hb a w hA hF66
   refine G.use hF66 hA ?_
   refine G.next_ hK39 ?_
   refine G.seq fun K67 hK68 => ?_
   refine G.region ?_
   refine G.p rfl (V.move rfl) ?_
   refine G.p rfl (V.move rfl) ?_
   refine G.p rfl (V.assign rfl) ?_
   refine G.p rfl (V.assign rfl) ?_
   refine G.nil ?_
   refine G.norm (L' := [(6, .val (.int .i64 r35.1)), (7, .val (.bool r35.2.1))]) (is := [6, 7]) (R' := [.cells q0 90 [.val (.map (some q1)), .val (.map (some q2)), .val (.map (some q3)), .val (.map (some q4))], .map q1 (encM bs eB b0), .map q2 (encM bs eB b1), .map q3 (encM bs eB b2), .map q4 (encM bs (eI .i64) b65)]) (js := [0, 0, 0, 0, 0]) rfl rfl ?_
   refine G.next_ hK68 ?_
   refine G.ret ?_
   refine G.fin_ fun hF69 => ?_
   obtain rfl := Option.some.inj hF69
   exact G.ret2 Try.results39 () (is := [0, 0, 0, 0, 0]) rfl (.of rfl) (.of rfl) rfl
theorem scope_resolver_visit.all_ok (k : Nat) : scope_resolver_visit.Spec ((scope_resolver_visit.all k).1) ∧ scope_resolver_under.Spec ((scope_resolver_visit.all k).2) := by
  induction k with
  | zero => exact ⟨by intro b0 b1 b2 b3 b4 q0 q1 q2 q3 q4 out hp; simp [scope_resolver_visit.all] at hp, by intro b0 b1 b2 b3 b4 b5 q0 q1 q2 q3 q4 out hp; simp [scope_resolver_visit.all] at hp⟩
  | succ k ih => exact ⟨scope_resolver_visit.body_ok ih.1 ih.2 k , scope_resolver_under.body_ok ih.1 ih.2 k ⟩
def scope_resolver_visit (k : Nat) : (List (Str × Bool)) → (List (Str × Bool)) → (List (Str × Bool)) → (List (Str × Int)) → T_Expr → Option (Int × Bool × (List (Str × Int))) := (scope_resolver_visit.all k).1
theorem scope_resolver_visit_ok (k : Nat) : scope_resolver_visit.Spec (scope_resolver_visit k) := (scope_resolver_visit.all_ok k).1
def scope_resolver_under (k : Nat) : (List (Str × Bool)) → (List (Str × Bool)) → (List (Str × Bool)) → (List (Str × Int)) → (List Str) → T_Expr → Option (Int × Bool × (List (Str × Int))) := (scope_resolver_visit.all k).2
theorem scope_resolver_under_ok (k : Nat) : scope_resolver_under.Spec (scope_resolver_under k) := (scope_resolver_visit.all_ok k).2
theorem scope_resolver_visit_succ (k : Nat) (b0 : List (Str × Bool)) (b1 : List (Str × Bool)) (b2 : List (Str × Bool)) (b3 : List (Str × Int)) (b4 : T_Expr) : scope_resolver_visit (k + 1) b0 b1 b2 b3 b4 = scope_resolver_visit.body (scope_resolver_visit k) (scope_resolver_under k) k b0 b1 b2 b3 b4 := rfl
theorem scope_resolver_visit_zero (b0 : List (Str × Bool)) (b1 : List (Str × Bool)) (b2 : List (Str × Bool)) (b3 : List (Str × Int)) (b4 : T_Expr) : scope_resolver_visit 0 b0 b1 b2 b3 b4 = none := rfl
theorem scope_resolver_under_succ (k : Nat) (b0 : List (Str × Bool)) (b1 : List (Str × Bool)) (b2 : List (Str × Bool)) (b3 : List (Str × Int)) (b4 : List Str) (b5 : T_Expr) : scope_resolver_under (k + 1) b0 b1 b2 b3 b4 b5 = scope_resolver_under.body (scope_resolver_visit k) (scope_resolver_under k) k b0 b1 b2 b3 b4 b5 := rfl
theorem scope_resolver_under_zero (b0 : List (Str × Bool)) (b1 : List (Str × Bool)) (b2 : List (Str × Bool)) (b3 : List (Str × Int)) (b4 : List Str) (b5 : T_Expr) : scope_resolver_under 0 b0 b1 b2 b3 b4 b5 = none := rfl
/-! (*roadstead/scope.resolver).expr -/
def scope_resolver_expr.l1  : List (Str) → (List (Str × Int)) → Option (List (Str × Int))
  | [], x12 => some x12
  | y14 :: rest15, x12 => scope_resolver_expr.l1 rest15 (mput x12 y14 (addI ((mget x12 y14).getD (0 : Int)) 1))

theorem scope_resolver_expr.l1_nil  {x12 : List (Str × Int)} : scope_resolver_expr.l1  [] x12 = some x12 := rfl
theorem scope_resolver_expr.l1_cons  {y14 : Str} {rest15 : List (Str)} {x12 : List (Str × Int)} : scope_resolver_expr.l1  (y14 :: rest15) x12 = scope_resolver_expr.l1 rest15 (mput x12 y14 (addI ((mget x12 y14).getD (0 : Int)) 1)) := rfl
def scope_resolver_expr.Spec (F : (List (Str × Bool)) → (List (Str × Bool)) → (List (Str × Bool)) → (List Str) → T_Expr → Option (Int × Bool × (List (Str × Int)))) : Prop := ∀ {b0 : List (Str × Bool)} {b1 : List (Str × Bool)} {b2 : List (Str × Bool)} {b3 : List Str} {b4 : T_Expr} {q0 : Nat} {q1 : Nat} {q2 : Nat} {q3 : Nat} {out : Int × Bool × (List (Str × Int))}, F b0 b1 b2 b3 b4 = some out → Ct Gl Try.prog 20 [.val (.pointer (some ⟨q0, 0, none⟩)), eL eS 1 b3, .agg (lf_T_Expr b4)] [.cells q0 90 [.val (.map (some q1)), .val (.map (some q2)), .val (.map (some q3)), .val (.map none)], .map q1 (encM bs eB b0), .map q2 (encM bs eB b1), .map q3 (encM bs eB b2)] (fun x : Nat => .tup [.val (.int .i64 out.1), .val (.bool out.2.1)]) (fun x : Nat => [.cells q0 90 [.val (.map (some q1)), .val (.map (some q2)), .val (.map (some q3)), .val (.map (some x))], .map q1 (encM bs eB b0), .map q2 (encM bs eB b1), .map q3 (encM bs eB b2), .map x (encM bs (eI .i64) out.2.2)])
def scope_resolver_expr (k : Nat) (b0 : List (Str × Bool)) (b1 : List (Str × Bool)) (b2 : List (Str × Bool)) (b3 : List Str) (b4 : T_Expr) : Option (Int × Bool × (List (Str × Int))) := (scope_resolver_expr.l1 b3 ([] : List (Str × Int))).bind fun b34 => (scope_resolver_visit k b0 b1 b2 b34 b4).bind fun r38 => some (r38.1, r38.2.1, r38.2.2)
set_option maxRecDepth 100000 in
theorem scope_resolver_expr_ok (k : Nat) : scope_resolver_expr.Spec (scope_resolver_expr k) := by
 intro b0 b1 b2 b3 b4 q0 q1 q2 q3 out hp
 refine ct_of_G (nt := 33) Try.func20 rfl Try.ntmps20 rfl (fun B => ?_) hp
 unfold scope_resolver_expr
 refine G.seq fun K1 hK2 => ?_
 refine G.region ?_
 refine G.op rfl (O.box (.of rfl) (OneC.agg (List.forall_mem_cons.2 ⟨(.val rfl), (List.forall_mem_cons.2 ⟨(.val rfl), (List.forall_mem_cons.2 ⟨(.val rfl), (List.forall_mem_cons.2 ⟨.sl, (List.forall_mem_cons.2 ⟨.sl, (List.forall_mem_cons.2 ⟨.sl, (List.forall_mem_cons.2 ⟨.sl, (List.forall_mem_cons.2 ⟨(.val rfl), (List.forall_mem_nil _)⟩)⟩)⟩)⟩)⟩)⟩)⟩)⟩))) fun g3 => ?_
 refine G.p rfl (V.assign rfl) ?_
 refine G.p rfl (V.assign rfl) ?_
 refine G.nil ?_
 refine G.norm (L' := [(0, .val (.pointer (some ⟨q0, 0, none⟩))), (1, eL eS 1 b3), (5, .val (.pointer (some ⟨g3, 0, none⟩)))]) (is := [0, 1, 5]) (R' := [.cells g3 47 (lf_T_Expr b4), .cells q0 90 [.val (.map (some q1)), .val (.map (some q2)), .val (.map (some q3)), .val (.map none)], .map q1 (encM bs eB b0), .map q2 (encM bs eB b1), .map q3 (encM bs eB b2)]) (js := [0, 0, 0, 0, 0]) rfl rfl ?_
 refine G.next_ hK2 ?_
 refine G.seq fun K4 hK5 => ?_
 refine G.region ?_
 refine G.p rfl (V.move rfl) ?_
 refine G.op rfl (O.makeMap (κ := Str) (ν := Int) (kv := bs) (enc := (eI .i64))) fun g6 => ?_
 refine G.p rfl (V.nilCheck rfl) ?_
 refine G.p rfl (V.fieldAddr (o' := 3) rfl Try.runUnderlying90 rfl Try.sizeOf88 rfl) ?_
 refine G.opn (O.store (i := 2) (o := 3) (ds := [.val (.map (some q1)), .val (.map (some q2)), .val (.map (some q3)), .val (.map none)]) rfl (.of rfl) rfl (OneC.leaf (.val rfl)) Try.sizeOf88 rfl rfl) fun _ => ?_
 refine G.nil ?_
 refine G.norm (L' := [(0, .val (.pointer (some ⟨q0, 0, none⟩))), (1, eL eS 1 b3), (5, .val (.pointer (some ⟨g3, 0, none⟩)))]) (is := [0, 1, 5]) (R' := [.map g6 (encM bs (eI .i64) ([] : List (Str × Int))), .cells g3 47 (lf_T_Expr b4), .cells q0 90 [.val (.map (some q1)), .val (.map (some q2)), .val (.map (some q3)), .val (.map (some g6))], .map q1 (encM bs eB b0), .map q2 (encM bs eB b1), .map q3 (encM bs eB b2)]) (js := [0, 0, 0, 0, 0, 0]) rfl rfl ?_
 refine G.next_ hK5 ?_
 refine G.seq fun K7 hK8 => ?_
 refine G.seq fun K9 hK10 => ?_
 refine G.region ?_
 refine G.p rfl (V.move rfl) ?_
 refine G.lenb (enc := eS) (xs := b3) (sz := 1) (x := .tmp 14) (.of rfl) fun hN11 => ?_
 refine G.p rfl (V.len_sl (enc := eS) (xs := b3) (sz := 1) (.of rfl) Try.runUnderlying30) ?_
 refine G.p rfl (V.move rfl) ?_
 refine G.nil ?_
 refine G.norm (L' := [(0, .val (.pointer (some ⟨q0, 0, none⟩))), (5, .val (.pointer (some ⟨g3, 0, none⟩))), (14, eL eS 1 b3), (15, .val (.int .i64 (b3.length : Int))), (16, .val (.int .i64 0))]) (is := [0, 5, 14, 15, 16]) (R' := [.map g6 (encM bs (eI .i64) ([] : List (Str × Int))), .cells g3 47 (lf_T_Expr b4), .cells q0 90 [.val (.map (some q1)), .val (.map (some q2)), .val (.map (some q3)), .val (.map (some g6))], .map q1 (encM bs eB b0), .map q2 (encM bs eB b1), .map q3 (encM bs eB b2)]) (js := [0, 0, 0, 0, 0, 0]) rfl rfl ?_
 refine G.next_ hK10 ?_
 refine G.join (E := fun b a w => Ass Gl B 33 [(0, .val (.pointer (some ⟨q0, 0, none⟩))), (5, .val (.pointer (some ⟨g3, 0, none⟩)))] [.cells q0 90 [.val (.map (some q1)), .val (.map (some q2)), .val (.map (some q3)), .val (.map (some g6))], .map q1 (encM bs eB b0), .map q2 (encM bs eB b1), .map q3 (encM bs eB b2), .map g6 (encM bs (eI .i64) b), .cells g3 47 (lf_T_Expr b4)] a w) ?_ ?_
 ·intro b hF18
  refine G.block ?_
  refine G.norm (L' := [(0, .val (.pointer (some ⟨q0, 0, none⟩))), (5, .val (.pointer (some ⟨g3, 0, none⟩))), (14, eL eS 1 b3), (15, .val (.int .i64 (b3.length : Int))), (16, .val (.int .i64 ((0 : Nat) : Int)))]) (is := [0, 5, 14, 15, 16]) (R' := [.cells q0 90 [.val (.map (some q1)), .val (.map (some q2)), .val (.map (some q3)), .val (.map (some g6))], .map q1 (encM bs eB b0), .map q2 (encM bs eB b1), .map q3 (encM bs eB b2), .map g6 (encM bs (eI .i64) ([] : List (Str × Int))), .cells g3 47 (lf_T_Expr b4)]) (js := [2, 2, 2, 2, 0, 0]) rfl rfl ?_
  refine G.loop (fun kq a w => ∃ (rest15 : List (Str)) (i13 : Nat) (x12 : List (Str × Int)), kq = rest15.length ∧ scope_resolver_expr.l1 rest15 x12 = some b ∧ b3.drop i13 = rest15 ∧ Ass Gl B 33 [(0, .val (.pointer (some ⟨q0, 0, none⟩))), (5, .val (.pointer (some ⟨g3, 0, none⟩))), (14, eL eS 1 b3), (15, .val (.int .i64 (b3.length : Int))), (16, .val (.int .i64 (i13 : Int)))] [.cells q0 90 [.val (.map (some q1)), .val (.map (some q2)), .val (.map (some q3)), .val (.map (some g6))], .map q1 (encM bs eB b0), .map q2 (encM bs eB b1), .map q3 (encM bs eB b2), .map g6 (encM bs (eI .i64) x12), .cells g3 47 (lf_T_Expr b4)] a w) (b3.length) ?_ ?_
  ·intro hl33 a w hA
   exact ⟨b3, 0, ([] : List (Str × Int)), rfl, hl33, rfl, hA⟩
  ·rintro _ a w ⟨rest15, i13, x12, rfl, hl19, hd16, hA⟩
   rcases rest15 with _ | ⟨y14, rest15⟩
   ·rw [scope_resolver_expr.l1_nil] at hl19
    refine G.use hl19 hA ?_
    refine G.seq fun K20 hK21 => ?_
    refine G.region ?_
    refine G.p rfl (V.bin (u := .int .i64 (i13 : Int)) (v := .int .i64 (b3.length : Int)) (r := .bool (decide ((i13 : Int) < (b3.length : Int)))) rfl rfl b_lss) ?_
    refine G.nil ?_
    refine G.norm (L' := [(0, .val (.pointer (some ⟨q0, 0, none⟩))), (5, .val (.pointer (some ⟨g3, 0, none⟩))), (14, eL eS 1 b3), (15, .val (.int .i64 (b3.length : Int))), (16, .val (.int .i64 (i13 : Int))), (17, .val (.bool (decide ((i13 : Int) < (b3.length : Int)))))]) (is := [0, 5, 14, 15, 16, 17]) (R' := [.cells q0 90 [.val (.map (some q1)), .val (.map (some q2)), .val (.map (some q3)), .val (.map (some g6))], .map q1 (encM bs eB b0), .map q2 (encM bs eB b1), .map q3 (encM bs eB b2), .map g6 (encM bs (eI .i64) x12), .cells g3 47 (lf_T_Expr b4)]) (js := [0, 0, 0, 0, 0, 0]) rfl rfl ?_
    refine G.next_ hK21 ?_
    refine G.seq fun K22 hK23 => ?_
    refine G.no rfl (rng_end hd16) ?_
    refine G.exit ?_
    refine G.thn_exit ?_
    refine G.thn_exit ?_
    refine G.inB_eq ?_
    refine G.norm (L' := [(0, .val (.pointer (some ⟨q0, 0, none⟩))), (5, .val (.pointer (some ⟨g3, 0, none⟩)))]) (is := [0, 5]) (R' := [.cells q0 90 [.val (.map (some q1)), .val (.map (some q2)), .val (.map (some q3)), .val (.map (some g6))], .map q1 (encM bs eB b0), .map q2 (encM bs eB b1), .map q3 (encM bs eB b2), .map g6 (encM bs (eI .i64) x12), .cells g3 47 (lf_T_Expr b4)]) (js := [0, 0, 0, 0, 0, 0]) rfl rfl ?_
    exact G.finE fun hb a w hA => by subst hb; exact hA
   ·rw [scope_resolver_expr.l1_cons] at hl19
    refine G.use hl19 hA ?_
    refine G.seq fun K24 hK25 => ?_
    refine G.region ?_
    refine G.p rfl (V.bin (u := .int .i64 (i13 : Int)) (v := .int .i64 (b3.length : Int)) (r := .bool (decide ((i13 : Int) < (b3.length : Int)))) rfl rfl b_lss) ?_
    refine G.nil ?_
    refine G.norm (L' := [(0, .val (.pointer (some ⟨q0, 0, none⟩))), (5, .val (.pointer (some ⟨g3, 0, none⟩))), (14, eL eS 1 b3), (15, .val (.int .i64 (b3.length : Int))), (16, .val (.int .i64 (i13 : Int))), (17, .val (.bool (decide ((i13 : Int) < (b3.length : Int)))))]) (is := [0, 5, 14, 15, 16, 17]) (R' := [.cells q0 90 [.val (.map (some q1)), .val (.map (some q2)), .val (.map (some q3)), .val (.map (some g6))], .map q1 (encM bs eB b0), .map q2 (encM bs eB b1), .map q3 (encM bs eB b2), .map g6 (encM bs (eI .i64) x12), .cells g3 47 (lf_T_Expr b4)]) (js := [0, 0, 0, 0, 0, 0]) rfl rfl ?_
    refine G.next_ hK25 ?_
    refine G.seq fun K26 hK27 => ?_
    refine G.yes rfl (rng_more hd16) ?_
    refine G.skip ?_
    refine G.next_ hK27 ?_
    refine G.seq fun K28 hK29 => ?_
    refine G.block ?_
    refine G.seq fun K30 hK31 => ?_
    refine G.region ?_
    refine G.p rfl (V.at_sl (k := i13) rfl rfl Try.runUnderlying30 Try.sizeOf9 (map_at (rng_at hd16))) ?_
    refine G.q rfl (V.load_ptr (d := .val (bs y14)) rfl Try.isAgg9 rfl) ?_
    refine G.p rfl (V.assign rfl) ?_
    refine G.nil ?_
    refine G.norm (L' := [(0, .val (.pointer (some ⟨q0, 0, none⟩))), (5, .val (.pointer (some ⟨g3, 0, none⟩))), (9, .val (bs y14)), (14, eL eS 1 b3), (15, .val (.int .i64 (b3.length : Int))), (16, .val (.int .i64 (i13 : Int)))]) (is := [0, 5, 9, 14, 15, 16]) (R' := [.cells q0 90 [.val (.map (some q1)), .val (.map (some q2)), .val (.map (some q3)), .val (.map (some g6))], .map q1 (encM bs eB b0), .map q2 (encM bs eB b1), .map q3 (encM bs eB b2), .map g6 (encM bs (eI .i64) x12), .cells g3 47 (lf_T_Expr b4)]) (js := [0, 0, 0, 0, 0, 0]) rfl rfl ?_
    refine G.next_ hK31 ?_
    refine G.region ?_
    refine G.p rfl (V.move rfl) ?_
    refine G.p rfl (V.nilCheck rfl) ?_
    refine G.p rfl (V.fieldAddr (o' := 3) rfl Try.runUnderlying90 rfl Try.sizeOf88 rfl) ?_
    refine G.q rfl (V.load_cell (i := 0) (ds := [.val (.map (some q1)), .val (.map (some q2)), .val (.map (some q3)), .val (.map (some g6))]) (d := .val (.map (some g6))) rfl rfl Try.isAgg88 rfl rfl) ?_
    refine G.p rfl (V.move rfl) ?_
    refine G.q rfl (V.lookup (enc := (eI .i64)) (k := y14) (Keys.str Try.underlying9) Try.runUnderlying88 Try.zeroValue3 (0 : Int) (fun _ _ => RdV.val.2 rfl) rfl rfl (i := 4) rfl) ?_
    refine G.p rfl (V.bin (u := .int .i64 ((mget x12 y14).getD (0 : Int))) (v := .int .i64 1) (r := .int .i64 (addI ((mget x12 y14).getD (0 : Int)) 1)) rfl rfl b_add) ?_
    refine G.opn (O.mapUpdate (k := y14) (u := addI ((mget x12 y14).getD (0 : Int)) 1) (Keys.str Try.underlying9) Try.runUnderlying88 rfl rfl (.of rfl) (i := 4) rfl) fun _ => ?_
    refine G.nil ?_
    refine G.norm (L' := [(0, .val (.pointer (some ⟨q0, 0, none⟩))), (5, .val (.pointer (some ⟨g3, 0, none⟩))), (14, eL eS 1 b3), (15, .val (.int .i64 (b3.length : Int))), (16, .val (.int .i64 (i13 : Int)))]) (is := [0, 5, 14, 15, 16]) (R' := [.cells q0 90 [.val (.map (some q1)), .val (.map (some q2)), .val (.map (some q3)), .val (.map (some g6))], .map q1 (encM bs eB b0), .map q2 (encM bs eB b1), .map q3 (encM bs eB b2), .map g6 (encM bs (eI .i64) (mput x12 y14 (addI ((mget x12 y14).getD (0 : Int)) 1))), .cells g3 47 (lf_T_Expr b4)]) (js := [0, 0, 0, 0, 0, 0]) rfl rfl ?_
    refine G.inB ?_
    refine G.next_ hK29 ?_
    refine G.region ?_
    refine G.p rfl (V.incr (i := i13) (N := b3.length) rfl rfl (rng_lt hd16) (hN11)) ?_
    refine G.p rfl (V.move rfl) ?_
    refine G.nil ?_
    refine G.norm (L' := [(0, .val (.pointer (some ⟨q0, 0, none⟩))), (5, .val (.pointer (some ⟨g3, 0, none⟩))), (14, eL eS 1 b3), (15, .val (.int .i64 (b3.length : Int))), (16, .val (.int .i64 ((i13 + 1 : Nat) : Int)))]) (is := [0, 5, 14, 15, 16]) (R' := [.cells q0 90 [.val (.map (some q1)), .val (.map (some q2)), .val (.map (some q3)), .val (.map (some g6))], .map q1 (encM bs eB b0), .map q2 (encM bs eB b1), .map q3 (encM bs eB b2), .map g6 (encM bs (eI .i64) (mput x12 y14 (addI ((mget x12 y14).getD (0 : Int)) 1))), .cells g3 47 (lf_T_Expr b4)]) (js := [0, 0, 0, 0, 0, 0]) rfl rfl ?_
    refine G.again ?_
    intro hl32 a w hA
    exact ⟨_, Nat.lt_succ_self _, rest15, i13 + 1, (mput x12 y14 (addI ((mget x12 y14).getD (0 : Int)) 1)), rfl, hl32, rng_next hd16, hA⟩
 ·rintro b34 hb a w hA hF35
  refine G.use hF35 hA ?_
  refine G.next_ hK8 ?_
  refine G.seq fun K36 hK37 => ?_
  refine G.region ?_
  refine G.p rfl (V.move rfl) ?_
  refine G.q rfl (V.load_cellN (i := 5) (ds := (lf_T_Expr b4)) (c1 := (lf_T_Expr b4)) rfl rfl Try.isAgg47 Try.sizeOf47 rfl rfl rfl) ?_
  refine G.bind fun r38 hr39 => ?_
  refine G.op rfl (O.call (xs := [.tmp 28, .tmp 29]) (is := [0, 0, 0, 0, 0]) (Rp := [.cells q0 90 [.val (.map (some q1)), .val (.map (some q2)), .val (.map (some q3)), .val (.map (some g6))], .map q1 (encM bs eB b0), .map q2 (encM bs eB b1), .map q3 (encM bs eB b2), .map g6 (encM bs (eI .i64) b34)]) (Rr := [.cells g3 47 (lf_T_Expr b4)]) (scope_resolver_visit_ok k hr39) (.cons (.of rfl) (.cons (.of rfl) .nil)) Try.call32 rfl) fun x40 => ?_
  refine G.p rfl (V.extract (ds := [.val (.int .i64 r38.1), .val (.bool r38.2.1)]) (d := .val (.int .i64 r38.1)) rfl rfl) ?_
  refine G.p rfl (V.extract (ds := [.val (.int .i64 r38.1), .val (.bool r38.2.1)]) (d := .val (.bool r38.2.1)) rfl rfl) ?_
  refine G.p rfl (V.assign rfl) ?_
  refine G.p rfl (V.assign rfl) ?_
  refine G.nil ?_
  refine G.norm (L' := [(6, .val (.int .i64 r38.1)), (7, .val (.bool r38.2.1))]) (is := [6, 7]) (R' := [.cells q0 90 [.val (.map (some q1)), .val (.map (some q2)), .val (.map (some q3)), .val (.map (some g6))], .map q1 (encM bs eB b0), .map q2 (encM bs eB b1), .map q3 (encM bs eB b2), .map g6 (encM bs (eI .i64) r38.2.2)]) (js := [0, 0, 0, 0, 0]) rfl rfl ?_
  refine G.next_ hK37 ?_
  refine G.ret ?_
  refine G.fin_ fun hF41 => ?_
  obtain rfl := Option.some.inj hF41
  exact G.ret2 Try.results20 g6 (is := [0, 0, 0, 0, 0]) rfl (.of rfl) (.of rfl) rfl
/-! roadstead/scope.told -/
def scope_told.Spec (F : Int → Bool → Option (Int × Int)) : Prop := ∀ {b0 : Int} {b1 : Bool} {out : Int × Int}, F b0 b1 = some out → Ct Gl Try.prog 21 [.val (.int .i64 b0), .val (.bool b1)] [] (fun x : Unit => .tup [.val (.int .i64 out.1), .val (.int .i64 out.2)]) (fun x : Unit => [])
def scope_told (b0 : Int) (b1 : Bool) : Option (Int × Int) := (if b1 = true then some (11, b0) else some (0, 0))
set_option maxRecDepth 100000 in
theorem scope_told_ok : scope_told.Spec (scope_told) := by
 intro b0 b1 out hp
 refine ct_of_G (nt := 8) Try.func21 rfl Try.ntmps21 rfl (fun B => ?_) hp
 unfold scope_told
 refine G.seq fun K1 hK2 => ?_
 refine G.region ?_
 refine G.p rfl (V.assign rfl) ?_
 refine G.p rfl (V.assign rfl) ?_
 refine G.nil ?_
 refine G.norm (L' := [(0, .val (.int .i64 b0)), (1, .val (.bool b1))]) (is := [0, 1]) (R' := []) (js := []) rfl rfl ?_
 refine G.next_ hK2 ?_
 refine G.seq fun K3 hK4 => ?_
 refine G.seq fun K5 hK6 => ?_
 refine G.region ?_
 refine G.p rfl (V.move rfl) ?_
 refine G.nil ?_
 refine G.norm (L' := [(0, .val (.int .i64 b0)), (6, .val (.bool b1))]) (is := [0, 6]) (R' := []) (js := []) rfl rfl ?_
 refine G.next_ hK6 ?_
 refine G.cond (b := b1) rfl (fun hc7 => ?_) (fun hc7 => ?_)
 ·refine G.norm (L' := [(0, .val (.int .i64 b0))]) (is := [0]) (R' := []) (js := []) rfl rfl ?_
  refine G.seq fun K8 hK9 => ?_
  refine G.region ?_
  refine G.p rfl (V.move rfl) ?_
  refine G.p rfl (V.assign rfl) ?_
  refine G.p rfl (V.assign rfl) ?_
  refine G.nil ?_
  refine G.norm (L' := [(4, .val (.int .i64 11)), (5, .val (.int .i64 b0))]) (is := [4, 5]) (R' := []) (js := []) rfl rfl ?_
  refine G.next_ hK9 ?_
  refine G.ret ?_
  refine G.thn_ret ?_
  refine G.fin_ fun hF10 => ?_
  obtain rfl := Option.some.inj hF10
  exact G.ret2 Try.results21 () (is := []) rfl (.of rfl) (.of rfl) rfl
 ·refine G.norm (L' := []) (is := []) (R' := []) (js := []) rfl rfl ?_
  refine G.skip ?_
  refine G.next_ hK4 ?_
  refine G.seq fun K11 hK12 => ?_
  refine G.region ?_
  refine G.p rfl (V.assign rfl) ?_
  refine G.p rfl (V.assign rfl) ?_
  refine G.nil ?_
  refine G.norm (L' := [(4, .val (.int .i64 0)), (5, .val (.int .i64 0))]) (is := [4, 5]) (R' := []) (js := []) rfl rfl ?_
  refine G.next_ hK12 ?_
  refine G.ret ?_
  refine G.fin_ fun hF13 => ?_
  obtain rfl := Option.some.inj hF13
  exact G.ret2 Try.results21 () (is := []) rfl (.of rfl) (.of rfl) rfl
/-! (*roadstead/scope.resolver).expr -/
def scope_resolver_expr_s1.l1  : List (Str) → (List (Str × Int)) → Option (List (Str × Int))
  | [], x12 => some x12
  | y14 :: rest15, x12 => scope_resolver_expr_s1.l1 rest15 (mput x12 y14 (addI ((mget x12 y14).getD (0 : Int)) 1))

theorem scope_resolver_expr_s1.l1_nil  {x12 : List (Str × Int)} : scope_resolver_expr_s1.l1  [] x12 = some x12 := rfl
theorem scope_resolver_expr_s1.l1_cons  {y14 : Str} {rest15 : List (Str)} {x12 : List (Str × Int)} : scope_resolver_expr_s1.l1  (y14 :: rest15) x12 = scope_resolver_expr_s1.l1 rest15 (mput x12 y14 (addI ((mget x12 y14).getD (0 : Int)) 1)) := rfl
def scope_resolver_expr_s1.Spec (F : (List (Str × Bool)) → (List (Str × Bool)) → (List (Str × Bool)) → (List Str) → T_Expr → Option (Int × Bool × (List (Str × Int)))) : Prop := ∀ {b0 : List (Str × Bool)} {b1 : List (Str × Bool)} {b2 : List (Str × Bool)} {b3 : List Str} {b4 : T_Expr} {q0 : Nat} {q1 : Nat} {q2 : Nat} {q3 : Nat} {q4 : Value} {out : Int × Bool × (List (Str × Int))}, F b0 b1 b2 b3 b4 = some out → Ct Gl Try.prog 20 [.val (.pointer (some ⟨q0, 0, none⟩)), eL eS 1 b3, .agg (lf_T_Expr b4)] [.cells q0 90 [.val (.map (some q1)), .val (.map (some q2)), .val (.map (some q3)), .val q4], .map q1 (encM bs eB b0), .map q2 (encM bs eB b1), .map q3 (encM bs eB b2)] (fun x : Nat => .tup [.val (.int .i64 out.1), .val (.bool out.2.1)]) (fun x : Nat => [.cells q0 90 [.val (.map (some q1)), .val (.map (some q2)), .val (.map (some q3)), .val (.map (some x))], .map q1 (encM bs eB b0), .map q2 (encM bs eB b1), .map q3 (encM bs eB b2), .map x (encM bs (eI .i64) out.2.2)])
def scope_resolver_expr_s1 (k : Nat) (b0 : List (Str × Bool)) (b1 : List (Str × Bool)) (b2 : List (Str × Bool)) (b3 : List Str) (b4 : T_Expr) : Option (Int × Bool × (List (Str × Int))) := (scope_resolver_expr_s1.l1 b3 ([] : List (Str × Int))).bind fun b34 => (scope_resolver_visit k b0 b1 b2 b34 b4).bind fun r38 => some (r38.1, r38.2.1, r38.2.2)
set_option maxRecDepth 100000 in
theorem scope_resolver_expr_s1_ok (k : Nat) : scope_resolver_expr_s1.Spec (scope_resolver_expr_s1 k) := by
 intro b0 b1 b2 b3 b4 q0 q1 q2 q3 q4 out hp
 refine ct_of_G (nt := 33) Try.func20 rfl Try.ntmps20 rfl (fun B => ?_) hp
 unfold scope_resolver_expr_s1
 refine G.seq fun K1 hK2 => ?_
 refine G.region ?_
 refine G.op rfl (O.box (.of rfl) (OneC.agg (List.forall_mem_cons.2 ⟨(.val rfl), (List.forall_mem_cons.2 ⟨(.val rfl), (List.forall_mem_cons.2 ⟨(.val rfl), (List.forall_mem_cons.2 ⟨.sl, (List.forall_mem_cons.2 ⟨.sl, (List.forall_mem_cons.2 ⟨.sl, (List.forall_mem_cons.2 ⟨.sl, (List.forall_mem_cons.2 ⟨(.val rfl), (List.forall_mem_nil _)⟩)⟩)⟩)⟩)⟩)⟩)⟩)⟩))) fun g3 => ?_
 refine G.p rfl (V.assign rfl) ?_
 refine G.p rfl (V.assign rfl) ?_
 refine G.nil ?_
 refine G.norm (L' := [(0, .val (.pointer (some ⟨q0, 0, none⟩))), (1, eL eS 1 b3), (5, .val (.pointer (some ⟨g3, 0, none⟩)))]) (is := [0, 1, 5]) (R' := [.cells g3 47 (lf_T_Expr b4), .cells q0 90 [.val (.map (some q1)), .val (.map (some q2)), .val (.map (some q3)), .val q4], .map q1 (encM bs eB b0), .map q2 (encM bs eB b1), .map q3 (encM bs eB b2)]) (js := [0, 0, 0, 0, 0]) rfl rfl ?_
 refine G.next_ hK2 ?_
 refine G.seq fun K4 hK5 => ?_
 refine G.region ?_
 refine G.p rfl (V.move rfl) ?_
 refine G.op rfl (O.makeMap (κ := Str) (ν := Int) (kv := bs) (enc := (eI .i64))) fun g6 => ?_
 refine G.p rfl (V.nilCheck rfl) ?_
 refine G.p rfl (V.fieldAddr (o' := 3) rfl Try.runUnderlying90 rfl Try.sizeOf88 rfl) ?_
 refine G.opn (O.store (i := 2) (o := 3) (ds := [.val (.map (some q1)), .val (.map (some q2)), .val (.map (some q3)), .val q4]) rfl (.of rfl) rfl (OneC.leaf (.val rfl)) Try.sizeOf88 rfl rfl) fun _ => ?_
 refine G.nil ?_
 refine G.norm (L' := [(0, .val (.pointer (some ⟨q0, 0, none⟩))), (1, eL eS 1 b3), (5, .val (.pointer (some ⟨g3, 0, none⟩)))]) (is := [0, 1, 5]) (R' := [.map g6 (encM bs (eI .i64) ([] : List (Str × Int))), .cells g3 47 (lf_T_Expr b4), .cells q0 90 [.val (.map (some q1)), .val (.map (some q2)), .val (.map (some q3)), .val (.map (some g6))], .map q1 (encM bs eB b0), .map q2 (encM bs eB b1), .map q3 (encM bs eB b2)]) (js := [0, 0, 0, 0, 0, 0]) rfl rfl ?_
 refine G.next_ hK5 ?_
 refine G.seq fun K7 hK8 => ?_
 refine G.seq fun K9 hK10 => ?_
 refine G.region ?_
 refine G.p rfl (V.move rfl) ?_
 refine G.lenb (enc := eS) (xs := b3) (sz := 1) (x := .tmp 14) (.of rfl) fun hN11 => ?_
 refine G.p rfl (V.len_sl (enc := eS) (xs := b3) (sz := 1) (.of rfl) Try.runUnderlying30) ?_
 refine G.p rfl (V.move rfl) ?_
 refine G.nil ?_
 refine G.norm (L' := [(0, .val (.pointer (some ⟨q0, 0, none⟩))), (5, .val (.pointer (some ⟨g3, 0, none⟩))), (14, eL eS 1 b3), (15, .val (.int .i64 (b3.length : Int))), (16, .val (.int .i64 0))]) (is := [0, 5, 14, 15, 16]) (R' := [.map g6 (encM bs (eI .i64) ([] : List (Str × Int))), .cells g3 47 (lf_T_Expr b4), .cells q0 90 [.val (.map (some q1)), .val (.map (some q2)), .val (.map (some q3)), .val (.map (some g6))], .map q1 (encM bs eB b0), .map q2 (encM bs eB b1), .map q3 (encM bs eB b2)]) (js := [0, 0, 0, 0, 0, 0]) rfl rfl ?_
 refine G.next_ hK10 ?_
 refine G.join (E := fun b a w => Ass Gl B 33 [(0, .val (.pointer (some ⟨q0, 0, none⟩))), (5, .val (.pointer (some ⟨g3, 0, none⟩)))] [.cells q0 90 [.val (.map (some q1)), .val (.map (some q2)), .val (.map (some q3)), .val (.map (some g6))], .map q1 (encM bs eB b0), .map q2 (encM bs eB b1), .map q3 (encM bs eB b2), .map g6 (encM bs (eI .i64) b), .cells g3 47 (lf_T_Expr b4)] a w) ?_ ?_
 ·intro b hF18
  refine G.block ?_
  refine G.norm (L' := [(0, .val (.pointer (some ⟨q0, 0, none⟩))), (5, .val (.pointer (some ⟨g3, 0, none⟩))), (14, eL eS 1 b3), (15, .val (.int .i64 (b3.length : Int))), (16, .val (.int .i64 ((0 : Nat) : Int)))]) (is := [0, 5, 14, 15, 16]) (R' := [.cells q0 90 [.val (.map (some q1)), .val (.map (some q2)), .val (.map (some q3)), .val (.map (some g6))], .map q1 (encM bs eB b0), .map q2 (encM bs eB b1), .map q3 (encM bs eB b2), .map g6 (encM bs (eI .i64) ([] : List (Str × Int))), .cells g3 47 (lf_T_Expr b4)]) (js := [2, 2, 2, 2, 0, 0]) rfl rfl ?_
  refine G.loop (fun kq a w => ∃ (rest15 : List (Str)) (i13 : Nat) (x12 : List (Str × Int)), kq = rest15.length ∧ scope_resolver_expr_s1.l1 rest15 x12 = some b ∧ b3.drop i13 = rest15 ∧ Ass Gl B 33 [(0, .val (.pointer (some ⟨q0, 0, none⟩))), (5, .val (.pointer (some ⟨g3, 0, none⟩))), (14, eL eS 1 b3), (15, .val (.int .i64 (b3.length : Int))), (16, .val (.int .i64 (i13 : Int)))] [.cells q0 90 [.val (.map (some q1)), .val (.map (some q2)), .val (.map (some q3)), .val (.map (some g6))], .map q1 (encM bs eB b0), .map q2 (encM bs eB b1), .map q3 (encM bs eB b2), .map g6 (encM bs (eI .i64) x12), .cells g3 47 (lf_T_Expr b4)] a w) (b3.length) ?_ ?_
  ·intro hl33 a w hA
   exact ⟨b3, 0, ([] : List (Str × Int)), rfl, hl33, rfl, hA⟩
  ·rintro _ a w ⟨rest15, i13, x12, rfl, hl19, hd16, hA⟩
   rcases rest15 with _ | ⟨y14, rest15⟩
   ·rw [scope_resolver_expr_s1.l1_nil] at hl19
    refine G.use hl19 hA ?_
    refine G.seq fun K20 hK21 => ?_
    refine G.region ?_
    refine G.p rfl (V.bin (u := .int .i64 (i13 : Int)) (v := .int .i64 (b3.length : Int)) (r := .bool (decide ((i13 : Int) < (b3.length : Int)))) rfl rfl b_lss) ?_
    refine G.nil ?_
    refine G.norm (L' := [(0, .val (.pointer (some ⟨q0, 0, none⟩))), (5, .val (.pointer (some ⟨g3, 0, none⟩))), (14, eL eS 1 b3), (15, .val (.int .i64 (b3.length : Int))), (16, .val (.int .i64 (i13 : Int))), (17, .val (.bool (decide ((i13 : Int) < (b3.length : Int)))))]) (is := [0, 5, 14, 15, 16, 17]) (R' := [.cells q0 90 [.val (.map (some q1)), .val (.map (some q2)), .val (.map (some q3)), .val (.map (some g6))], .map q1 (encM bs eB b0), .map q2 (encM bs eB b1), .map q3 (encM bs eB b2), .map g6 (encM bs (eI .i64) x12), .cells g3 47 (lf_T_Expr b4)]) (js := [0, 0, 0, 0, 0, 0]) rfl rfl ?_
    refine G.next_ hK21 ?_
    refine G.seq fun K22 hK23 => ?_
    refine G.no rfl (rng_end hd16) ?_
    refine G.exit ?_
    refine G.thn_exit ?_
    refine G.thn_exit ?_
    refine G.inB_eq ?_
    refine G.norm (L' := [(0, .val (.pointer (some ⟨q0, 0, none⟩))), (5, .val (.pointer (some ⟨g3, 0, none⟩)))]) (is := [0, 5]) (R' := [.cells q0 90 [.val (.map (some q1)), .val (.map (some q2)), .val (.map (some q3)), .val (.map (some g6))], .map q1 (encM bs eB b0), .map q2 (encM bs eB b1), .map q3 (encM bs eB b2), .map g6 (encM bs (eI .i64) x12), .cells g3 47 (lf_T_Expr b4)]) (js := [0, 0, 0, 0, 0, 0]) rfl rfl ?_
    exact G.finE fun hb a w hA => by subst hb; exact hA
   ·rw [scope_resolver_expr_s1.l1_cons] at hl19
    refine G.use hl19 hA ?_
    refine G.seq fun K24 hK25 => ?_
    refine G.region ?_
    refine G.p rfl (V.bin (u := .int .i64 (i13 : Int)) (v := .int .i64 (b3.length : Int)) (r := .bool (decide ((i13 : Int) < (b3.length : Int)))) rfl rfl b_lss) ?_
    refine G.nil ?_
    refine G.norm (L' := [(0, .val (.pointer (some ⟨q0, 0, none⟩))), (5, .val (.pointer (some ⟨g3, 0, none⟩))), (14, eL eS 1 b3), (15, .val (.int .i64 (b3.length : Int))), (16, .val (.int .i64 (i13 : Int))), (17, .val (.bool (decide ((i13 : Int) < (b3.length : Int)))))]) (is := [0, 5, 14, 15, 16, 17]) (R' := [.cells q0 90 [.val (.map (some q1)), .val (.map (some q2)), .val (.map (some q3)), .val (.map (some g6))], .map q1 (encM bs eB b0), .map q2 (encM bs eB b1), .map q3 (encM bs eB b2), .map g6 (encM bs (eI .i64) x12), .cells g3 47 (lf_T_Expr b4)]) (js := [0, 0, 0, 0, 0, 0]) rfl rfl ?_
    refine G.next_ hK25 ?_
    refine G.seq fun K26 hK27 => ?_
    refine G.yes rfl (rng_more hd16) ?_
    refine G.skip ?_
    refine G.next_ hK27 ?_
    refine G.seq fun K28 hK29 => ?_
    refine G.block ?_
    refine G.seq fun K30 hK31 => ?_
    refine G.region ?_
    refine G.p rfl (V.at_sl (k := i13) rfl rfl Try.runUnderlying30 Try.sizeOf9 (map_at (rng_at hd16))) ?_
    refine G.q rfl (V.load_ptr (d := .val (bs y14)) rfl Try.isAgg9 rfl) ?_
    refine G.p rfl (V.assign rfl) ?_
    refine G.nil ?_
    refine G.norm (L' := [(0, .val (.pointer (some ⟨q0, 0, none⟩))), (5, .val (.pointer (some ⟨g3, 0, none⟩))), (9, .val (bs y14)), (14, eL eS 1 b3), (15, .val (.int .i64 (b3.length : Int))), (16, .val (.int .i64 (i13 : Int)))]) (is := [0, 5, 9, 14, 15, 16]) (R' := [.cells q0 90 [.val (.map (some q1)), .val (.map (some q2)), .val (.map (some q3)), .val (.map (some g6))], .map q1 (encM bs eB b0), .map q2 (encM bs eB b1), .map q3 (encM bs eB b2), .map g6 (encM bs (eI .i64) x12), .cells g3 47 (lf_T_Expr b4)]) (js := [0, 0, 0, 0, 0, 0]) rfl rfl ?_
    refine G.next_ hK31 ?_
    refine G.region ?_
    refine G.p rfl (V.move rfl) ?_
    refine G.p rfl (V.nilCheck rfl) ?_
    refine G.p rfl (V.fieldAddr (o' := 3) rfl Try.runUnderlying90 rfl Try.sizeOf88 rfl) ?_
    refine G.q rfl (V.load_cell (i := 0) (ds := [.val (.map (some q1)), .val (.map (some q2)), .val (.map (some q3)), .val (.map (some g6))]) (d := .val (.map (some g6))) rfl rfl Try.isAgg88 rfl rfl) ?_
    refine G.p rfl (V.move rfl) ?_
    refine G.q rfl (V.lookup (enc := (eI .i64)) (k := y14) (Keys.str Try.underlying9) Try.runUnderlying88 Try.zeroValue3 (0 : Int) (fun _ _ => RdV.val.2 rfl) rfl rfl (i := 4) rfl) ?_
    refine G.p rfl (V.bin (u := .int .i64 ((mget x12 y14).getD (0 : Int))) (v := .int .i64 1) (r := .int .i64 (addI ((mget x12 y14).getD (0 : Int)) 1)) rfl rfl b_add) ?_
    refine G.opn (O.mapUpdate (k := y14) (u := addI ((mget x12 y14).getD (0 : Int)) 1) (Keys.str Try.underlying9) Try.runUnderlying88 rfl rfl (.of rfl) (i := 4) rfl) fun _ => ?_
    refine G.nil ?_
    refine G.norm (L' := [(0, .val (.pointer (some ⟨q0, 0, none⟩))), (5, .val (.pointer (some ⟨g3, 0, none⟩))), (14, eL eS 1 b3), (15, .val (.int .i64 (b3.length : Int))), (16, .val (.int .i64 (i13 : Int)))]) (is := [0, 5, 14, 15, 16]) (R' := [.cells q0 90 [.val (.map (some q1)), .val (.map (some q2)), .val (.map (some q3)), .val (.map (some g6))], .map q1 (encM bs eB b0), .map q2 (encM bs eB b1), .map q3 (encM bs eB b2), .map g6 (encM bs (eI .i64) (mput x12 y14 (addI ((mget x12 y14).getD (0 : Int)) 1))), .cells g3 47 (lf_T_Expr b4)]) (js := [0, 0, 0, 0, 0, 0]) rfl rfl ?_
    refine G.inB ?_
    refine G.next_ hK29 ?_
    refine G.region ?_
    refine G.p rfl (V.incr (i := i13) (N := b3.length) rfl rfl (rng_lt hd16) (hN11)) ?_
    refine G.p rfl (V.move rfl) ?_
    refine G.nil ?_
    refine G.norm (L' := [(0, .val (.pointer (some ⟨q0, 0, none⟩))), (5, .val (.pointer (some ⟨g3, 0, none⟩))), (14, eL eS 1 b3), (15, .val (.int .i64 (b3.length : Int))), (16, .val (.int .i64 ((i13 + 1 : Nat) : Int)))]) (is := [0, 5, 14, 15, 16]) (R' := [.cells q0 90 [.val (.map (some q1)), .val (.map (some q2)), .val (.map (some q3)), .val (.map (some g6))], .map q1 (encM bs eB b0), .map q2 (encM bs eB b1), .map q3 (encM bs eB b2), .map g6 (encM bs (eI .i64) (mput x12 y14 (addI ((mget x12 y14).getD (0 : Int)) 1))), .cells g3 47 (lf_T_Expr b4)]) (js := [0, 0, 0, 0, 0, 0]) rfl rfl ?_
    refine G.again ?_
    intro hl32 a w hA
    exact ⟨_, Nat.lt_succ_self _, rest15, i13 + 1, (mput x12 y14 (addI ((mget x12 y14).getD (0 : Int)) 1)), rfl, hl32, rng_next hd16, hA⟩
 ·rintro b34 hb a w hA hF35
  refine G.use hF35 hA ?_
  refine G.next_ hK8 ?_
  refine G.seq fun K36 hK37 => ?_
  refine G.region ?_
  refine G.p rfl (V.move rfl) ?_
  refine G.q rfl (V.load_cellN (i := 5) (ds := (lf_T_Expr b4)) (c1 := (lf_T_Expr b4)) rfl rfl Try.isAgg47 Try.sizeOf47 rfl rfl rfl) ?_
  refine G.bind fun r38 hr39 => ?_
  refine G.op rfl (O.call (xs := [.tmp 28, .tmp 29]) (is := [0, 0, 0, 0, 0]) (Rp := [.cells q0 90 [.val (.map (some q1)), .val (.map (some q2)), .val (.map (some q3)), .val (.map (some g6))], .map q1 (encM bs eB b0), .map q2 (encM bs eB b1), .map q3 (encM bs eB b2), .map g6 (encM bs (eI .i64) b34)]) (Rr := [.cells g3 47 (lf_T_Expr b4)]) (scope_resolver_visit_ok k hr39) (.cons (.of rfl) (.cons (.of rfl) .nil)) Try.call32 rfl) fun x40 => ?_
  refine G.p rfl (V.extract (ds := [.val (.int .i64 r38.1), .val (.bool r38.2.1)]) (d := .val (.int .i64 r38.1)) rfl rfl) ?_
  refine G.p rfl (V.extract (ds := [.val (.int .i64 r38.1), .val (.bool r38.2.1)]) (d := .val (.bool r38.2.1)) rfl rfl) ?_
  refine G.p rfl (V.assign rfl) ?_
  refine G.p rfl (V.assign rfl) ?_
  refine G.nil ?_
  refine G.norm (L' := [(6, .val (.int .i64 r38.1)), (7, .val (.bool r38.2.1))]) (is := [6, 7]) (R' := [.cells q0 90 [.val (.map (some q1)), .val (.map (some q2)), .val (.map (some q3)), .val (.map (some g6))], .map q1 (encM bs eB b0), .map q2 (encM bs eB b1), .map q3 (encM bs eB b2), .map g6 (encM bs (eI .i64) r38.2.2)]) (js := [0, 0, 0, 0, 0]) rfl rfl ?_
  refine G.next_ hK37 ?_
  refine G.ret ?_
  refine G.fin_ fun hF41 => ?_
  obtain rfl := Option.some.inj hF41
  exact G.ret2 Try.results20 g6 (is := [0, 0, 0, 0, 0]) rfl (.of rfl) (.of rfl) rfl
end Go.Proofs.Ythbgngdoihkodac.Hx
