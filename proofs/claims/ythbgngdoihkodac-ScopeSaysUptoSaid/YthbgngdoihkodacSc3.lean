/- roadstead: ScopeSays. This text: Sc. Conditions: none beyond those that the statement itself names. -/
import Derived.Test.YthbgngdoihkodacSc2
namespace Go.Proofs.Ythbgngdoihkodac.Hx
open Go Go.Proofs.Ythbgngdoihkodac.Hx Go.RowKit Go.Proofs Go.Shelf
/-! roadstead/roadref2.scopeExpr -/
def roadref2_scopeExpr.l2 (b0 : T_Program) : List (T_Pat) → Bool → Option (Bool)
  | [], x121 => some x121
  | y123 :: rest124, x121 => (if x121 = true then some true else (if (y123.fKind == 6) = true then (roadref2_makersOf b0).bind fun r142 => (slices_Contains_string_string r142 y123.fText).bind fun r145 => some (!r145) else some false).bind fun t148 => some t148).bind fun t150 => roadref2_scopeExpr.l2 b0 rest124 t150

theorem roadref2_scopeExpr.l2_nil (b0 : T_Program) {x121 : Bool} : roadref2_scopeExpr.l2 b0 [] x121 = some x121 := rfl
theorem roadref2_scopeExpr.l2_cons (b0 : T_Program) {y123 : T_Pat} {rest124 : List (T_Pat)} {x121 : Bool} : roadref2_scopeExpr.l2 b0 (y123 :: rest124) x121 = (if x121 = true then some true else (if (y123.fKind == 6) = true then (roadref2_makersOf b0).bind fun r142 => (slices_Contains_string_string r142 y123.fText).bind fun r145 => some (!r145) else some false).bind fun t148 => some t148).bind fun t150 => roadref2_scopeExpr.l2 b0 rest124 t150 := rfl
def roadref2_scopeExpr.l1 (b0 : T_Program) (k : Nat) : List (T_Arm) → Bool → Option (Bool)
  | [], x83 => some x83
  | y85 :: rest86, x83 => (if x83 = true then some true else (roadref2_NamesOf k y85.fPat).bind fun r109 => (roadref2_doubled r109).bind fun r112 => some r112).bind fun t107 => (roadref2_pats k y85.fPat).bind fun r117 => (roadref2_scopeExpr.l2 b0 r117 t107).bind fun b175 => roadref2_scopeExpr.l1 b0 k rest86 b175

theorem roadref2_scopeExpr.l1_nil (b0 : T_Program) (k : Nat) {x83 : Bool} : roadref2_scopeExpr.l1 b0 k [] x83 = some x83 := rfl
theorem roadref2_scopeExpr.l1_cons (b0 : T_Program) (k : Nat) {y85 : T_Arm} {rest86 : List (T_Arm)} {x83 : Bool} : roadref2_scopeExpr.l1 b0 k (y85 :: rest86) x83 = (if x83 = true then some true else (roadref2_NamesOf k y85.fPat).bind fun r109 => (roadref2_doubled r109).bind fun r112 => some r112).bind fun t107 => (roadref2_pats k y85.fPat).bind fun r117 => (roadref2_scopeExpr.l2 b0 r117 t107).bind fun b175 => roadref2_scopeExpr.l1 b0 k rest86 b175 := rfl
def roadref2_scopeExpr.l3 (b0 : T_Program) (b1 : List Str) (b2 : T_Expr) (rec_roadref2_scopeExpr : T_Program → (List Str) → T_Expr → Option (T_Wrong)) : List (T_Expr) → Nat → Option (T_Wrong ⊕ (Unit))
  | [], i194 => some (.inr ())
  | y195 :: rest196, i194 => ((if ((b2.fKind == 6) && ((i194 : Int) == 1)) = true then some ([b2.fText] : List Str) else (if (b2.fKind == 10) = true then some b2.fNames else some ([] : List Str)))).bind fun b228 => (slices_Concat_string_string ([b1, b228] : List (List Str))).bind fun r233 => (rec_roadref2_scopeExpr b0 r233 y195).bind fun r236 => (if (r236.fE != 0) = true then some (.inl r236) else roadref2_scopeExpr.l3 b0 b1 b2 rec_roadref2_scopeExpr rest196 (i194 + 1))

theorem roadref2_scopeExpr.l3_nil (b0 : T_Program) (b1 : List Str) (b2 : T_Expr) (rec_roadref2_scopeExpr : T_Program → (List Str) → T_Expr → Option (T_Wrong)) {i194 : Nat} : roadref2_scopeExpr.l3 b0 b1 b2 rec_roadref2_scopeExpr [] i194 = some (.inr ()) := rfl
theorem roadref2_scopeExpr.l3_cons (b0 : T_Program) (b1 : List Str) (b2 : T_Expr) (rec_roadref2_scopeExpr : T_Program → (List Str) → T_Expr → Option (T_Wrong)) {y195 : T_Expr} {rest196 : List (T_Expr)} {i194 : Nat} : roadref2_scopeExpr.l3 b0 b1 b2 rec_roadref2_scopeExpr (y195 :: rest196) i194 = ((if ((b2.fKind == 6) && ((i194 : Int) == 1)) = true then some ([b2.fText] : List Str) else (if (b2.fKind == 10) = true then some b2.fNames else some ([] : List Str)))).bind fun b228 => (slices_Concat_string_string ([b1, b228] : List (List Str))).bind fun r233 => (rec_roadref2_scopeExpr b0 r233 y195).bind fun r236 => (if (r236.fE != 0) = true then some (.inl r236) else roadref2_scopeExpr.l3 b0 b1 b2 rec_roadref2_scopeExpr rest196 (i194 + 1)) := rfl
def roadref2_scopeExpr.l4 (b0 : T_Program) (b1 : List Str) (k : Nat) (rec_roadref2_scopeExpr : T_Program → (List Str) → T_Expr → Option (T_Wrong)) : List (T_Arm) → Option (T_Wrong ⊕ (Unit))
  | [] => some (.inr ())
  | y286 :: rest287 => (roadref2_NamesOf k y286.fPat).bind fun r307 => (slices_Concat_string_string ([b1, r307] : List (List Str))).bind fun r311 => (rec_roadref2_scopeExpr b0 r311 y286.fBody).bind fun r314 => (if (r314.fE != 0) = true then some (.inl r314) else roadref2_scopeExpr.l4 b0 b1 k rec_roadref2_scopeExpr rest287)

theorem roadref2_scopeExpr.l4_nil (b0 : T_Program) (b1 : List Str) (k : Nat) (rec_roadref2_scopeExpr : T_Program → (List Str) → T_Expr → Option (T_Wrong))  : roadref2_scopeExpr.l4 b0 b1 k rec_roadref2_scopeExpr []  = some (.inr ()) := rfl
theorem roadref2_scopeExpr.l4_cons (b0 : T_Program) (b1 : List Str) (k : Nat) (rec_roadref2_scopeExpr : T_Program → (List Str) → T_Expr → Option (T_Wrong)) {y286 : T_Arm} {rest287 : List (T_Arm)} : roadref2_scopeExpr.l4 b0 b1 k rec_roadref2_scopeExpr (y286 :: rest287)  = (roadref2_NamesOf k y286.fPat).bind fun r307 => (slices_Concat_string_string ([b1, r307] : List (List Str))).bind fun r311 => (rec_roadref2_scopeExpr b0 r311 y286.fBody).bind fun r314 => (if (r314.fE != 0) = true then some (.inl r314) else roadref2_scopeExpr.l4 b0 b1 k rec_roadref2_scopeExpr rest287) := rfl
def roadref2_scopeExpr.Spec (F : T_Program → (List Str) → T_Expr → Option (T_Wrong)) : Prop := ∀ {b0 : T_Program} {b1 : List Str} {b2 : T_Expr} {out : T_Wrong}, F b0 b1 b2 = some out → Ct Gl Try.prog 27 [.agg (lf_T_Program b0), eL eS 1 b1, .agg (lf_T_Expr b2)] [] (fun x : Unit => .agg [.val (.int .i64 out.fE), .val (.int .i64 out.fAt)]) (fun x : Unit => [])
def roadref2_scopeExpr.body (rec_roadref2_scopeExpr : T_Program → (List Str) → T_Expr → Option (T_Wrong)) (k : Nat) (b0 : T_Program) (b1 : List Str) (b2 : T_Expr) : Option (T_Wrong) := ((if (b2.fKind == 5) = true then (slices_Contains_string_string b1 b2.fText).bind fun r16 => some (!r16) else (if (b2.fKind == 9) = true then (roadref2_callsOf b0).bind fun r22 => (slices_Contains_string_string r22 b2.fText).bind fun r25 => some (!r25) else (if (b2.fKind == 12) = true then (roadref2_makersOf b0).bind fun r39 => (slices_Contains_string_string r39 b2.fText).bind fun r42 => some (!r42) else (if (b2.fKind == 14) = true then (roadref2_actorsOf b0).bind fun r56 => (slices_Contains_string_string r56 b2.fText).bind fun r59 => some (!r59) else (if (b2.fKind == 10) = true then (roadref2_doubled b2.fNames).bind fun r73 => some r73 else some false)))))).bind fun b76 => (roadref2_scopeExpr.l1 b0 k b2.fArms b76).bind fun b179 => (if b179 = true then some (T_Wrong.mk 11 b2.fAt) else (roadref2_scopeExpr.l3 b0 b1 b2 rec_roadref2_scopeExpr b2.fArgs 0).bind (retOr fun b278 => (roadref2_scopeExpr.l4 b0 b1 k rec_roadref2_scopeExpr b2.fArms).bind (retOr fun b366 => some (T_Wrong.mk 0 0))))
def roadref2_scopeExpr.all : Nat → (T_Program → (List Str) → T_Expr → Option (T_Wrong))
  | 0 => fun _ _ _ => none
  | k + 1 => roadref2_scopeExpr.body (roadref2_scopeExpr.all k) k 
set_option maxRecDepth 100000 in
theorem roadref2_scopeExpr.body_ok {rec_roadref2_scopeExpr : T_Program → (List Str) → T_Expr → Option (T_Wrong)} (hrec_roadref2_scopeExpr : roadref2_scopeExpr.Spec rec_roadref2_scopeExpr) (k : Nat) : roadref2_scopeExpr.Spec (roadref2_scopeExpr.body rec_roadref2_scopeExpr k) := by
 intro b0 b1 b2 out hp
 refine ct_of_G (nt := 160) Try.func27 rfl Try.ntmps27 rfl (fun B => ?_) hp
 unfold roadref2_scopeExpr.body
 refine G.seq fun K1 hK2 => ?_
 refine G.region ?_
 refine G.op rfl (O.box (.of rfl) (OneC.agg (List.forall_mem_cons.2 ⟨(.val rfl), (List.forall_mem_cons.2 ⟨(.val rfl), (List.forall_mem_cons.2 ⟨.sl, (List.forall_mem_cons.2 ⟨.sl, (List.forall_mem_cons.2 ⟨.sl, (List.forall_mem_cons.2 ⟨.sl, (List.forall_mem_cons.2 ⟨.sl, (List.forall_mem_cons.2 ⟨.sl, (List.forall_mem_nil _)⟩)⟩)⟩)⟩)⟩)⟩)⟩)⟩))) fun g3 => ?_
 refine G.op rfl (O.box (.of rfl) (OneC.agg (List.forall_mem_cons.2 ⟨(.val rfl), (List.forall_mem_cons.2 ⟨(.val rfl), (List.forall_mem_cons.2 ⟨(.val rfl), (List.forall_mem_cons.2 ⟨.sl, (List.forall_mem_cons.2 ⟨.sl, (List.forall_mem_cons.2 ⟨.sl, (List.forall_mem_cons.2 ⟨.sl, (List.forall_mem_cons.2 ⟨(.val rfl), (List.forall_mem_nil _)⟩)⟩)⟩)⟩)⟩)⟩)⟩)⟩))) fun g4 => ?_
 refine G.op rfl (O.alloc (ds := [.val (.int .i64 0), .val (.int .i64 0)]) Try.zeroValue36 rfl) fun g5 => ?_
 refine G.nil ?_
 refine G.norm (L' := [(1, eL eS 1 b1), (3, .val (.pointer (some ⟨g3, 0, none⟩))), (5, .val (.pointer (some ⟨g4, 0, none⟩))), (6, .val (.pointer (some ⟨g5, 0, none⟩)))]) (is := [1, 3, 5, 6]) (R' := [.cells g5 36 [.val (.int .i64 0), .val (.int .i64 0)], .cells g4 47 (lf_T_Expr b2), .cells g3 29 (lf_T_Program b0)]) (js := [0, 0, 0]) rfl rfl ?_
 refine G.next_ hK2 ?_
 refine G.seq fun K6 hK7 => ?_
 refine G.region ?_
 refine G.p rfl (V.assign rfl) ?_
 refine G.nil ?_
 refine G.norm (L' := [(1, eL eS 1 b1), (3, .val (.pointer (some ⟨g3, 0, none⟩))), (5, .val (.pointer (some ⟨g4, 0, none⟩))), (6, .val (.pointer (some ⟨g5, 0, none⟩))), (7, .val (.bool false))]) (is := [1, 3, 5, 6, 7]) (R' := [.cells g5 36 [.val (.int .i64 0), .val (.int .i64 0)], .cells g4 47 (lf_T_Expr b2), .cells g3 29 (lf_T_Program b0)]) (js := [0, 0, 0]) rfl rfl ?_
 refine G.next_ hK7 ?_
 refine G.seq fun K8 hK9 => ?_
 refine G.seq fun K10 hK11 => ?_
 refine G.region ?_
 refine G.p rfl (V.fieldAddr (o' := 0) rfl Try.runUnderlying47 rfl Try.sizeOf3 rfl) ?_
 refine G.q rfl (V.load_cell (i := 1) (ds := (lf_T_Expr b2)) (d := .val (.int .i64 b2.fKind)) rfl rfl Try.isAgg3 rfl rfl) ?_
 refine G.nil ?_
 refine G.norm (L' := [(1, eL eS 1 b1), (3, .val (.pointer (some ⟨g3, 0, none⟩))), (5, .val (.pointer (some ⟨g4, 0, none⟩))), (6, .val (.pointer (some ⟨g5, 0, none⟩))), (7, .val (.bool false)), (20, .val (.int .i64 b2.fKind))]) (is := [1, 3, 5, 6, 7, 20]) (R' := [.cells g5 36 [.val (.int .i64 0), .val (.int .i64 0)], .cells g4 47 (lf_T_Expr b2), .cells g3 29 (lf_T_Program b0)]) (js := [0, 0, 0]) rfl rfl ?_
 refine G.next_ hK11 ?_
 refine G.block ?_
 refine G.seq fun K12 hK13 => ?_
 refine G.region ?_
 refine G.p rfl (V.bin (u := .int .i64 b2.fKind) (v := .int .i64 5) (r := .bool (b2.fKind == 5)) rfl rfl b_eql) ?_
 refine G.p rfl (V.assign rfl) ?_
 refine G.nil ?_
 refine G.norm (L' := [(1, eL eS 1 b1), (3, .val (.pointer (some ⟨g3, 0, none⟩))), (5, .val (.pointer (some ⟨g4, 0, none⟩))), (6, .val (.pointer (some ⟨g5, 0, none⟩))), (7, .val (.bool false)), (20, .val (.int .i64 b2.fKind)), (21, .val (.bool (b2.fKind == 5)))]) (is := [1, 3, 5, 6, 7, 20, 21]) (R' := [.cells g5 36 [.val (.int .i64 0), .val (.int .i64 0)], .cells g4 47 (lf_T_Expr b2), .cells g3 29 (lf_T_Program b0)]) (js := [0, 0, 0]) rfl rfl ?_
 refine G.next_ hK13 ?_
 refine G.join (E := fun b a w => Ass Gl B 160 [(1, eL eS 1 b1), (3, .val (.pointer (some ⟨g3, 0, none⟩))), (5, .val (.pointer (some ⟨g4, 0, none⟩))), (6, .val (.pointer (some ⟨g5, 0, none⟩))), (7, .val (.bool b))] [.cells g3 29 (lf_T_Program b0), .cells g4 47 (lf_T_Expr b2), .cells g5 36 [.val (.int .i64 0), .val (.int .i64 0)]] a w) ?_ ?_
 ·intro b hF14
  refine G.cond (b := (b2.fKind == 5)) rfl (fun hc15 => ?_) (fun hc15 => ?_)
  ·refine G.norm (L' := [(1, eL eS 1 b1), (3, .val (.pointer (some ⟨g3, 0, none⟩))), (5, .val (.pointer (some ⟨g4, 0, none⟩))), (6, .val (.pointer (some ⟨g5, 0, none⟩)))]) (is := [1, 3, 5, 6]) (R' := [.cells g5 36 [.val (.int .i64 0), .val (.int .i64 0)], .cells g4 47 (lf_T_Expr b2), .cells g3 29 (lf_T_Program b0)]) (js := [0, 0, 0]) rfl rfl ?_
   refine G.region ?_
   refine G.p rfl (V.move rfl) ?_
   refine G.p rfl (V.fieldAddr (o' := 2) rfl Try.runUnderlying47 rfl Try.sizeOf9 rfl) ?_
   refine G.q rfl (V.load_cell (i := 1) (ds := (lf_T_Expr b2)) (d := .val (bs b2.fText)) rfl rfl Try.isAgg9 rfl rfl) ?_
   refine G.bind fun r16 hr17 => ?_
   refine G.op rfl (O.call (xs := [.tmp 23, .tmp 25]) (is := []) (Rp := []) (Rr := [.cells g5 36 [.val (.int .i64 0), .val (.int .i64 0)], .cells g4 47 (lf_T_Expr b2), .cells g3 29 (lf_T_Program b0)]) (slices_Contains_string_string_ok hr17) (.cons (.of rfl) (.cons (.of rfl) .nil)) Try.call15 rfl) fun x18 => ?_
   refine G.p rfl (V.not (b := r16) rfl) ?_
   refine G.p rfl (V.assign rfl) ?_
   refine G.nil ?_
   refine G.norm (L' := [(1, eL eS 1 b1), (3, .val (.pointer (some ⟨g3, 0, none⟩))), (5, .val (.pointer (some ⟨g4, 0, none⟩))), (6, .val (.pointer (some ⟨g5, 0, none⟩))), (7, .val (.bool (!r16)))]) (is := [1, 3, 5, 6, 7]) (R' := [.cells g5 36 [.val (.int .i64 0), .val (.int .i64 0)], .cells g4 47 (lf_T_Expr b2), .cells g3 29 (lf_T_Program b0)]) (js := [0, 0, 0]) rfl rfl ?_
   refine G.norm (L' := [(1, eL eS 1 b1), (3, .val (.pointer (some ⟨g3, 0, none⟩))), (5, .val (.pointer (some ⟨g4, 0, none⟩))), (6, .val (.pointer (some ⟨g5, 0, none⟩))), (7, .val (.bool (!r16)))]) (is := [1, 3, 5, 6, 7]) (R' := [.cells g3 29 (lf_T_Program b0), .cells g4 47 (lf_T_Expr b2), .cells g5 36 [.val (.int .i64 0), .val (.int .i64 0)]]) (js := [2, 1, 0]) rfl rfl ?_
   exact G.finE fun hb a w hA => by subst hb; exact hA
  ·refine G.norm (L' := [(1, eL eS 1 b1), (3, .val (.pointer (some ⟨g3, 0, none⟩))), (5, .val (.pointer (some ⟨g4, 0, none⟩))), (6, .val (.pointer (some ⟨g5, 0, none⟩))), (7, .val (.bool false)), (20, .val (.int .i64 b2.fKind))]) (is := [1, 3, 5, 6, 7, 20]) (R' := [.cells g5 36 [.val (.int .i64 0), .val (.int .i64 0)], .cells g4 47 (lf_T_Expr b2), .cells g3 29 (lf_T_Program b0)]) (js := [0, 0, 0]) rfl rfl ?_
   refine G.seq fun K19 hK20 => ?_
   refine G.region ?_
   refine G.p rfl (V.bin (u := .int .i64 b2.fKind) (v := .int .i64 9) (r := .bool (b2.fKind == 9)) rfl rfl b_eql) ?_
   refine G.p rfl (V.assign rfl) ?_
   refine G.nil ?_
   refine G.norm (L' := [(1, eL eS 1 b1), (3, .val (.pointer (some ⟨g3, 0, none⟩))), (5, .val (.pointer (some ⟨g4, 0, none⟩))), (6, .val (.pointer (some ⟨g5, 0, none⟩))), (7, .val (.bool false)), (20, .val (.int .i64 b2.fKind)), (28, .val (.bool (b2.fKind == 9)))]) (is := [1, 3, 5, 6, 7, 20, 28]) (R' := [.cells g5 36 [.val (.int .i64 0), .val (.int .i64 0)], .cells g4 47 (lf_T_Expr b2), .cells g3 29 (lf_T_Program b0)]) (js := [0, 0, 0]) rfl rfl ?_
   refine G.next_ hK20 ?_
   refine G.cond (b := (b2.fKind == 9)) rfl (fun hc21 => ?_) (fun hc21 => ?_)
   ·refine G.norm (L' := [(1, eL eS 1 b1), (3, .val (.pointer (some ⟨g3, 0, none⟩))), (5, .val (.pointer (some ⟨g4, 0, none⟩))), (6, .val (.pointer (some ⟨g5, 0, none⟩)))]) (is := [1, 3, 5, 6]) (R' := [.cells g5 36 [.val (.int .i64 0), .val (.int .i64 0)], .cells g4 47 (lf_T_Expr b2), .cells g3 29 (lf_T_Program b0)]) (js := [0, 0, 0]) rfl rfl ?_
    refine G.bind fun r22 hr23 => ?_
    refine G.bind fun r25 hr26 => ?_
    refine G.draw [] Try_mixed 7 rfl rfl (fun B1 => ?_)
    refine GH.take 0 rfl rfl (by kernel_rfl) (by kernel_rfl) (by kernel_rfl) (V.load_cellN (i := 2) (ds := (lf_T_Program b0)) (c1 := (lf_T_Program b0)) rfl rfl Try.isAgg29 Try.sizeOf29 rfl rfl rfl) (fun _ _ _ _ h => h) ?_
    refine GH.take 2 rfl rfl (by kernel_rfl) (by kernel_rfl) (by kernel_rfl) (Qp.qv (V.fieldAddr (o' := 2) rfl Try.runUnderlying47 rfl Try.sizeOf9 rfl)) (fun _ _ _ _ h => h) ?_
    refine GH.take 3 rfl rfl (by kernel_rfl) (by kernel_rfl) (by kernel_rfl) (V.load_cell (i := 1) (ds := (lf_T_Expr b2)) (d := .val (bs b2.fText)) rfl rfl Try.isAgg9 rfl rfl) (fun _ _ _ _ h => h) ?_
    refine GH.all [1] (by kernel_rfl) (by decide) ?_
    refine (all_cons ?_ (List.forall_mem_nil _))
    ·refine GH.loud rfl rfl (O.call (xs := [.tmp 30]) (is := []) (Rp := []) (Rr := []) (roadref2_callsOf_ok hr23) (.cons (.of rfl) .nil) Try.call24 rfl) fun x34 => ?_
     refine GH.all [4] (by kernel_rfl) (by decide) ?_
     refine (all_cons ?_ (List.forall_mem_nil _))
     ·refine GH.freeze 0 (L2' := [(31, eL eS 1 r22)]) (R' := []) rfl (fun S w h => .cons (.fz h) .nil) (fun S w h => .nil) ?_
      refine GH.loud rfl rfl (O.call (xs := [.tmp 31, .tmp 33]) (is := []) (Rp := []) (Rr := []) (slices_Contains_string_string_ok hr26) (.cons (.of rfl) (.cons (.of rfl) .nil)) Try.call15 rfl) fun x35 => ?_
      refine GH.lift Ind.val ?_
      refine GH.take 5 rfl rfl (by kernel_rfl) (by kernel_rfl) (by kernel_rfl) (Qp.qv (V.not (b := r25) rfl)) (fun _ _ _ _ h => h) ?_
      refine GH.take 6 rfl rfl (by kernel_rfl) (by kernel_rfl) (by kernel_rfl) (Qp.qv (V.assign rfl)) (fun _ _ _ _ h => h) ?_
      refine GH.done (is := [1, 3, 5, 6, 7]) (js := [0, 0, 0]) (L' := [(1, eL eS 1 b1), (3, .val (.pointer (some ⟨g3, 0, none⟩))), (5, .val (.pointer (some ⟨g4, 0, none⟩))), (6, .val (.pointer (some ⟨g5, 0, none⟩))), (7, .val (.bool (!r25)))]) (R' := [.cells g5 36 [.val (.int .i64 0), .val (.int .i64 0)], .cells g4 47 (lf_T_Expr b2), .cells g3 29 (lf_T_Program b0)]) (by kernel_rfl) rfl rfl ?_
      refine G.norm (L' := [(1, eL eS 1 b1), (3, .val (.pointer (some ⟨g3, 0, none⟩))), (5, .val (.pointer (some ⟨g4, 0, none⟩))), (6, .val (.pointer (some ⟨g5, 0, none⟩))), (7, .val (.bool (!r25)))]) (is := [1, 3, 5, 6, 7]) (R' := [.cells g3 29 (lf_T_Program b0), .cells g4 47 (lf_T_Expr b2), .cells g5 36 [.val (.int .i64 0), .val (.int .i64 0)]]) (js := [2, 1, 0]) rfl rfl ?_
      exact G.finE fun hb a w hA => by subst hb; exact hA
   ·refine G.norm (L' := [(1, eL eS 1 b1), (3, .val (.pointer (some ⟨g3, 0, none⟩))), (5, .val (.pointer (some ⟨g4, 0, none⟩))), (6, .val (.pointer (some ⟨g5, 0, none⟩))), (7, .val (.bool false)), (20, .val (.int .i64 b2.fKind))]) (is := [1, 3, 5, 6, 7, 20]) (R' := [.cells g5 36 [.val (.int .i64 0), .val (.int .i64 0)], .cells g4 47 (lf_T_Expr b2), .cells g3 29 (lf_T_Program b0)]) (js := [0, 0, 0]) rfl rfl ?_
    refine G.seq fun K36 hK37 => ?_
    refine G.region ?_
    refine G.p rfl (V.bin (u := .int .i64 b2.fKind) (v := .int .i64 12) (r := .bool (b2.fKind == 12)) rfl rfl b_eql) ?_
    refine G.p rfl (V.assign rfl) ?_
    refine G.nil ?_
    refine G.norm (L' := [(1, eL eS 1 b1), (3, .val (.pointer (some ⟨g3, 0, none⟩))), (5, .val (.pointer (some ⟨g4, 0, none⟩))), (6, .val (.pointer (some ⟨g5, 0, none⟩))), (7, .val (.bool false)), (20, .val (.int .i64 b2.fKind)), (36, .val (.bool (b2.fKind == 12)))]) (is := [1, 3, 5, 6, 7, 20, 36]) (R' := [.cells g5 36 [.val (.int .i64 0), .val (.int .i64 0)], .cells g4 47 (lf_T_Expr b2), .cells g3 29 (lf_T_Program b0)]) (js := [0, 0, 0]) rfl rfl ?_
    refine G.next_ hK37 ?_
    refine G.cond (b := (b2.fKind == 12)) rfl (fun hc38 => ?_) (fun hc38 => ?_)
    ·refine G.norm (L' := [(1, eL eS 1 b1), (3, .val (.pointer (some ⟨g3, 0, none⟩))), (5, .val (.pointer (some ⟨g4, 0, none⟩))), (6, .val (.pointer (some ⟨g5, 0, none⟩)))]) (is := [1, 3, 5, 6]) (R' := [.cells g5 36 [.val (.int .i64 0), .val (.int .i64 0)], .cells g4 47 (lf_T_Expr b2), .cells g3 29 (lf_T_Program b0)]) (js := [0, 0, 0]) rfl rfl ?_
     refine G.bind fun r39 hr40 => ?_
     refine G.bind fun r42 hr43 => ?_
     refine G.draw [] Try_mixed 7 rfl rfl (fun B1 => ?_)
     refine GH.take 0 rfl rfl (by kernel_rfl) (by kernel_rfl) (by kernel_rfl) (V.load_cellN (i := 2) (ds := (lf_T_Program b0)) (c1 := (lf_T_Program b0)) rfl rfl Try.isAgg29 Try.sizeOf29 rfl rfl rfl) (fun _ _ _ _ h => h) ?_
     refine GH.take 2 rfl rfl (by kernel_rfl) (by kernel_rfl) (by kernel_rfl) (Qp.qv (V.fieldAddr (o' := 2) rfl Try.runUnderlying47 rfl Try.sizeOf9 rfl)) (fun _ _ _ _ h => h) ?_
     refine GH.take 3 rfl rfl (by kernel_rfl) (by kernel_rfl) (by kernel_rfl) (V.load_cell (i := 1) (ds := (lf_T_Expr b2)) (d := .val (bs b2.fText)) rfl rfl Try.isAgg9 rfl rfl) (fun _ _ _ _ h => h) ?_
     refine GH.all [1] (by kernel_rfl) (by decide) ?_
     refine (all_cons ?_ (List.forall_mem_nil _))
     ·refine GH.loud rfl rfl (O.call (xs := [.tmp 38]) (is := []) (Rp := []) (Rr := []) (roadref2_makersOf_ok hr40) (.cons (.of rfl) .nil) Try.call23 rfl) fun x51 => ?_
      refine GH.all [4] (by kernel_rfl) (by decide) ?_
      refine (all_cons ?_ (List.forall_mem_nil _))
      ·refine GH.freeze 0 (L2' := [(39, eL eS 1 r39)]) (R' := []) rfl (fun S w h => .cons (.fz h) .nil) (fun S w h => .nil) ?_
       refine GH.loud rfl rfl (O.call (xs := [.tmp 39, .tmp 41]) (is := []) (Rp := []) (Rr := []) (slices_Contains_string_string_ok hr43) (.cons (.of rfl) (.cons (.of rfl) .nil)) Try.call15 rfl) fun x52 => ?_
       refine GH.lift Ind.val ?_
       refine GH.take 5 rfl rfl (by kernel_rfl) (by kernel_rfl) (by kernel_rfl) (Qp.qv (V.not (b := r42) rfl)) (fun _ _ _ _ h => h) ?_
       refine GH.take 6 rfl rfl (by kernel_rfl) (by kernel_rfl) (by kernel_rfl) (Qp.qv (V.assign rfl)) (fun _ _ _ _ h => h) ?_
       refine GH.done (is := [1, 3, 5, 6, 7]) (js := [0, 0, 0]) (L' := [(1, eL eS 1 b1), (3, .val (.pointer (some ⟨g3, 0, none⟩))), (5, .val (.pointer (some ⟨g4, 0, none⟩))), (6, .val (.pointer (some ⟨g5, 0, none⟩))), (7, .val (.bool (!r42)))]) (R' := [.cells g5 36 [.val (.int .i64 0), .val (.int .i64 0)], .cells g4 47 (lf_T_Expr b2), .cells g3 29 (lf_T_Program b0)]) (by kernel_rfl) rfl rfl ?_
       refine G.norm (L' := [(1, eL eS 1 b1), (3, .val (.pointer (some ⟨g3, 0, none⟩))), (5, .val (.pointer (some ⟨g4, 0, none⟩))), (6, .val (.pointer (some ⟨g5, 0, none⟩))), (7, .val (.bool (!r42)))]) (is := [1, 3, 5, 6, 7]) (R' := [.cells g3 29 (lf_T_Program b0), .cells g4 47 (lf_T_Expr b2), .cells g5 36 [.val (.int .i64 0), .val (.int .i64 0)]]) (js := [2, 1, 0]) rfl rfl ?_
       exact G.finE fun hb a w hA => by subst hb; exact hA
    ·refine G.norm (L' := [(1, eL eS 1 b1), (3, .val (.pointer (some ⟨g3, 0, none⟩))), (5, .val (.pointer (some ⟨g4, 0, none⟩))), (6, .val (.pointer (some ⟨g5, 0, none⟩))), (7, .val (.bool false)), (20, .val (.int .i64 b2.fKind))]) (is := [1, 3, 5, 6, 7, 20]) (R' := [.cells g5 36 [.val (.int .i64 0), .val (.int .i64 0)], .cells g4 47 (lf_T_Expr b2), .cells g3 29 (lf_T_Program b0)]) (js := [0, 0, 0]) rfl rfl ?_
     refine G.seq fun K53 hK54 => ?_
     refine G.region ?_
     refine G.p rfl (V.bin (u := .int .i64 b2.fKind) (v := .int .i64 14) (r := .bool (b2.fKind == 14)) rfl rfl b_eql) ?_
     refine G.p rfl (V.assign rfl) ?_
     refine G.nil ?_
     refine G.norm (L' := [(1, eL eS 1 b1), (3, .val (.pointer (some ⟨g3, 0, none⟩))), (5, .val (.pointer (some ⟨g4, 0, none⟩))), (6, .val (.pointer (some ⟨g5, 0, none⟩))), (7, .val (.bool false)), (20, .val (.int .i64 b2.fKind)), (44, .val (.bool (b2.fKind == 14)))]) (is := [1, 3, 5, 6, 7, 20, 44]) (R' := [.cells g5 36 [.val (.int .i64 0), .val (.int .i64 0)], .cells g4 47 (lf_T_Expr b2), .cells g3 29 (lf_T_Program b0)]) (js := [0, 0, 0]) rfl rfl ?_
     refine G.next_ hK54 ?_
     refine G.cond (b := (b2.fKind == 14)) rfl (fun hc55 => ?_) (fun hc55 => ?_)
     ·refine G.norm (L' := [(1, eL eS 1 b1), (3, .val (.pointer (some ⟨g3, 0, none⟩))), (5, .val (.pointer (some ⟨g4, 0, none⟩))), (6, .val (.pointer (some ⟨g5, 0, none⟩)))]) (is := [1, 3, 5, 6]) (R' := [.cells g5 36 [.val (.int .i64 0), .val (.int .i64 0)], .cells g4 47 (lf_T_Expr b2), .cells g3 29 (lf_T_Program b0)]) (js := [0, 0, 0]) rfl rfl ?_
      refine G.bind fun r56 hr57 => ?_
      refine G.bind fun r59 hr60 => ?_
      refine G.draw [] Try_mixed 7 rfl rfl (fun B1 => ?_)
      refine GH.take 0 rfl rfl (by kernel_rfl) (by kernel_rfl) (by kernel_rfl) (V.load_cellN (i := 2) (ds := (lf_T_Program b0)) (c1 := (lf_T_Program b0)) rfl rfl Try.isAgg29 Try.sizeOf29 rfl rfl rfl) (fun _ _ _ _ h => h) ?_
      refine GH.take 2 rfl rfl (by kernel_rfl) (by kernel_rfl) (by kernel_rfl) (Qp.qv (V.fieldAddr (o' := 2) rfl Try.runUnderlying47 rfl Try.sizeOf9 rfl)) (fun _ _ _ _ h => h) ?_
      refine GH.take 3 rfl rfl (by kernel_rfl) (by kernel_rfl) (by kernel_rfl) (V.load_cell (i := 1) (ds := (lf_T_Expr b2)) (d := .val (bs b2.fText)) rfl rfl Try.isAgg9 rfl rfl) (fun _ _ _ _ h => h) ?_
      refine GH.all [1] (by kernel_rfl) (by decide) ?_
      refine (all_cons ?_ (List.forall_mem_nil _))
      ·refine GH.loud rfl rfl (O.call (xs := [.tmp 46]) (is := []) (Rp := []) (Rr := []) (roadref2_actorsOf_ok hr57) (.cons (.of rfl) .nil) Try.call25 rfl) fun x68 => ?_
       refine GH.all [4] (by kernel_rfl) (by decide) ?_
       refine (all_cons ?_ (List.forall_mem_nil _))
       ·refine GH.freeze 0 (L2' := [(47, eL eS 1 r56)]) (R' := []) rfl (fun S w h => .cons (.fz h) .nil) (fun S w h => .nil) ?_
        refine GH.loud rfl rfl (O.call (xs := [.tmp 47, .tmp 49]) (is := []) (Rp := []) (Rr := []) (slices_Contains_string_string_ok hr60) (.cons (.of rfl) (.cons (.of rfl) .nil)) Try.call15 rfl) fun x69 => ?_
        refine GH.lift Ind.val ?_
        refine GH.take 5 rfl rfl (by kernel_rfl) (by kernel_rfl) (by kernel_rfl) (Qp.qv (V.not (b := r59) rfl)) (fun _ _ _ _ h => h) ?_
        refine GH.take 6 rfl rfl (by kernel_rfl) (by kernel_rfl) (by kernel_rfl) (Qp.qv (V.assign rfl)) (fun _ _ _ _ h => h) ?_
        refine GH.done (is := [1, 3, 5, 6, 7]) (js := [0, 0, 0]) (L' := [(1, eL eS 1 b1), (3, .val (.pointer (some ⟨g3, 0, none⟩))), (5, .val (.pointer (some ⟨g4, 0, none⟩))), (6, .val (.pointer (some ⟨g5, 0, none⟩))), (7, .val (.bool (!r59)))]) (R' := [.cells g5 36 [.val (.int .i64 0), .val (.int .i64 0)], .cells g4 47 (lf_T_Expr b2), .cells g3 29 (lf_T_Program b0)]) (by kernel_rfl) rfl rfl ?_
        refine G.norm (L' := [(1, eL eS 1 b1), (3, .val (.pointer (some ⟨g3, 0, none⟩))), (5, .val (.pointer (some ⟨g4, 0, none⟩))), (6, .val (.pointer (some ⟨g5, 0, none⟩))), (7, .val (.bool (!r59)))]) (is := [1, 3, 5, 6, 7]) (R' := [.cells g3 29 (lf_T_Program b0), .cells g4 47 (lf_T_Expr b2), .cells g5 36 [.val (.int .i64 0), .val (.int .i64 0)]]) (js := [2, 1, 0]) rfl rfl ?_
        exact G.finE fun hb a w hA => by subst hb; exact hA
     ·refine G.norm (L' := [(1, eL eS 1 b1), (3, .val (.pointer (some ⟨g3, 0, none⟩))), (5, .val (.pointer (some ⟨g4, 0, none⟩))), (6, .val (.pointer (some ⟨g5, 0, none⟩))), (7, .val (.bool false)), (20, .val (.int .i64 b2.fKind))]) (is := [1, 3, 5, 6, 7, 20]) (R' := [.cells g5 36 [.val (.int .i64 0), .val (.int .i64 0)], .cells g4 47 (lf_T_Expr b2), .cells g3 29 (lf_T_Program b0)]) (js := [0, 0, 0]) rfl rfl ?_
      refine G.seq fun K70 hK71 => ?_
      refine G.region ?_
      refine G.p rfl (V.bin (u := .int .i64 b2.fKind) (v := .int .i64 10) (r := .bool (b2.fKind == 10)) rfl rfl b_eql) ?_
      refine G.p rfl (V.assign rfl) ?_
      refine G.nil ?_
      refine G.norm (L' := [(1, eL eS 1 b1), (3, .val (.pointer (some ⟨g3, 0, none⟩))), (5, .val (.pointer (some ⟨g4, 0, none⟩))), (6, .val (.pointer (some ⟨g5, 0, none⟩))), (7, .val (.bool false)), (52, .val (.bool (b2.fKind == 10)))]) (is := [1, 3, 5, 6, 7, 52]) (R' := [.cells g5 36 [.val (.int .i64 0), .val (.int .i64 0)], .cells g4 47 (lf_T_Expr b2), .cells g3 29 (lf_T_Program b0)]) (js := [0, 0, 0]) rfl rfl ?_
      refine G.next_ hK71 ?_
      refine G.cond (b := (b2.fKind == 10)) rfl (fun hc72 => ?_) (fun hc72 => ?_)
      ·refine G.norm (L' := [(1, eL eS 1 b1), (3, .val (.pointer (some ⟨g3, 0, none⟩))), (5, .val (.pointer (some ⟨g4, 0, none⟩))), (6, .val (.pointer (some ⟨g5, 0, none⟩)))]) (is := [1, 3, 5, 6]) (R' := [.cells g5 36 [.val (.int .i64 0), .val (.int .i64 0)], .cells g4 47 (lf_T_Expr b2), .cells g3 29 (lf_T_Program b0)]) (js := [0, 0, 0]) rfl rfl ?_
       refine G.region ?_
       refine G.p rfl (V.fieldAddr (o' := 3) rfl Try.runUnderlying47 rfl Try.sizeOf30 rfl) ?_
       refine G.q rfl (V.load_cell (i := 1) (ds := (lf_T_Expr b2)) (d := eL eS 1 b2.fNames) rfl rfl Try.isAgg30 rfl rfl) ?_
       refine G.bind fun r73 hr74 => ?_
       refine G.op rfl (O.call (xs := [.tmp 55]) (is := []) (Rp := []) (Rr := [.cells g5 36 [.val (.int .i64 0), .val (.int .i64 0)], .cells g4 47 (lf_T_Expr b2), .cells g3 29 (lf_T_Program b0)]) (roadref2_doubled_ok hr74) (.cons (.of rfl) .nil) Try.call22 rfl) fun x75 => ?_
       refine G.p rfl (V.assign rfl) ?_
       refine G.nil ?_
       refine G.norm (L' := [(1, eL eS 1 b1), (3, .val (.pointer (some ⟨g3, 0, none⟩))), (5, .val (.pointer (some ⟨g4, 0, none⟩))), (6, .val (.pointer (some ⟨g5, 0, none⟩))), (7, .val (.bool r73))]) (is := [1, 3, 5, 6, 7]) (R' := [.cells g5 36 [.val (.int .i64 0), .val (.int .i64 0)], .cells g4 47 (lf_T_Expr b2), .cells g3 29 (lf_T_Program b0)]) (js := [0, 0, 0]) rfl rfl ?_
       refine G.norm (L' := [(1, eL eS 1 b1), (3, .val (.pointer (some ⟨g3, 0, none⟩))), (5, .val (.pointer (some ⟨g4, 0, none⟩))), (6, .val (.pointer (some ⟨g5, 0, none⟩))), (7, .val (.bool r73))]) (is := [1, 3, 5, 6, 7]) (R' := [.cells g3 29 (lf_T_Program b0), .cells g4 47 (lf_T_Expr b2), .cells g5 36 [.val (.int .i64 0), .val (.int .i64 0)]]) (js := [2, 1, 0]) rfl rfl ?_
       exact G.finE fun hb a w hA => by subst hb; exact hA
      ·refine G.norm (L' := [(1, eL eS 1 b1), (3, .val (.pointer (some ⟨g3, 0, none⟩))), (5, .val (.pointer (some ⟨g4, 0, none⟩))), (6, .val (.pointer (some ⟨g5, 0, none⟩))), (7, .val (.bool false))]) (is := [1, 3, 5, 6, 7]) (R' := [.cells g5 36 [.val (.int .i64 0), .val (.int .i64 0)], .cells g4 47 (lf_T_Expr b2), .cells g3 29 (lf_T_Program b0)]) (js := [0, 0, 0]) rfl rfl ?_
       refine G.skip ?_
       refine G.norm (L' := [(1, eL eS 1 b1), (3, .val (.pointer (some ⟨g3, 0, none⟩))), (5, .val (.pointer (some ⟨g4, 0, none⟩))), (6, .val (.pointer (some ⟨g5, 0, none⟩))), (7, .val (.bool false))]) (is := [1, 3, 5, 6, 7]) (R' := [.cells g3 29 (lf_T_Program b0), .cells g4 47 (lf_T_Expr b2), .cells g5 36 [.val (.int .i64 0), .val (.int .i64 0)]]) (js := [2, 1, 0]) rfl rfl ?_
       exact G.finE fun hb a w hA => by subst hb; exact hA
 ·rintro b76 hb a w hA hF77
  refine G.use hF77 hA ?_
  refine G.inB ?_
  refine G.next_ hK9 ?_
  refine G.seq fun K78 hK79 => ?_
  refine G.seq fun K80 hK81 => ?_
  refine G.region ?_
  refine G.p rfl (V.fieldAddr (o' := 6) rfl Try.runUnderlying47 rfl Try.sizeOf45 rfl) ?_
  refine G.q rfl (V.load_cell (i := 1) (ds := (lf_T_Expr b2)) (d := eL e_T_Arm 12 b2.fArms) rfl rfl Try.isAgg45 rfl rfl) ?_
  refine G.lenb (enc := e_T_Arm) (xs := b2.fArms) (sz := 12) (x := .tmp 58) (.of rfl) fun hN82 => ?_
  refine G.p rfl (V.len_sl (enc := e_T_Arm) (xs := b2.fArms) (sz := 12) (.of rfl) Try.runUnderlying45) ?_
  refine G.p rfl (V.move rfl) ?_
  refine G.nil ?_
  refine G.norm (L' := [(1, eL eS 1 b1), (3, .val (.pointer (some ⟨g3, 0, none⟩))), (5, .val (.pointer (some ⟨g4, 0, none⟩))), (6, .val (.pointer (some ⟨g5, 0, none⟩))), (7, .val (.bool b76)), (58, eL e_T_Arm 12 b2.fArms), (59, .val (.int .i64 (b2.fArms.length : Int))), (60, .val (.int .i64 0))]) (is := [1, 3, 5, 6, 7, 58, 59, 60]) (R' := [.cells g3 29 (lf_T_Program b0), .cells g4 47 (lf_T_Expr b2), .cells g5 36 [.val (.int .i64 0), .val (.int .i64 0)]]) (js := [0, 0, 0]) rfl rfl ?_
  refine G.next_ hK81 ?_
  refine G.join (E := fun b a w => Ass Gl B 160 [(1, eL eS 1 b1), (3, .val (.pointer (some ⟨g3, 0, none⟩))), (5, .val (.pointer (some ⟨g4, 0, none⟩))), (6, .val (.pointer (some ⟨g5, 0, none⟩))), (7, .val (.bool b))] [.cells g3 29 (lf_T_Program b0), .cells g4 47 (lf_T_Expr b2), .cells g5 36 [.val (.int .i64 0), .val (.int .i64 0)]] a w) ?_ ?_
  ·intro b hF89
   refine G.block ?_
   refine G.norm (L' := [(1, eL eS 1 b1), (3, .val (.pointer (some ⟨g3, 0, none⟩))), (5, .val (.pointer (some ⟨g4, 0, none⟩))), (6, .val (.pointer (some ⟨g5, 0, none⟩))), (7, .val (.bool b76)), (58, eL e_T_Arm 12 b2.fArms), (59, .val (.int .i64 (b2.fArms.length : Int))), (60, .val (.int .i64 ((0 : Nat) : Int)))]) (is := [1, 3, 5, 6, 7, 58, 59, 60]) (R' := [.cells g3 29 (lf_T_Program b0), .cells g4 47 (lf_T_Expr b2), .cells g5 36 [.val (.int .i64 0), .val (.int .i64 0)]]) (js := [0, 0, 0]) rfl rfl ?_
   refine G.loop (fun kq a w => ∃ (rest86 : List (T_Arm)) (i84 : Nat) (x83 : Bool), kq = rest86.length ∧ roadref2_scopeExpr.l1 b0 k rest86 x83 = some b ∧ b2.fArms.drop i84 = rest86 ∧ Ass Gl B 160 [(1, eL eS 1 b1), (3, .val (.pointer (some ⟨g3, 0, none⟩))), (5, .val (.pointer (some ⟨g4, 0, none⟩))), (6, .val (.pointer (some ⟨g5, 0, none⟩))), (7, .val (.bool x83)), (58, eL e_T_Arm 12 b2.fArms), (59, .val (.int .i64 (b2.fArms.length : Int))), (60, .val (.int .i64 (i84 : Int)))] [.cells g3 29 (lf_T_Program b0), .cells g4 47 (lf_T_Expr b2), .cells g5 36 [.val (.int .i64 0), .val (.int .i64 0)]] a w) (b2.fArms.length) ?_ ?_
   ·intro hl178 a w hA
    exact ⟨b2.fArms, 0, b76, rfl, hl178, rfl, hA⟩
   ·rintro _ a w ⟨rest86, i84, x83, rfl, hl90, hd87, hA⟩
    rcases rest86 with _ | ⟨y85, rest86⟩
    ·rw [roadref2_scopeExpr.l1_nil] at hl90
     refine G.use hl90 hA ?_
     refine G.seq fun K91 hK92 => ?_
     refine G.region ?_
     refine G.p rfl (V.bin (u := .int .i64 (i84 : Int)) (v := .int .i64 (b2.fArms.length : Int)) (r := .bool (decide ((i84 : Int) < (b2.fArms.length : Int)))) rfl rfl b_lss) ?_
     refine G.nil ?_
     refine G.norm (L' := [(1, eL eS 1 b1), (3, .val (.pointer (some ⟨g3, 0, none⟩))), (5, .val (.pointer (some ⟨g4, 0, none⟩))), (6, .val (.pointer (some ⟨g5, 0, none⟩))), (7, .val (.bool x83)), (58, eL e_T_Arm 12 b2.fArms), (59, .val (.int .i64 (b2.fArms.length : Int))), (60, .val (.int .i64 (i84 : Int))), (61, .val (.bool (decide ((i84 : Int) < (b2.fArms.length : Int)))))]) (is := [1, 3, 5, 6, 7, 58, 59, 60, 61]) (R' := [.cells g3 29 (lf_T_Program b0), .cells g4 47 (lf_T_Expr b2), .cells g5 36 [.val (.int .i64 0), .val (.int .i64 0)]]) (js := [0, 0, 0]) rfl rfl ?_
     refine G.next_ hK92 ?_
     refine G.seq fun K93 hK94 => ?_
     refine G.no rfl (rng_end hd87) ?_
     refine G.exit ?_
     refine G.thn_exit ?_
     refine G.thn_exit ?_
     refine G.inB_eq ?_
     refine G.norm (L' := [(1, eL eS 1 b1), (3, .val (.pointer (some ⟨g3, 0, none⟩))), (5, .val (.pointer (some ⟨g4, 0, none⟩))), (6, .val (.pointer (some ⟨g5, 0, none⟩))), (7, .val (.bool x83))]) (is := [1, 3, 5, 6, 7]) (R' := [.cells g3 29 (lf_T_Program b0), .cells g4 47 (lf_T_Expr b2), .cells g5 36 [.val (.int .i64 0), .val (.int .i64 0)]]) (js := [0, 0, 0]) rfl rfl ?_
     exact G.finE fun hb a w hA => by subst hb; exact hA
    ·rw [roadref2_scopeExpr.l1_cons] at hl90
     refine G.use hl90 hA ?_
     refine G.seq fun K95 hK96 => ?_
     refine G.region ?_
     refine G.p rfl (V.bin (u := .int .i64 (i84 : Int)) (v := .int .i64 (b2.fArms.length : Int)) (r := .bool (decide ((i84 : Int) < (b2.fArms.length : Int)))) rfl rfl b_lss) ?_
     refine G.nil ?_
     refine G.norm (L' := [(1, eL eS 1 b1), (3, .val (.pointer (some ⟨g3, 0, none⟩))), (5, .val (.pointer (some ⟨g4, 0, none⟩))), (6, .val (.pointer (some ⟨g5, 0, none⟩))), (7, .val (.bool x83)), (58, eL e_T_Arm 12 b2.fArms), (59, .val (.int .i64 (b2.fArms.length : Int))), (60, .val (.int .i64 (i84 : Int))), (61, .val (.bool (decide ((i84 : Int) < (b2.fArms.length : Int)))))]) (is := [1, 3, 5, 6, 7, 58, 59, 60, 61]) (R' := [.cells g3 29 (lf_T_Program b0), .cells g4 47 (lf_T_Expr b2), .cells g5 36 [.val (.int .i64 0), .val (.int .i64 0)]]) (js := [0, 0, 0]) rfl rfl ?_
     refine G.next_ hK96 ?_
     refine G.seq fun K97 hK98 => ?_
     refine G.yes rfl (rng_more hd87) ?_
     refine G.skip ?_
     refine G.next_ hK98 ?_
     refine G.seq fun K99 hK100 => ?_
     refine G.block ?_
     refine G.seq fun K101 hK102 => ?_
     refine G.region ?_
     refine G.p rfl (V.at_sl (k := i84) rfl rfl Try.runUnderlying45 Try.sizeOf85 (map_at (rng_at hd87))) ?_
     refine G.q rfl (V.load_ptrN (ds := (lf_T_Arm y85)) rfl (e_T_Arm_eq y85) Try.isAgg85 Try.sizeOf85 rfl) ?_
     refine G.op rfl (O.alloc (ds := [.val (.int .i64 0), .val (.int .i64 0), .val (bs ([] : Str)), .val (.slice none 0 0), .val (.int .i64 0), .val (.int .i64 0), .val (bs ([] : Str)), .val (.slice none 0 0), .val (.slice none 0 0), .val (.slice none 0 0), .val (.slice none 0 0), .val (.int .i64 0)]) Try.zeroValue85 rfl) fun g103 => ?_
     refine G.opn (O.store (i := 0) (o := 0) (ds := [.val (.int .i64 0), .val (.int .i64 0), .val (bs ([] : Str)), .val (.slice none 0 0), .val (.int .i64 0), .val (.int .i64 0), .val (bs ([] : Str)), .val (.slice none 0 0), .val (.slice none 0 0), .val (.slice none 0 0), .val (.slice none 0 0), .val (.int .i64 0)]) rfl (.of rfl) rfl (OneC.agg (List.forall_mem_cons.2 ⟨(.val rfl), (List.forall_mem_cons.2 ⟨(.val rfl), (List.forall_mem_cons.2 ⟨(.val rfl), (List.forall_mem_cons.2 ⟨.sl, (List.forall_mem_cons.2 ⟨(.val rfl), (List.forall_mem_cons.2 ⟨(.val rfl), (List.forall_mem_cons.2 ⟨(.val rfl), (List.forall_mem_cons.2 ⟨.sl, (List.forall_mem_cons.2 ⟨.sl, (List.forall_mem_cons.2 ⟨.sl, (List.forall_mem_cons.2 ⟨.sl, (List.forall_mem_cons.2 ⟨(.val rfl), (List.forall_mem_nil _)⟩)⟩)⟩)⟩)⟩)⟩)⟩)⟩)⟩)⟩)⟩)⟩)) Try.sizeOf85 rfl rfl) fun _ => ?_
     refine G.nil ?_
     refine G.norm (L' := [(1, eL eS 1 b1), (3, .val (.pointer (some ⟨g3, 0, none⟩))), (5, .val (.pointer (some ⟨g4, 0, none⟩))), (6, .val (.pointer (some ⟨g5, 0, none⟩))), (7, .val (.bool x83)), (9, .val (.pointer (some ⟨g103, 0, none⟩))), (58, eL e_T_Arm 12 b2.fArms), (59, .val (.int .i64 (b2.fArms.length : Int))), (60, .val (.int .i64 (i84 : Int)))]) (is := [1, 3, 5, 6, 7, 9, 58, 59, 60]) (R' := [.cells g103 85 (lf_T_Arm y85), .cells g3 29 (lf_T_Program b0), .cells g4 47 (lf_T_Expr b2), .cells g5 36 [.val (.int .i64 0), .val (.int .i64 0)]]) (js := [0, 0, 0, 0]) rfl rfl ?_
     refine G.next_ hK102 ?_
     refine G.seq fun K104 hK105 => ?_
     refine G.region ?_
     refine G.p rfl (V.move rfl) ?_
     refine G.p rfl (V.move rfl) ?_
     refine G.part 5 (fun b a w => Ass Gl B 160 [(1, eL eS 1 b1), (3, .val (.pointer (some ⟨g3, 0, none⟩))), (5, .val (.pointer (some ⟨g4, 0, none⟩))), (6, .val (.pointer (some ⟨g5, 0, none⟩))), (7, .val (.bool x83)), (9, .val (.pointer (some ⟨g103, 0, none⟩))), (58, eL e_T_Arm 12 b2.fArms), (59, .val (.int .i64 (b2.fArms.length : Int))), (60, .val (.int .i64 (i84 : Int))), (64, .val (.bool x83)), (65, .val (.bool x83)), (70, .val (.bool b))] [.cells g3 29 (lf_T_Program b0), .cells g4 47 (lf_T_Expr b2), .cells g5 36 [.val (.int .i64 0), .val (.int .i64 0)], .cells g103 85 (lf_T_Arm y85)] a w) ?_ ?_
     ·intro b
      refine G.ifb (fun hc106 => ?_) (fun hc106 => ?_)
      ·refine G.skip_s rfl rfl hc106 rfl ?_
       refine G.skip_s rfl rfl hc106 rfl ?_
       refine G.skip_s rfl rfl hc106 rfl ?_
       refine G.skip_s rfl rfl hc106 rfl ?_
       refine G.p rfl (V.pick_yes (dv := .val (.bool true)) rfl hc106 rfl) ?_
       refine G.nil ?_
       refine G.norm (L' := [(1, eL eS 1 b1), (3, .val (.pointer (some ⟨g3, 0, none⟩))), (5, .val (.pointer (some ⟨g4, 0, none⟩))), (6, .val (.pointer (some ⟨g5, 0, none⟩))), (7, .val (.bool x83)), (9, .val (.pointer (some ⟨g103, 0, none⟩))), (58, eL e_T_Arm 12 b2.fArms), (59, .val (.int .i64 (b2.fArms.length : Int))), (60, .val (.int .i64 (i84 : Int))), (64, .val (.bool x83)), (65, .val (.bool x83)), (70, .val (.bool true))]) (is := [1, 3, 5, 6, 7, 9, 58, 59, 60, 64, 65, 70]) (R' := [.cells g3 29 (lf_T_Program b0), .cells g4 47 (lf_T_Expr b2), .cells g5 36 [.val (.int .i64 0), .val (.int .i64 0)], .cells g103 85 (lf_T_Arm y85)]) (js := [1, 1, 1, 0]) rfl rfl ?_
       exact G.finE fun hb a w hA => by subst hb; exact hA
      ·refine G.guard_yes rfl rfl hc106 ?_
       refine G.p rfl (V.fieldAddr (o' := 0) rfl Try.runUnderlying85 rfl Try.sizeOf83 rfl) ?_
       refine G.guard_yes rfl rfl hc106 ?_
       refine G.q rfl (V.load_cellN (i := 0) (ds := (lf_T_Arm y85)) (c1 := (lf_T_Pat y85.fPat)) rfl rfl Try.isAgg83 Try.sizeOf83 rfl rfl rfl) ?_
       refine G.guard_yes rfl rfl hc106 ?_
       refine G.bind fun r109 hr110 => ?_
       refine G.op rfl (O.call (xs := [.tmp 67]) (is := []) (Rp := []) (Rr := [.cells g103 85 (lf_T_Arm y85), .cells g3 29 (lf_T_Program b0), .cells g4 47 (lf_T_Expr b2), .cells g5 36 [.val (.int .i64 0), .val (.int .i64 0)]]) (roadref2_NamesOf_ok k hr110) (.cons (.of rfl) .nil) Try.call36 rfl) fun x111 => ?_
       refine G.guard_yes rfl rfl hc106 ?_
       refine G.norm (L' := [(1, eL eS 1 b1), (3, .val (.pointer (some ⟨g3, 0, none⟩))), (5, .val (.pointer (some ⟨g4, 0, none⟩))), (6, .val (.pointer (some ⟨g5, 0, none⟩))), (7, .val (.bool x83)), (9, .val (.pointer (some ⟨g103, 0, none⟩))), (58, eL e_T_Arm 12 b2.fArms), (59, .val (.int .i64 (b2.fArms.length : Int))), (60, .val (.int .i64 (i84 : Int))), (64, .val (.bool x83)), (65, .val (.bool x83)), (66, .val (.pointer (some ⟨g103, 0, none⟩))), (67, .agg (lf_T_Pat y85.fPat)), (68, .val x111)]) (is := [1, 3, 5, 6, 7, 9, 58, 59, 60, 64, 65, 66, 67, 68]) (R' := [.row x111 9 1 (r109.map eS), .cells g103 85 (lf_T_Arm y85), .cells g3 29 (lf_T_Program b0), .cells g4 47 (lf_T_Expr b2), .cells g5 36 [.val (.int .i64 0), .val (.int .i64 0)]]) (js := [0, 0, 0, 0, 0]) rfl rfl ?_
       refine G.freeze 0 (L' := [(1, eL eS 1 b1), (3, .val (.pointer (some ⟨g3, 0, none⟩))), (5, .val (.pointer (some ⟨g4, 0, none⟩))), (6, .val (.pointer (some ⟨g5, 0, none⟩))), (7, .val (.bool x83)), (9, .val (.pointer (some ⟨g103, 0, none⟩))), (58, eL e_T_Arm 12 b2.fArms), (59, .val (.int .i64 (b2.fArms.length : Int))), (60, .val (.int .i64 (i84 : Int))), (64, .val (.bool x83)), (65, .val (.bool x83)), (66, .val (.pointer (some ⟨g103, 0, none⟩))), (67, .agg (lf_T_Pat y85.fPat)), (68, eL eS 1 r109)]) (R' := [.cells g103 85 (lf_T_Arm y85), .cells g3 29 (lf_T_Program b0), .cells g4 47 (lf_T_Expr b2), .cells g5 36 [.val (.int .i64 0), .val (.int .i64 0)]]) rfl (fun S w h => .cons .refl (.cons .refl (.cons .refl (.cons .refl (.cons .refl (.cons .refl (.cons .refl (.cons .refl (.cons .refl (.cons .refl (.cons .refl (.cons .refl (.cons .refl (.cons (.fz h) .nil)))))))))))))) (fun S w h => .same (.same (.same (.same .nil)))) ?_
       refine G.bind fun r112 hr113 => ?_
       refine G.op rfl (O.call (xs := [.tmp 68]) (is := []) (Rp := []) (Rr := [.cells g103 85 (lf_T_Arm y85), .cells g3 29 (lf_T_Program b0), .cells g4 47 (lf_T_Expr b2), .cells g5 36 [.val (.int .i64 0), .val (.int .i64 0)]]) (roadref2_doubled_ok hr113) (.cons (.of rfl) .nil) Try.call22 rfl) fun x114 => ?_
       refine G.p rfl (V.pick_no (dv := .val (.bool r112)) rfl hc106 rfl) ?_
       refine G.nil ?_
       refine G.norm (L' := [(1, eL eS 1 b1), (3, .val (.pointer (some ⟨g3, 0, none⟩))), (5, .val (.pointer (some ⟨g4, 0, none⟩))), (6, .val (.pointer (some ⟨g5, 0, none⟩))), (7, .val (.bool x83)), (9, .val (.pointer (some ⟨g103, 0, none⟩))), (58, eL e_T_Arm 12 b2.fArms), (59, .val (.int .i64 (b2.fArms.length : Int))), (60, .val (.int .i64 (i84 : Int))), (64, .val (.bool x83)), (65, .val (.bool x83)), (70, .val (.bool r112))]) (is := [1, 3, 5, 6, 7, 9, 58, 59, 60, 64, 65, 70]) (R' := [.cells g3 29 (lf_T_Program b0), .cells g4 47 (lf_T_Expr b2), .cells g5 36 [.val (.int .i64 0), .val (.int .i64 0)], .cells g103 85 (lf_T_Arm y85)]) (js := [1, 1, 1, 0]) rfl rfl ?_
       exact G.finE fun hb a w hA => by subst hb; exact hA
     ·rintro t107 hb a w hA hF
      refine G.use hF hA ?_
      refine G.p rfl (V.assign rfl) ?_
      refine G.nil ?_
      refine G.norm (L' := [(1, eL eS 1 b1), (3, .val (.pointer (some ⟨g3, 0, none⟩))), (5, .val (.pointer (some ⟨g4, 0, none⟩))), (6, .val (.pointer (some ⟨g5, 0, none⟩))), (7, .val (.bool t107)), (9, .val (.pointer (some ⟨g103, 0, none⟩))), (58, eL e_T_Arm 12 b2.fArms), (59, .val (.int .i64 (b2.fArms.length : Int))), (60, .val (.int .i64 (i84 : Int)))]) (is := [1, 3, 5, 6, 7, 9, 58, 59, 60]) (R' := [.cells g3 29 (lf_T_Program b0), .cells g4 47 (lf_T_Expr b2), .cells g5 36 [.val (.int .i64 0), .val (.int .i64 0)], .cells g103 85 (lf_T_Arm y85)]) (js := [0, 0, 0, 0]) rfl rfl ?_
      refine G.next_ hK105 ?_
      refine G.seq fun K115 hK116 => ?_
      refine G.region ?_
      refine G.p rfl (V.fieldAddr (o' := 0) rfl Try.runUnderlying85 rfl Try.sizeOf83 rfl) ?_
      refine G.q rfl (V.load_cellN (i := 3) (ds := (lf_T_Arm y85)) (c1 := (lf_T_Pat y85.fPat)) rfl rfl Try.isAgg83 Try.sizeOf83 rfl rfl rfl) ?_
      refine G.bind fun r117 hr118 => ?_
      refine G.op rfl (O.call (xs := [.tmp 72]) (is := []) (Rp := []) (Rr := [.cells g3 29 (lf_T_Program b0), .cells g4 47 (lf_T_Expr b2), .cells g5 36 [.val (.int .i64 0), .val (.int .i64 0)], .cells g103 85 (lf_T_Arm y85)]) (roadref2_pats_ok k hr118) (.cons (.of rfl) .nil) Try.call30 rfl) fun x119 => ?_
      refine G.lenr (i := 0) (enc := e_T_Pat) (xs := r117) rfl fun hN120 => ?_
      refine G.q rfl (V.len_row (j := 0) (enc := e_T_Pat) (xs := r117) rfl rfl Try.runUnderlying81) ?_
      refine G.p rfl (V.move rfl) ?_
      refine G.nil ?_
      refine G.norm (L' := [(1, eL eS 1 b1), (3, .val (.pointer (some ⟨g3, 0, none⟩))), (5, .val (.pointer (some ⟨g4, 0, none⟩))), (6, .val (.pointer (some ⟨g5, 0, none⟩))), (7, .val (.bool t107)), (58, eL e_T_Arm 12 b2.fArms), (59, .val (.int .i64 (b2.fArms.length : Int))), (60, .val (.int .i64 (i84 : Int))), (73, .val x119), (74, .val (.int .i64 (r117.length : Int))), (75, .val (.int .i64 0))]) (is := [1, 3, 5, 6, 7, 58, 59, 60, 73, 74, 75]) (R' := [.row x119 83 4 (r117.map e_T_Pat), .cells g3 29 (lf_T_Program b0), .cells g4 47 (lf_T_Expr b2), .cells g5 36 [.val (.int .i64 0), .val (.int .i64 0)]]) (js := [0, 0, 0, 0]) rfl rfl ?_
      refine G.next_ hK116 ?_
      refine G.join (E := fun b a w => Ass Gl B 160 [(1, eL eS 1 b1), (3, .val (.pointer (some ⟨g3, 0, none⟩))), (5, .val (.pointer (some ⟨g4, 0, none⟩))), (6, .val (.pointer (some ⟨g5, 0, none⟩))), (7, .val (.bool b)), (58, eL e_T_Arm 12 b2.fArms), (59, .val (.int .i64 (b2.fArms.length : Int))), (60, .val (.int .i64 (i84 : Int)))] [.cells g3 29 (lf_T_Program b0), .cells g4 47 (lf_T_Expr b2), .cells g5 36 [.val (.int .i64 0), .val (.int .i64 0)]] a w) ?_ ?_
      ·intro b hF127
       refine G.block ?_
       refine G.norm (L' := [(1, eL eS 1 b1), (3, .val (.pointer (some ⟨g3, 0, none⟩))), (5, .val (.pointer (some ⟨g4, 0, none⟩))), (6, .val (.pointer (some ⟨g5, 0, none⟩))), (7, .val (.bool t107)), (58, eL e_T_Arm 12 b2.fArms), (59, .val (.int .i64 (b2.fArms.length : Int))), (60, .val (.int .i64 (i84 : Int))), (73, .val x119), (74, .val (.int .i64 (r117.length : Int))), (75, .val (.int .i64 ((0 : Nat) : Int)))]) (is := [1, 3, 5, 6, 7, 58, 59, 60, 73, 74, 75]) (R' := [.cells g3 29 (lf_T_Program b0), .cells g4 47 (lf_T_Expr b2), .cells g5 36 [.val (.int .i64 0), .val (.int .i64 0)], .row x119 83 4 (r117.map e_T_Pat)]) (js := [1, 1, 1, 0]) rfl rfl ?_
       refine G.loop (fun kq a w => ∃ (rest124 : List (T_Pat)) (i122 : Nat) (x121 : Bool), kq = rest124.length ∧ roadref2_scopeExpr.l2 b0 rest124 x121 = some b ∧ r117.drop i122 = rest124 ∧ Ass Gl B 160 [(1, eL eS 1 b1), (3, .val (.pointer (some ⟨g3, 0, none⟩))), (5, .val (.pointer (some ⟨g4, 0, none⟩))), (6, .val (.pointer (some ⟨g5, 0, none⟩))), (7, .val (.bool x121)), (58, eL e_T_Arm 12 b2.fArms), (59, .val (.int .i64 (b2.fArms.length : Int))), (60, .val (.int .i64 (i84 : Int))), (73, .val x119), (74, .val (.int .i64 (r117.length : Int))), (75, .val (.int .i64 (i122 : Int)))] [.cells g3 29 (lf_T_Program b0), .cells g4 47 (lf_T_Expr b2), .cells g5 36 [.val (.int .i64 0), .val (.int .i64 0)], .row x119 83 4 (r117.map e_T_Pat)] a w) (r117.length) ?_ ?_
       ·intro hl174 a w hA
        exact ⟨r117, 0, t107, rfl, hl174, rfl, hA⟩
       ·rintro _ a w ⟨rest124, i122, x121, rfl, hl128, hd125, hA⟩
        rcases rest124 with _ | ⟨y123, rest124⟩
        ·rw [roadref2_scopeExpr.l2_nil] at hl128
         refine G.use hl128 hA ?_
         refine G.seq fun K129 hK130 => ?_
         refine G.region ?_
         refine G.p rfl (V.bin (u := .int .i64 (i122 : Int)) (v := .int .i64 (r117.length : Int)) (r := .bool (decide ((i122 : Int) < (r117.length : Int)))) rfl rfl b_lss) ?_
         refine G.nil ?_
         refine G.norm (L' := [(1, eL eS 1 b1), (3, .val (.pointer (some ⟨g3, 0, none⟩))), (5, .val (.pointer (some ⟨g4, 0, none⟩))), (6, .val (.pointer (some ⟨g5, 0, none⟩))), (7, .val (.bool x121)), (58, eL e_T_Arm 12 b2.fArms), (59, .val (.int .i64 (b2.fArms.length : Int))), (60, .val (.int .i64 (i84 : Int))), (73, .val x119), (74, .val (.int .i64 (r117.length : Int))), (75, .val (.int .i64 (i122 : Int))), (76, .val (.bool (decide ((i122 : Int) < (r117.length : Int)))))]) (is := [1, 3, 5, 6, 7, 58, 59, 60, 73, 74, 75, 76]) (R' := [.cells g3 29 (lf_T_Program b0), .cells g4 47 (lf_T_Expr b2), .cells g5 36 [.val (.int .i64 0), .val (.int .i64 0)], .row x119 83 4 (r117.map e_T_Pat)]) (js := [0, 0, 0, 0]) rfl rfl ?_
         refine G.next_ hK130 ?_
         refine G.seq fun K131 hK132 => ?_
         refine G.no rfl (rng_end hd125) ?_
         refine G.exit ?_
         refine G.thn_exit ?_
         refine G.thn_exit ?_
         refine G.inB_eq ?_
         refine G.norm (L' := [(1, eL eS 1 b1), (3, .val (.pointer (some ⟨g3, 0, none⟩))), (5, .val (.pointer (some ⟨g4, 0, none⟩))), (6, .val (.pointer (some ⟨g5, 0, none⟩))), (7, .val (.bool x121)), (58, eL e_T_Arm 12 b2.fArms), (59, .val (.int .i64 (b2.fArms.length : Int))), (60, .val (.int .i64 (i84 : Int)))]) (is := [1, 3, 5, 6, 7, 58, 59, 60]) (R' := [.cells g3 29 (lf_T_Program b0), .cells g4 47 (lf_T_Expr b2), .cells g5 36 [.val (.int .i64 0), .val (.int .i64 0)]]) (js := [0, 0, 0]) rfl rfl ?_
         exact G.finE fun hb a w hA => by subst hb; exact hA
        ·rw [roadref2_scopeExpr.l2_cons] at hl128
         refine G.use hl128 hA ?_
         refine G.seq fun K133 hK134 => ?_
         refine G.region ?_
         refine G.p rfl (V.bin (u := .int .i64 (i122 : Int)) (v := .int .i64 (r117.length : Int)) (r := .bool (decide ((i122 : Int) < (r117.length : Int)))) rfl rfl b_lss) ?_
         refine G.nil ?_
         refine G.norm (L' := [(1, eL eS 1 b1), (3, .val (.pointer (some ⟨g3, 0, none⟩))), (5, .val (.pointer (some ⟨g4, 0, none⟩))), (6, .val (.pointer (some ⟨g5, 0, none⟩))), (7, .val (.bool x121)), (58, eL e_T_Arm 12 b2.fArms), (59, .val (.int .i64 (b2.fArms.length : Int))), (60, .val (.int .i64 (i84 : Int))), (73, .val x119), (74, .val (.int .i64 (r117.length : Int))), (75, .val (.int .i64 (i122 : Int))), (76, .val (.bool (decide ((i122 : Int) < (r117.length : Int)))))]) (is := [1, 3, 5, 6, 7, 58, 59, 60, 73, 74, 75, 76]) (R' := [.cells g3 29 (lf_T_Program b0), .cells g4 47 (lf_T_Expr b2), .cells g5 36 [.val (.int .i64 0), .val (.int .i64 0)], .row x119 83 4 (r117.map e_T_Pat)]) (js := [0, 0, 0, 0]) rfl rfl ?_
         refine G.next_ hK134 ?_
         refine G.seq fun K135 hK136 => ?_
         refine G.yes rfl (rng_more hd125) ?_
         refine G.skip ?_
         refine G.next_ hK136 ?_
         refine G.seq fun K137 hK138 => ?_
         refine G.block ?_
         refine G.seq fun K139 hK140 => ?_
         refine G.region ?_
         refine G.q rfl (V.atT_row (k := i122) (i := 3) (enc := e_T_Pat) (xs := r117) rfl rfl rfl Try.runUnderlying81 Try.sizeOf83 (rng_at hd125)) ?_
         refine G.q rfl (V.rowTN (i := 3) (enc := e_T_Pat) (xs := r117) (j := 0) (c1 := (lf_T_Pat y123)) i122 rfl rfl (rng_at hd125) rfl (c_T_Pat _) rfl rfl rfl Try.isAgg83 Try.sizeOf83) ?_
         refine G.op rfl (O.alloc (ds := [.val (.int .i64 0), .val (.int .i64 0), .val (bs ([] : Str)), .val (.slice none 0 0)]) Try.zeroValue83 rfl) fun g141 => ?_
         refine G.opn (O.store (i := 0) (o := 0) (ds := [.val (.int .i64 0), .val (.int .i64 0), .val (bs ([] : Str)), .val (.slice none 0 0)]) rfl (.of rfl) rfl (OneC.agg (List.forall_mem_cons.2 ⟨(.val rfl), (List.forall_mem_cons.2 ⟨(.val rfl), (List.forall_mem_cons.2 ⟨(.val rfl), (List.forall_mem_cons.2 ⟨.sl, (List.forall_mem_nil _)⟩)⟩)⟩)⟩)) Try.sizeOf83 rfl rfl) fun _ => ?_
         refine G.nil ?_
         refine G.norm (L' := [(1, eL eS 1 b1), (3, .val (.pointer (some ⟨g3, 0, none⟩))), (5, .val (.pointer (some ⟨g4, 0, none⟩))), (6, .val (.pointer (some ⟨g5, 0, none⟩))), (7, .val (.bool x121)), (11, .val (.pointer (some ⟨g141, 0, none⟩))), (58, eL e_T_Arm 12 b2.fArms), (59, .val (.int .i64 (b2.fArms.length : Int))), (60, .val (.int .i64 (i84 : Int))), (73, .val x119), (74, .val (.int .i64 (r117.length : Int))), (75, .val (.int .i64 (i122 : Int)))]) (is := [1, 3, 5, 6, 7, 11, 58, 59, 60, 73, 74, 75]) (R' := [.cells g141 83 (lf_T_Pat y123), .cells g3 29 (lf_T_Program b0), .cells g4 47 (lf_T_Expr b2), .cells g5 36 [.val (.int .i64 0), .val (.int .i64 0)], .row x119 83 4 (r117.map e_T_Pat)]) (js := [0, 0, 0, 0, 0]) rfl rfl ?_
         refine G.next_ hK140 ?_
         refine G.bind fun t150 ht151 => ?_
         refine G.cutc (fun a w => Ass Gl B 160 [(1, eL eS 1 b1), (3, .val (.pointer (some ⟨g3, 0, none⟩))), (5, .val (.pointer (some ⟨g4, 0, none⟩))), (6, .val (.pointer (some ⟨g5, 0, none⟩))), (7, .val (.bool t150)), (58, eL e_T_Arm 12 b2.fArms), (59, .val (.int .i64 (b2.fArms.length : Int))), (60, .val (.int .i64 (i84 : Int))), (73, .val x119), (74, .val (.int .i64 (r117.length : Int))), (75, .val (.int .i64 (i122 : Int)))] [.cells g3 29 (lf_T_Program b0), .cells g4 47 (lf_T_Expr b2), .cells g5 36 [.val (.int .i64 0), .val (.int .i64 0)], .row x119 83 4 (r117.map e_T_Pat)] a w) ?_ ?_
         ·refine G.draw [] Try_mixed 15 rfl rfl (fun B1 => ?_)
          refine GH.take 0 rfl rfl (by kernel_rfl) (by kernel_rfl) (by kernel_rfl) (Qp.qv (V.move rfl)) (fun _ _ _ _ h => h) ?_
          refine GH.take 1 rfl rfl (by kernel_rfl) (by kernel_rfl) (by kernel_rfl) (Qp.qv (V.move rfl)) (fun _ _ _ _ h => h) ?_
          refine GH.byb (c := x121) (fun hc152 => ?_) (fun hc152 => ?_)
          ·have hp153 := ifp ht151 hc152
           have ht154 := Option.some.inj hp153
           refine GH.take_n 2 rfl rfl (by kernel_rfl) (by kernel_rfl) (by kernel_rfl) rfl rfl hc152 (fun _ _ _ _ h => h) ?_
           refine GH.take_n 3 rfl rfl (by kernel_rfl) (by kernel_rfl) (by kernel_rfl) rfl rfl hc152 (fun _ _ _ _ h => h) ?_
           refine GH.take_n 4 rfl rfl (by kernel_rfl) (by kernel_rfl) (by kernel_rfl) rfl rfl hc152 (fun _ _ _ _ h => h) ?_
           refine GH.take_n 5 rfl rfl (by kernel_rfl) (by kernel_rfl) (by kernel_rfl) rfl rfl hc152 (fun _ _ _ _ h => h) ?_
           refine GH.take_u 6 rfl rfl (by kernel_rfl) (by kernel_rfl) (by kernel_rfl) rfl rfl (fun _ _ _ _ h => h) ?_
           refine GH.take_u 7 rfl rfl (by kernel_rfl) (by kernel_rfl) (by kernel_rfl) rfl rfl (fun _ _ _ _ h => h) ?_
           refine GH.take_u 8 rfl rfl (by kernel_rfl) (by kernel_rfl) (by kernel_rfl) rfl rfl (fun _ _ _ _ h => h) ?_
           refine GH.take_u 9 rfl rfl (by kernel_rfl) (by kernel_rfl) (by kernel_rfl) rfl rfl (fun _ _ _ _ h => h) ?_
           refine GH.take_u 10 rfl rfl (by kernel_rfl) (by kernel_rfl) (by kernel_rfl) rfl rfl (fun _ _ _ _ h => h) ?_
           refine GH.take_u 11 rfl rfl (by kernel_rfl) (by kernel_rfl) (by kernel_rfl) rfl rfl (fun _ _ _ _ h => h) ?_
           refine GH.take_n 12 rfl rfl (by kernel_rfl) (by kernel_rfl) (by kernel_rfl) rfl rfl hc152 (fun _ _ _ _ h => h) ?_
           refine GH.takep 13 rfl rfl (by kernel_rfl) (by kernel_rfl) (by kernel_rfl) (V.pick_yes (dv := .val (.bool true)) rfl hc152 rfl) (fun _ _ _ _ h => h) ?_
           refine GH.view (congrArg (fun z => D.val (.bool z)) ht154) ?_
           refine GH.lift Ind.val ?_
           refine GH.take 14 rfl rfl (by kernel_rfl) (by kernel_rfl) (by kernel_rfl) (Qp.qv (V.assign rfl)) (fun _ _ _ _ h => h) ?_
           refine GH.done (is := [1, 3, 5, 6, 7, 58, 59, 60, 73, 74, 75]) (js := [1, 1, 1, 1]) (L' := [(1, eL eS 1 b1), (3, .val (.pointer (some ⟨g3, 0, none⟩))), (5, .val (.pointer (some ⟨g4, 0, none⟩))), (6, .val (.pointer (some ⟨g5, 0, none⟩))), (7, .val (.bool t150)), (58, eL e_T_Arm 12 b2.fArms), (59, .val (.int .i64 (b2.fArms.length : Int))), (60, .val (.int .i64 (i84 : Int))), (73, .val x119), (74, .val (.int .i64 (r117.length : Int))), (75, .val (.int .i64 (i122 : Int)))]) (R' := [.cells g3 29 (lf_T_Program b0), .cells g4 47 (lf_T_Expr b2), .cells g5 36 [.val (.int .i64 0), .val (.int .i64 0)], .row x119 83 4 (r117.map e_T_Pat)]) (by kernel_rfl) rfl rfl ?_
           exact G.finE fun _ a w hA => hA
          ·have hp155 := ifn ht151 hc152
           obtain ⟨t148, ht149, hp156⟩ := bnd hp155
           have ht157 := Option.some.inj hp156
           refine GH.take_y 2 rfl rfl (by kernel_rfl) (by kernel_rfl) (by kernel_rfl) rfl rfl hc152 (Qp.qv (V.fieldAddr (o' := 0) rfl Try.runUnderlying83 rfl Try.sizeOf3 rfl)) (fun _ _ _ _ h => h) ?_
           refine GH.take_y 3 rfl rfl (by kernel_rfl) (by kernel_rfl) (by kernel_rfl) rfl rfl hc152 (V.load_cell (i := 0) (ds := (lf_T_Pat y123)) (d := .val (.int .i64 y123.fKind)) rfl rfl Try.isAgg3 rfl rfl) (fun _ _ _ _ h => h) ?_
           refine GH.take_y 4 rfl rfl (by kernel_rfl) (by kernel_rfl) (by kernel_rfl) rfl rfl hc152 (Qp.qv (V.bin (u := .int .i64 y123.fKind) (v := .int .i64 6) (r := .bool (y123.fKind == 6)) rfl rfl b_eql)) (fun _ _ _ _ h => h) ?_
           refine GH.take_y 5 rfl rfl (by kernel_rfl) (by kernel_rfl) (by kernel_rfl) rfl rfl hc152 (Qp.qv (V.move rfl)) (fun _ _ _ _ h => h) ?_
           refine GH.byb (c := (y123.fKind == 6)) (fun hc158 => ?_) (fun hc158 => ?_)
           ·have hp159 := ifp ht149 hc158
            obtain ⟨r142, hr143, hp160⟩ := bnd hp159
            obtain ⟨r145, hr146, hp161⟩ := bnd hp160
            have ht162 := Option.some.inj hp161
            refine GH.take_y 6 rfl rfl (by kernel_rfl) (by kernel_rfl) (by kernel_rfl) rfl rfl hc158 (V.load_cellN (i := 1) (ds := (lf_T_Program b0)) (c1 := (lf_T_Program b0)) rfl rfl Try.isAgg29 Try.sizeOf29 rfl rfl rfl) (fun _ _ _ _ h => h) ?_
            refine GH.take_y 8 rfl rfl (by kernel_rfl) (by kernel_rfl) (by kernel_rfl) rfl rfl hc158 (Qp.qv (V.fieldAddr (o' := 2) rfl Try.runUnderlying83 rfl Try.sizeOf9 rfl)) (fun _ _ _ _ h => h) ?_
            refine GH.take_y 9 rfl rfl (by kernel_rfl) (by kernel_rfl) (by kernel_rfl) rfl rfl hc158 (V.load_cell (i := 0) (ds := (lf_T_Pat y123)) (d := .val (bs y123.fText)) rfl rfl Try.isAgg9 rfl rfl) (fun _ _ _ _ h => h) ?_
            refine GH.all [7] (by kernel_rfl) (by decide) ?_
            refine (all_cons ?_ (List.forall_mem_nil _))
            ·refine GH.loud_y rfl rfl rfl rfl hc158 (O.call (xs := [.tmp 85]) (is := []) (Rp := []) (Rr := []) (roadref2_makersOf_ok hr143) (.cons (.of rfl) .nil) Try.call23 rfl) fun x169 => ?_
             refine GH.all [10] (by kernel_rfl) (by decide) ?_
             refine (all_cons ?_ (List.forall_mem_nil _))
             ·refine GH.freeze 0 (L2' := [(86, eL eS 1 r142)]) (R' := []) rfl (fun S w h => .cons (.fz h) .nil) (fun S w h => .nil) ?_
              refine GH.loud_y rfl rfl rfl rfl hc158 (O.call (xs := [.tmp 86, .tmp 88]) (is := []) (Rp := []) (Rr := []) (slices_Contains_string_string_ok hr146) (.cons (.of rfl) (.cons (.of rfl) .nil)) Try.call15 rfl) fun x170 => ?_
              refine GH.lift Ind.val ?_
              refine GH.take_y 11 rfl rfl (by kernel_rfl) (by kernel_rfl) (by kernel_rfl) rfl rfl hc158 (Qp.qv (V.not (b := r145) rfl)) (fun _ _ _ _ h => h) ?_
              refine GH.takep_y 12 rfl rfl (by kernel_rfl) (by kernel_rfl) (by kernel_rfl) rfl rfl hc152 (V.pick_yes (dv := .val (.bool (!r145))) rfl hc158 rfl) (fun _ _ _ _ h => h) ?_
              refine GH.view (congrArg (fun z => D.val (.bool z)) ht162) ?_
              refine GH.lift Ind.val ?_
              refine GH.takep 13 rfl rfl (by kernel_rfl) (by kernel_rfl) (by kernel_rfl) (V.pick_no (dv := .val (.bool t148)) rfl hc152 rfl) (fun _ _ _ _ h => h) ?_
              refine GH.view (congrArg (fun z => D.val (.bool z)) ht157) ?_
              refine GH.lift Ind.val ?_
              refine GH.take 14 rfl rfl (by kernel_rfl) (by kernel_rfl) (by kernel_rfl) (Qp.qv (V.assign rfl)) (fun _ _ _ _ h => h) ?_
              refine GH.done (is := [1, 3, 5, 6, 7, 58, 59, 60, 73, 74, 75]) (js := [1, 1, 1, 1]) (L' := [(1, eL eS 1 b1), (3, .val (.pointer (some ⟨g3, 0, none⟩))), (5, .val (.pointer (some ⟨g4, 0, none⟩))), (6, .val (.pointer (some ⟨g5, 0, none⟩))), (7, .val (.bool t150)), (58, eL e_T_Arm 12 b2.fArms), (59, .val (.int .i64 (b2.fArms.length : Int))), (60, .val (.int .i64 (i84 : Int))), (73, .val x119), (74, .val (.int .i64 (r117.length : Int))), (75, .val (.int .i64 (i122 : Int)))]) (R' := [.cells g3 29 (lf_T_Program b0), .cells g4 47 (lf_T_Expr b2), .cells g5 36 [.val (.int .i64 0), .val (.int .i64 0)], .row x119 83 4 (r117.map e_T_Pat)]) (by kernel_rfl) rfl rfl ?_
              exact G.finE fun _ a w hA => hA
           ·have hp171 := ifn ht149 hc158
            have ht172 := Option.some.inj hp171
            refine GH.take_n 6 rfl rfl (by kernel_rfl) (by kernel_rfl) (by kernel_rfl) rfl rfl hc158 (fun _ _ _ _ h => h) ?_
            refine GH.take_n 7 rfl rfl (by kernel_rfl) (by kernel_rfl) (by kernel_rfl) rfl rfl hc158 (fun _ _ _ _ h => h) ?_
            refine GH.take_n 8 rfl rfl (by kernel_rfl) (by kernel_rfl) (by kernel_rfl) rfl rfl hc158 (fun _ _ _ _ h => h) ?_
            refine GH.take_n 9 rfl rfl (by kernel_rfl) (by kernel_rfl) (by kernel_rfl) rfl rfl hc158 (fun _ _ _ _ h => h) ?_
            refine GH.take_n 10 rfl rfl (by kernel_rfl) (by kernel_rfl) (by kernel_rfl) rfl rfl hc158 (fun _ _ _ _ h => h) ?_
            refine GH.take_n 11 rfl rfl (by kernel_rfl) (by kernel_rfl) (by kernel_rfl) rfl rfl hc158 (fun _ _ _ _ h => h) ?_
            refine GH.takep_y 12 rfl rfl (by kernel_rfl) (by kernel_rfl) (by kernel_rfl) rfl rfl hc152 (V.pick_no (dv := .val (.bool false)) rfl hc158 rfl) (fun _ _ _ _ h => h) ?_
            refine GH.view (congrArg (fun z => D.val (.bool z)) ht172) ?_
            refine GH.lift Ind.val ?_
            refine GH.takep 13 rfl rfl (by kernel_rfl) (by kernel_rfl) (by kernel_rfl) (V.pick_no (dv := .val (.bool t148)) rfl hc152 rfl) (fun _ _ _ _ h => h) ?_
            refine GH.view (congrArg (fun z => D.val (.bool z)) ht157) ?_
            refine GH.lift Ind.val ?_
            refine GH.take 14 rfl rfl (by kernel_rfl) (by kernel_rfl) (by kernel_rfl) (Qp.qv (V.assign rfl)) (fun _ _ _ _ h => h) ?_
            refine GH.done (is := [1, 3, 5, 6, 7, 58, 59, 60, 73, 74, 75]) (js := [1, 1, 1, 1]) (L' := [(1, eL eS 1 b1), (3, .val (.pointer (some ⟨g3, 0, none⟩))), (5, .val (.pointer (some ⟨g4, 0, none⟩))), (6, .val (.pointer (some ⟨g5, 0, none⟩))), (7, .val (.bool t150)), (58, eL e_T_Arm 12 b2.fArms), (59, .val (.int .i64 (b2.fArms.length : Int))), (60, .val (.int .i64 (i84 : Int))), (73, .val x119), (74, .val (.int .i64 (r117.length : Int))), (75, .val (.int .i64 (i122 : Int)))]) (R' := [.cells g3 29 (lf_T_Program b0), .cells g4 47 (lf_T_Expr b2), .cells g5 36 [.val (.int .i64 0), .val (.int .i64 0)], .row x119 83 4 (r117.map e_T_Pat)]) (by kernel_rfl) rfl rfl ?_
            exact G.finE fun _ a w hA => hA
         ·intro a w hA hF
          refine G.use hF hA ?_
          refine G.inB ?_
          refine G.next_ hK138 ?_
          refine G.region ?_
          refine G.p rfl (V.incr (i := i122) (N := r117.length) rfl rfl (rng_lt hd125) (hN120)) ?_
          refine G.p rfl (V.move rfl) ?_
          refine G.nil ?_
          refine G.norm (L' := [(1, eL eS 1 b1), (3, .val (.pointer (some ⟨g3, 0, none⟩))), (5, .val (.pointer (some ⟨g4, 0, none⟩))), (6, .val (.pointer (some ⟨g5, 0, none⟩))), (7, .val (.bool t150)), (58, eL e_T_Arm 12 b2.fArms), (59, .val (.int .i64 (b2.fArms.length : Int))), (60, .val (.int .i64 (i84 : Int))), (73, .val x119), (74, .val (.int .i64 (r117.length : Int))), (75, .val (.int .i64 ((i122 + 1 : Nat) : Int)))]) (is := [1, 3, 5, 6, 7, 58, 59, 60, 73, 74, 75]) (R' := [.cells g3 29 (lf_T_Program b0), .cells g4 47 (lf_T_Expr b2), .cells g5 36 [.val (.int .i64 0), .val (.int .i64 0)], .row x119 83 4 (r117.map e_T_Pat)]) (js := [0, 0, 0, 0]) rfl rfl ?_
          refine G.again ?_
          intro hl173 a w hA
          exact ⟨_, Nat.lt_succ_self _, rest124, i122 + 1, t150, rfl, hl173, rng_next hd125, hA⟩
      ·rintro b175 hb a w hA hF176
       refine G.use hF176 hA ?_
       refine G.inB ?_
       refine G.next_ hK100 ?_
       refine G.region ?_
       refine G.p rfl (V.incr (i := i84) (N := b2.fArms.length) rfl rfl (rng_lt hd87) (hN82)) ?_
       refine G.p rfl (V.move rfl) ?_
       refine G.nil ?_
       refine G.norm (L' := [(1, eL eS 1 b1), (3, .val (.pointer (some ⟨g3, 0, none⟩))), (5, .val (.pointer (some ⟨g4, 0, none⟩))), (6, .val (.pointer (some ⟨g5, 0, none⟩))), (7, .val (.bool b175)), (58, eL e_T_Arm 12 b2.fArms), (59, .val (.int .i64 (b2.fArms.length : Int))), (60, .val (.int .i64 ((i84 + 1 : Nat) : Int)))]) (is := [1, 3, 5, 6, 7, 58, 59, 60]) (R' := [.cells g3 29 (lf_T_Program b0), .cells g4 47 (lf_T_Expr b2), .cells g5 36 [.val (.int .i64 0), .val (.int .i64 0)]]) (js := [0, 0, 0]) rfl rfl ?_
       refine G.again ?_
       intro hl177 a w hA
       exact ⟨_, Nat.lt_succ_self _, rest86, i84 + 1, b175, rfl, hl177, rng_next hd87, hA⟩
  ·rintro b179 hb a w hA hF180
   refine G.use hF180 hA ?_
   refine G.next_ hK79 ?_
   refine G.seq fun K181 hK182 => ?_
   refine G.seq fun K183 hK184 => ?_
   refine G.region ?_
   refine G.p rfl (V.move rfl) ?_
   refine G.nil ?_
   refine G.norm (L' := [(1, eL eS 1 b1), (3, .val (.pointer (some ⟨g3, 0, none⟩))), (5, .val (.pointer (some ⟨g4, 0, none⟩))), (6, .val (.pointer (some ⟨g5, 0, none⟩))), (95, .val (.bool b179))]) (is := [1, 3, 5, 6, 95]) (R' := [.cells g3 29 (lf_T_Program b0), .cells g4 47 (lf_T_Expr b2), .cells g5 36 [.val (.int .i64 0), .val (.int .i64 0)]]) (js := [0, 0, 0]) rfl rfl ?_
   refine G.next_ hK184 ?_
   refine G.cond (b := b179) rfl (fun hc185 => ?_) (fun hc185 => ?_)
   ·refine G.norm (L' := [(5, .val (.pointer (some ⟨g4, 0, none⟩))), (6, .val (.pointer (some ⟨g5, 0, none⟩)))]) (is := [5, 6]) (R' := [.cells g4 47 (lf_T_Expr b2), .cells g5 36 [.val (.int .i64 0), .val (.int .i64 0)]]) (js := [1, 1]) rfl rfl ?_
    refine G.seq fun K186 hK187 => ?_
    refine G.region ?_
    refine G.p rfl (V.fieldAddr (o' := 7) rfl Try.runUnderlying47 rfl Try.sizeOf3 rfl) ?_
    refine G.q rfl (V.load_cell (i := 0) (ds := (lf_T_Expr b2)) (d := .val (.int .i64 b2.fAt)) rfl rfl Try.isAgg3 rfl rfl) ?_
    refine G.q rfl (V.build (out := [.val (.int .i64 11), .val (.int .i64 b2.fAt)]) blt36 (.cons (.of rfl) (.cons (.of rfl) .nil)) (List.forall_mem_cons.2 ⟨(OneC.leaf (.val rfl)), (List.forall_mem_cons.2 ⟨(OneC.leaf (.val rfl)), (List.forall_mem_nil _)⟩)⟩) rfl) ?_
    refine G.opn (O.store (i := 1) (o := 0) (ds := [.val (.int .i64 0), .val (.int .i64 0)]) rfl (.of rfl) rfl (OneC.agg (List.forall_mem_cons.2 ⟨(.val rfl), (List.forall_mem_cons.2 ⟨(.val rfl), (List.forall_mem_nil _)⟩)⟩)) Try.sizeOf36 rfl rfl) fun _ => ?_
    refine G.nil ?_
    refine G.norm (L' := [(6, .val (.pointer (some ⟨g5, 0, none⟩)))]) (is := [6]) (R' := [.cells g5 36 [.val (.int .i64 11), .val (.int .i64 b2.fAt)]]) (js := [1]) rfl rfl ?_
    refine G.next_ hK187 ?_
    refine G.ret ?_
    refine G.thn_ret ?_
    refine G.fin_ fun hF188 => ?_
    obtain rfl := Option.some.inj hF188
    exact G.retc (i := 0) (ds := [.val (.int .i64 11), .val (.int .i64 b2.fAt)]) Try.results27 () (is := []) rfl rfl Try.isAgg36 Try.sizeOf36 rfl rfl rfl
   ·refine G.norm (L' := [(1, eL eS 1 b1), (3, .val (.pointer (some ⟨g3, 0, none⟩))), (5, .val (.pointer (some ⟨g4, 0, none⟩))), (6, .val (.pointer (some ⟨g5, 0, none⟩)))]) (is := [1, 3, 5, 6]) (R' := [.cells g3 29 (lf_T_Program b0), .cells g4 47 (lf_T_Expr b2), .cells g5 36 [.val (.int .i64 0), .val (.int .i64 0)]]) (js := [0, 0, 0]) rfl rfl ?_
    refine G.skip ?_
    refine G.next_ hK182 ?_
    refine G.seq fun K189 hK190 => ?_
    refine G.seq fun K191 hK192 => ?_
    refine G.region ?_
    refine G.p rfl (V.fieldAddr (o' := 5) rfl Try.runUnderlying47 rfl Try.sizeOf42 rfl) ?_
    refine G.q rfl (V.load_cell (i := 1) (ds := (lf_T_Expr b2)) (d := eL e_T_Expr 8 b2.fArgs) rfl rfl Try.isAgg42 rfl rfl) ?_
    refine G.lenb (enc := e_T_Expr) (xs := b2.fArgs) (sz := 8) (x := .tmp 100) (.of rfl) fun hN193 => ?_
    refine G.p rfl (V.len_sl (enc := e_T_Expr) (xs := b2.fArgs) (sz := 8) (.of rfl) Try.runUnderlying42) ?_
    refine G.p rfl (V.move rfl) ?_
    refine G.nil ?_
    refine G.norm (L' := [(1, eL eS 1 b1), (3, .val (.pointer (some ⟨g3, 0, none⟩))), (5, .val (.pointer (some ⟨g4, 0, none⟩))), (6, .val (.pointer (some ⟨g5, 0, none⟩))), (100, eL e_T_Expr 8 b2.fArgs), (101, .val (.int .i64 (b2.fArgs.length : Int))), (102, .val (.int .i64 0))]) (is := [1, 3, 5, 6, 100, 101, 102]) (R' := [.cells g3 29 (lf_T_Program b0), .cells g4 47 (lf_T_Expr b2), .cells g5 36 [.val (.int .i64 0), .val (.int .i64 0)]]) (js := [0, 0, 0]) rfl rfl ?_
    refine G.next_ hK192 ?_
    refine G.join (E := fun o a w => ∃ b, o = .inr b ∧ Ass Gl B 160 [(1, eL eS 1 b1), (3, .val (.pointer (some ⟨g3, 0, none⟩))), (5, .val (.pointer (some ⟨g4, 0, none⟩))), (6, .val (.pointer (some ⟨g5, 0, none⟩)))] [.cells g3 29 (lf_T_Program b0), .cells g4 47 (lf_T_Expr b2), .cells g5 36 [.val (.int .i64 0), .val (.int .i64 0)]] a w) ?_ ?_
    ·intro b hF199
     refine G.block ?_
     refine G.norm (L' := [(1, eL eS 1 b1), (3, .val (.pointer (some ⟨g3, 0, none⟩))), (5, .val (.pointer (some ⟨g4, 0, none⟩))), (6, .val (.pointer (some ⟨g5, 0, none⟩))), (100, eL e_T_Expr 8 b2.fArgs), (101, .val (.int .i64 (b2.fArgs.length : Int))), (102, .val (.int .i64 ((0 : Nat) : Int)))]) (is := [1, 3, 5, 6, 100, 101, 102]) (R' := [.cells g3 29 (lf_T_Program b0), .cells g4 47 (lf_T_Expr b2), .cells g5 36 [.val (.int .i64 0), .val (.int .i64 0)]]) (js := [0, 0, 0]) rfl rfl ?_
     refine G.loop (fun kq a w => ∃ (rest196 : List (T_Expr)) (i194 : Nat), kq = rest196.length ∧ roadref2_scopeExpr.l3 b0 b1 b2 rec_roadref2_scopeExpr rest196 i194 = some b ∧ b2.fArgs.drop i194 = rest196 ∧ Ass Gl B 160 [(1, eL eS 1 b1), (3, .val (.pointer (some ⟨g3, 0, none⟩))), (5, .val (.pointer (some ⟨g4, 0, none⟩))), (6, .val (.pointer (some ⟨g5, 0, none⟩))), (100, eL e_T_Expr 8 b2.fArgs), (101, .val (.int .i64 (b2.fArgs.length : Int))), (102, .val (.int .i64 (i194 : Int)))] [.cells g3 29 (lf_T_Program b0), .cells g4 47 (lf_T_Expr b2), .cells g5 36 [.val (.int .i64 0), .val (.int .i64 0)]] a w) (b2.fArgs.length) ?_ ?_
     ·intro hl277 a w hA
      exact ⟨b2.fArgs, 0, rfl, hl277, rfl, hA⟩
     ·rintro _ a w ⟨rest196, i194, rfl, hl200, hd197, hA⟩
      rcases rest196 with _ | ⟨y195, rest196⟩
      ·rw [roadref2_scopeExpr.l3_nil] at hl200
       refine G.use hl200 hA ?_
       refine G.seq fun K201 hK202 => ?_
       refine G.region ?_
       refine G.p rfl (V.bin (u := .int .i64 (i194 : Int)) (v := .int .i64 (b2.fArgs.length : Int)) (r := .bool (decide ((i194 : Int) < (b2.fArgs.length : Int)))) rfl rfl b_lss) ?_
       refine G.nil ?_
       refine G.norm (L' := [(1, eL eS 1 b1), (3, .val (.pointer (some ⟨g3, 0, none⟩))), (5, .val (.pointer (some ⟨g4, 0, none⟩))), (6, .val (.pointer (some ⟨g5, 0, none⟩))), (100, eL e_T_Expr 8 b2.fArgs), (101, .val (.int .i64 (b2.fArgs.length : Int))), (102, .val (.int .i64 (i194 : Int))), (103, .val (.bool (decide ((i194 : Int) < (b2.fArgs.length : Int)))))]) (is := [1, 3, 5, 6, 100, 101, 102, 103]) (R' := [.cells g3 29 (lf_T_Program b0), .cells g4 47 (lf_T_Expr b2), .cells g5 36 [.val (.int .i64 0), .val (.int .i64 0)]]) (js := [0, 0, 0]) rfl rfl ?_
       refine G.next_ hK202 ?_
       refine G.seq fun K203 hK204 => ?_
       refine G.no rfl (rng_end hd197) ?_
       refine G.exit ?_
       refine G.thn_exit ?_
       refine G.thn_exit ?_
       refine G.inB_eq ?_
       refine G.norm (L' := [(1, eL eS 1 b1), (3, .val (.pointer (some ⟨g3, 0, none⟩))), (5, .val (.pointer (some ⟨g4, 0, none⟩))), (6, .val (.pointer (some ⟨g5, 0, none⟩)))]) (is := [1, 3, 5, 6]) (R' := [.cells g3 29 (lf_T_Program b0), .cells g4 47 (lf_T_Expr b2), .cells g5 36 [.val (.int .i64 0), .val (.int .i64 0)]]) (js := [0, 0, 0]) rfl rfl ?_
       exact G.finE fun hb a w hA => by subst hb; exact ⟨_, rfl, hA⟩
      ·rw [roadref2_scopeExpr.l3_cons] at hl200
       refine G.use hl200 hA ?_
       refine G.seq fun K205 hK206 => ?_
       refine G.region ?_
       refine G.p rfl (V.bin (u := .int .i64 (i194 : Int)) (v := .int .i64 (b2.fArgs.length : Int)) (r := .bool (decide ((i194 : Int) < (b2.fArgs.length : Int)))) rfl rfl b_lss) ?_
       refine G.nil ?_
       refine G.norm (L' := [(1, eL eS 1 b1), (3, .val (.pointer (some ⟨g3, 0, none⟩))), (5, .val (.pointer (some ⟨g4, 0, none⟩))), (6, .val (.pointer (some ⟨g5, 0, none⟩))), (100, eL e_T_Expr 8 b2.fArgs), (101, .val (.int .i64 (b2.fArgs.length : Int))), (102, .val (.int .i64 (i194 : Int))), (103, .val (.bool (decide ((i194 : Int) < (b2.fArgs.length : Int)))))]) (is := [1, 3, 5, 6, 100, 101, 102, 103]) (R' := [.cells g3 29 (lf_T_Program b0), .cells g4 47 (lf_T_Expr b2), .cells g5 36 [.val (.int .i64 0), .val (.int .i64 0)]]) (js := [0, 0, 0]) rfl rfl ?_
       refine G.next_ hK206 ?_
       refine G.seq fun K207 hK208 => ?_
       refine G.yes rfl (rng_more hd197) ?_
       refine G.skip ?_
       refine G.next_ hK208 ?_
       refine G.seq fun K209 hK210 => ?_
       refine G.block ?_
       refine G.seq fun K211 hK212 => ?_
       refine G.region ?_
       refine G.p rfl (V.move rfl) ?_
       refine G.p rfl (V.at_sl (k := i194) rfl rfl Try.runUnderlying42 Try.sizeOf47 (map_at (rng_at hd197))) ?_
       refine G.q rfl (V.load_ptrN (ds := (lf_T_Expr y195)) rfl (e_T_Expr_eq y195) Try.isAgg47 Try.sizeOf47 rfl) ?_
       refine G.op rfl (O.alloc (ds := [.val (.int .i64 0), .val (.int .i64 0), .val (bs ([] : Str)), .val (.slice none 0 0), .val (.slice none 0 0), .val (.slice none 0 0), .val (.slice none 0 0), .val (.int .i64 0)]) Try.zeroValue47 rfl) fun g213 => ?_
       refine G.p rfl (V.assign rfl) ?_
       refine G.opn (O.store (i := 0) (o := 0) (ds := [.val (.int .i64 0), .val (.int .i64 0), .val (bs ([] : Str)), .val (.slice none 0 0), .val (.slice none 0 0), .val (.slice none 0 0), .val (.slice none 0 0), .val (.int .i64 0)]) rfl (.of rfl) rfl (OneC.agg (List.forall_mem_cons.2 ⟨(.val rfl), (List.forall_mem_cons.2 ⟨(.val rfl), (List.forall_mem_cons.2 ⟨(.val rfl), (List.forall_mem_cons.2 ⟨.sl, (List.forall_mem_cons.2 ⟨.sl, (List.forall_mem_cons.2 ⟨.sl, (List.forall_mem_cons.2 ⟨.sl, (List.forall_mem_cons.2 ⟨(.val rfl), (List.forall_mem_nil _)⟩)⟩)⟩)⟩)⟩)⟩)⟩)⟩)) Try.sizeOf47 rfl rfl) fun _ => ?_
       refine G.nil ?_
       refine G.norm (L' := [(1, eL eS 1 b1), (3, .val (.pointer (some ⟨g3, 0, none⟩))), (5, .val (.pointer (some ⟨g4, 0, none⟩))), (6, .val (.pointer (some ⟨g5, 0, none⟩))), (12, .val (.int .i64 (i194 : Int))), (13, .val (.pointer (some ⟨g213, 0, none⟩))), (100, eL e_T_Expr 8 b2.fArgs), (101, .val (.int .i64 (b2.fArgs.length : Int))), (102, .val (.int .i64 (i194 : Int)))]) (is := [1, 3, 5, 6, 12, 13, 100, 101, 102]) (R' := [.cells g213 47 (lf_T_Expr y195), .cells g3 29 (lf_T_Program b0), .cells g4 47 (lf_T_Expr b2), .cells g5 36 [.val (.int .i64 0), .val (.int .i64 0)]]) (js := [0, 0, 0, 0]) rfl rfl ?_
       refine G.next_ hK212 ?_
       refine G.seq fun K214 hK215 => ?_
       refine G.region ?_
       refine G.op rfl (O.buildSlice (xs := []) (ds := ([] : List Str).map eS) elt30 rfl (.nil) rfl (by decide) (List.forall_mem_nil _) (List.forall_mem_nil _)) fun v216 => ?_
       refine G.p rfl (V.assign rfl) ?_
       refine G.nil ?_
       refine G.norm (L' := [(1, eL eS 1 b1), (3, .val (.pointer (some ⟨g3, 0, none⟩))), (5, .val (.pointer (some ⟨g4, 0, none⟩))), (6, .val (.pointer (some ⟨g5, 0, none⟩))), (12, .val (.int .i64 (i194 : Int))), (13, .val (.pointer (some ⟨g213, 0, none⟩))), (14, .val v216), (100, eL e_T_Expr 8 b2.fArgs), (101, .val (.int .i64 (b2.fArgs.length : Int))), (102, .val (.int .i64 (i194 : Int)))]) (is := [1, 3, 5, 6, 12, 13, 14, 100, 101, 102]) (R' := [.row v216 9 1 (([] : List Str).map eS), .cells g213 47 (lf_T_Expr y195), .cells g3 29 (lf_T_Program b0), .cells g4 47 (lf_T_Expr b2), .cells g5 36 [.val (.int .i64 0), .val (.int .i64 0)]]) (js := [0, 0, 0, 0, 0]) rfl rfl ?_
       refine G.next_ hK215 ?_
       refine G.seq fun K217 hK218 => ?_
       refine G.block ?_
       refine G.seq fun K219 hK220 => ?_
       refine G.region ?_
       refine G.p rfl (V.fieldAddr (o' := 0) rfl Try.runUnderlying47 rfl Try.sizeOf3 rfl) ?_
       refine G.q rfl (V.load_cell (i := 3) (ds := (lf_T_Expr b2)) (d := .val (.int .i64 b2.fKind)) rfl rfl Try.isAgg3 rfl rfl) ?_
       refine G.p rfl (V.bin (u := .int .i64 b2.fKind) (v := .int .i64 6) (r := .bool (b2.fKind == 6)) rfl rfl b_eql) ?_
       refine G.p rfl (V.move rfl) ?_
       refine G.cut 3 (fun a w => Ass Gl B 160 [(1, eL eS 1 b1), (3, .val (.pointer (some ⟨g3, 0, none⟩))), (5, .val (.pointer (some ⟨g4, 0, none⟩))), (6, .val (.pointer (some ⟨g5, 0, none⟩))), (12, .val (.int .i64 (i194 : Int))), (13, .val (.pointer (some ⟨g213, 0, none⟩))), (14, .val v216), (100, eL e_T_Expr 8 b2.fArgs), (101, .val (.int .i64 (b2.fArgs.length : Int))), (102, .val (.int .i64 (i194 : Int))), (109, .val (.pointer (some ⟨g4, 0, none⟩))), (110, .val (.int .i64 b2.fKind)), (111, .val (.bool (b2.fKind == 6))), (112, .val (.bool (b2.fKind == 6))), (115, .val (.bool ((b2.fKind == 6) && ((i194 : Int) == 1))))] [.row v216 9 1 (([] : List Str).map eS), .cells g213 47 (lf_T_Expr y195), .cells g3 29 (lf_T_Program b0), .cells g4 47 (lf_T_Expr b2), .cells g5 36 [.val (.int .i64 0), .val (.int .i64 0)]] a w) ?_ ?_
       ·refine G.byb (c := (b2.fKind == 6)) (fun hc221 => ?_) (fun hc221 => ?_)
        ·refine G.guard_yes rfl rfl hc221 ?_
         refine G.p rfl (V.move rfl) ?_
         refine G.guard_yes rfl rfl hc221 ?_
         refine G.p rfl (V.bin (u := .int .i64 (i194 : Int)) (v := .int .i64 1) (r := .bool ((i194 : Int) == 1)) rfl rfl b_eql) ?_
         refine G.p rfl (V.pick_yes (dv := .val (.bool ((i194 : Int) == 1))) rfl hc221 rfl) ?_
         refine G.view (congrArg D.val (and_yes (x := ((i194 : Int) == 1)) hc221)) ?_
         refine G.nil ?_
         refine G.norm (L' := [(1, eL eS 1 b1), (3, .val (.pointer (some ⟨g3, 0, none⟩))), (5, .val (.pointer (some ⟨g4, 0, none⟩))), (6, .val (.pointer (some ⟨g5, 0, none⟩))), (12, .val (.int .i64 (i194 : Int))), (13, .val (.pointer (some ⟨g213, 0, none⟩))), (14, .val v216), (100, eL e_T_Expr 8 b2.fArgs), (101, .val (.int .i64 (b2.fArgs.length : Int))), (102, .val (.int .i64 (i194 : Int))), (109, .val (.pointer (some ⟨g4, 0, none⟩))), (110, .val (.int .i64 b2.fKind)), (111, .val (.bool (b2.fKind == 6))), (112, .val (.bool (b2.fKind == 6))), (115, .val (.bool ((b2.fKind == 6) && ((i194 : Int) == 1))))]) (is := [1, 3, 5, 6, 12, 13, 14, 100, 101, 102, 109, 110, 111, 112, 115]) (R' := [.row v216 9 1 (([] : List Str).map eS), .cells g213 47 (lf_T_Expr y195), .cells g3 29 (lf_T_Program b0), .cells g4 47 (lf_T_Expr b2), .cells g5 36 [.val (.int .i64 0), .val (.int .i64 0)]]) (js := [0, 0, 0, 0, 0]) rfl rfl ?_
         exact G.finE fun _ _ _ h => h
        ·refine G.skip_s rfl rfl hc221 rfl ?_
         refine G.skip_s rfl rfl hc221 rfl ?_
         refine G.p rfl (V.pick_no (dv := .val (.bool false)) rfl hc221 rfl) ?_
         refine G.view (congrArg D.val (and_no (x := ((i194 : Int) == 1)) hc221)) ?_
         refine G.nil ?_
         refine G.norm (L' := [(1, eL eS 1 b1), (3, .val (.pointer (some ⟨g3, 0, none⟩))), (5, .val (.pointer (some ⟨g4, 0, none⟩))), (6, .val (.pointer (some ⟨g5, 0, none⟩))), (12, .val (.int .i64 (i194 : Int))), (13, .val (.pointer (some ⟨g213, 0, none⟩))), (14, .val v216), (100, eL e_T_Expr 8 b2.fArgs), (101, .val (.int .i64 (b2.fArgs.length : Int))), (102, .val (.int .i64 (i194 : Int))), (109, .val (.pointer (some ⟨g4, 0, none⟩))), (110, .val (.int .i64 b2.fKind)), (111, .val (.bool (b2.fKind == 6))), (112, .val (.bool (b2.fKind == 6))), (115, .val (.bool ((b2.fKind == 6) && ((i194 : Int) == 1))))]) (is := [1, 3, 5, 6, 12, 13, 14, 100, 101, 102, 109, 110, 111, 112, 115]) (R' := [.row v216 9 1 (([] : List Str).map eS), .cells g213 47 (lf_T_Expr y195), .cells g3 29 (lf_T_Program b0), .cells g4 47 (lf_T_Expr b2), .cells g5 36 [.val (.int .i64 0), .val (.int .i64 0)]]) (js := [0, 0, 0, 0, 0]) rfl rfl ?_
         exact G.finE fun _ _ _ h => h
       ·intro a w hA hF
        refine G.use hF hA ?_
        refine G.p rfl (V.assign rfl) ?_
        refine G.nil ?_
        refine G.norm (L' := [(1, eL eS 1 b1), (3, .val (.pointer (some ⟨g3, 0, none⟩))), (5, .val (.pointer (some ⟨g4, 0, none⟩))), (6, .val (.pointer (some ⟨g5, 0, none⟩))), (13, .val (.pointer (some ⟨g213, 0, none⟩))), (14, .val v216), (100, eL e_T_Expr 8 b2.fArgs), (101, .val (.int .i64 (b2.fArgs.length : Int))), (102, .val (.int .i64 (i194 : Int))), (108, .val (.bool ((b2.fKind == 6) && ((i194 : Int) == 1))))]) (is := [1, 3, 5, 6, 13, 14, 100, 101, 102, 108]) (R' := [.row v216 9 1 (([] : List Str).map eS), .cells g213 47 (lf_T_Expr y195), .cells g3 29 (lf_T_Program b0), .cells g4 47 (lf_T_Expr b2), .cells g5 36 [.val (.int .i64 0), .val (.int .i64 0)]]) (js := [0, 0, 0, 0, 0]) rfl rfl ?_
        refine G.next_ hK220 ?_
        refine G.join (E := fun b a w => Ass Gl B 160 [(1, eL eS 1 b1), (3, .val (.pointer (some ⟨g3, 0, none⟩))), (5, .val (.pointer (some ⟨g4, 0, none⟩))), (6, .val (.pointer (some ⟨g5, 0, none⟩))), (13, .val (.pointer (some ⟨g213, 0, none⟩))), (14, eL eS 1 b), (100, eL e_T_Expr 8 b2.fArgs), (101, .val (.int .i64 (b2.fArgs.length : Int))), (102, .val (.int .i64 (i194 : Int)))] [.cells g213 47 (lf_T_Expr y195), .cells g3 29 (lf_T_Program b0), .cells g4 47 (lf_T_Expr b2), .cells g5 36 [.val (.int .i64 0), .val (.int .i64 0)]] a w) ?_ ?_
        ·intro b hF222
         refine G.cond (b := ((b2.fKind == 6) && ((i194 : Int) == 1))) rfl (fun hc223 => ?_) (fun hc223 => ?_)
         ·refine G.norm (L' := [(1, eL eS 1 b1), (3, .val (.pointer (some ⟨g3, 0, none⟩))), (5, .val (.pointer (some ⟨g4, 0, none⟩))), (6, .val (.pointer (some ⟨g5, 0, none⟩))), (13, .val (.pointer (some ⟨g213, 0, none⟩))), (100, eL e_T_Expr 8 b2.fArgs), (101, .val (.int .i64 (b2.fArgs.length : Int))), (102, .val (.int .i64 (i194 : Int)))]) (is := [1, 3, 5, 6, 13, 100, 101, 102]) (R' := [.cells g213 47 (lf_T_Expr y195), .cells g3 29 (lf_T_Program b0), .cells g4 47 (lf_T_Expr b2), .cells g5 36 [.val (.int .i64 0), .val (.int .i64 0)]]) (js := [1, 1, 1, 1]) rfl rfl ?_
          refine G.region ?_
          refine G.p rfl (V.fieldAddr (o' := 2) rfl Try.runUnderlying47 rfl Try.sizeOf9 rfl) ?_
          refine G.q rfl (V.load_cell (i := 2) (ds := (lf_T_Expr b2)) (d := .val (bs b2.fText)) rfl rfl Try.isAgg9 rfl rfl) ?_
          refine G.op rfl (O.buildSlice (xs := [.tmp 117]) (ds := ([b2.fText] : List Str).map eS) elt30 rfl (.cons (.of rfl) .nil) rfl (by decide) (List.forall_mem_cons.2 ⟨(fun c hc => ((fun _ => one_S) _ c hc).mono), (List.forall_mem_nil _)⟩) (List.forall_mem_cons.2 ⟨rfl, (List.forall_mem_nil _)⟩)) fun v224 => ?_
          refine G.p rfl (V.assign rfl) ?_
          refine G.nil ?_
          refine G.norm (L' := [(1, eL eS 1 b1), (3, .val (.pointer (some ⟨g3, 0, none⟩))), (5, .val (.pointer (some ⟨g4, 0, none⟩))), (6, .val (.pointer (some ⟨g5, 0, none⟩))), (13, .val (.pointer (some ⟨g213, 0, none⟩))), (14, .val v224), (100, eL e_T_Expr 8 b2.fArgs), (101, .val (.int .i64 (b2.fArgs.length : Int))), (102, .val (.int .i64 (i194 : Int)))]) (is := [1, 3, 5, 6, 13, 14, 100, 101, 102]) (R' := [.row v224 9 1 (([b2.fText] : List Str).map eS), .cells g213 47 (lf_T_Expr y195), .cells g3 29 (lf_T_Program b0), .cells g4 47 (lf_T_Expr b2), .cells g5 36 [.val (.int .i64 0), .val (.int .i64 0)]]) (js := [0, 0, 0, 0, 0]) rfl rfl ?_
          refine G.freeze 0 (L' := [(1, eL eS 1 b1), (3, .val (.pointer (some ⟨g3, 0, none⟩))), (5, .val (.pointer (some ⟨g4, 0, none⟩))), (6, .val (.pointer (some ⟨g5, 0, none⟩))), (13, .val (.pointer (some ⟨g213, 0, none⟩))), (14, eL eS 1 ([b2.fText] : List Str)), (100, eL e_T_Expr 8 b2.fArgs), (101, .val (.int .i64 (b2.fArgs.length : Int))), (102, .val (.int .i64 (i194 : Int)))]) (R' := [.cells g213 47 (lf_T_Expr y195), .cells g3 29 (lf_T_Program b0), .cells g4 47 (lf_T_Expr b2), .cells g5 36 [.val (.int .i64 0), .val (.int .i64 0)]]) rfl (fun S w h => .cons .refl (.cons .refl (.cons .refl (.cons .refl (.cons .refl (.cons (.fz h) (.cons .refl (.cons .refl (.cons .refl .nil))))))))) (fun S w h => .same (.same (.same (.same .nil)))) ?_
          refine G.norm (L' := [(1, eL eS 1 b1), (3, .val (.pointer (some ⟨g3, 0, none⟩))), (5, .val (.pointer (some ⟨g4, 0, none⟩))), (6, .val (.pointer (some ⟨g5, 0, none⟩))), (13, .val (.pointer (some ⟨g213, 0, none⟩))), (14, eL eS 1 ([b2.fText] : List Str)), (100, eL e_T_Expr 8 b2.fArgs), (101, .val (.int .i64 (b2.fArgs.length : Int))), (102, .val (.int .i64 (i194 : Int)))]) (is := [1, 3, 5, 6, 13, 14, 100, 101, 102]) (R' := [.cells g213 47 (lf_T_Expr y195), .cells g3 29 (lf_T_Program b0), .cells g4 47 (lf_T_Expr b2), .cells g5 36 [.val (.int .i64 0), .val (.int .i64 0)]]) (js := [0, 0, 0, 0]) rfl rfl ?_
          exact G.finE fun hb a w hA => by subst hb; exact hA
         ·refine G.norm (L' := [(1, eL eS 1 b1), (3, .val (.pointer (some ⟨g3, 0, none⟩))), (5, .val (.pointer (some ⟨g4, 0, none⟩))), (6, .val (.pointer (some ⟨g5, 0, none⟩))), (13, .val (.pointer (some ⟨g213, 0, none⟩))), (14, .val v216), (100, eL e_T_Expr 8 b2.fArgs), (101, .val (.int .i64 (b2.fArgs.length : Int))), (102, .val (.int .i64 (i194 : Int)))]) (is := [1, 3, 5, 6, 13, 14, 100, 101, 102]) (R' := [.row v216 9 1 (([] : List Str).map eS), .cells g213 47 (lf_T_Expr y195), .cells g3 29 (lf_T_Program b0), .cells g4 47 (lf_T_Expr b2), .cells g5 36 [.val (.int .i64 0), .val (.int .i64 0)]]) (js := [0, 0, 0, 0, 0]) rfl rfl ?_
          refine G.seq fun K225 hK226 => ?_
          refine G.region ?_
          refine G.p rfl (V.fieldAddr (o' := 0) rfl Try.runUnderlying47 rfl Try.sizeOf3 rfl) ?_
          refine G.q rfl (V.load_cell (i := 3) (ds := (lf_T_Expr b2)) (d := .val (.int .i64 b2.fKind)) rfl rfl Try.isAgg3 rfl rfl) ?_
          refine G.p rfl (V.bin (u := .int .i64 b2.fKind) (v := .int .i64 10) (r := .bool (b2.fKind == 10)) rfl rfl b_eql) ?_
          refine G.p rfl (V.assign rfl) ?_
          refine G.nil ?_
          refine G.norm (L' := [(1, eL eS 1 b1), (3, .val (.pointer (some ⟨g3, 0, none⟩))), (5, .val (.pointer (some ⟨g4, 0, none⟩))), (6, .val (.pointer (some ⟨g5, 0, none⟩))), (13, .val (.pointer (some ⟨g213, 0, none⟩))), (14, .val v216), (100, eL e_T_Expr 8 b2.fArgs), (101, .val (.int .i64 (b2.fArgs.length : Int))), (102, .val (.int .i64 (i194 : Int))), (119, .val (.bool (b2.fKind == 10)))]) (is := [1, 3, 5, 6, 13, 14, 100, 101, 102, 119]) (R' := [.row v216 9 1 (([] : List Str).map eS), .cells g213 47 (lf_T_Expr y195), .cells g3 29 (lf_T_Program b0), .cells g4 47 (lf_T_Expr b2), .cells g5 36 [.val (.int .i64 0), .val (.int .i64 0)]]) (js := [0, 0, 0, 0, 0]) rfl rfl ?_
          refine G.next_ hK226 ?_
          refine G.cond (b := (b2.fKind == 10)) rfl (fun hc227 => ?_) (fun hc227 => ?_)
          ·refine G.norm (L' := [(1, eL eS 1 b1), (3, .val (.pointer (some ⟨g3, 0, none⟩))), (5, .val (.pointer (some ⟨g4, 0, none⟩))), (6, .val (.pointer (some ⟨g5, 0, none⟩))), (13, .val (.pointer (some ⟨g213, 0, none⟩))), (100, eL e_T_Expr 8 b2.fArgs), (101, .val (.int .i64 (b2.fArgs.length : Int))), (102, .val (.int .i64 (i194 : Int)))]) (is := [1, 3, 5, 6, 13, 100, 101, 102]) (R' := [.cells g213 47 (lf_T_Expr y195), .cells g3 29 (lf_T_Program b0), .cells g4 47 (lf_T_Expr b2), .cells g5 36 [.val (.int .i64 0), .val (.int .i64 0)]]) (js := [1, 1, 1, 1]) rfl rfl ?_
           refine G.region ?_
           refine G.p rfl (V.fieldAddr (o' := 3) rfl Try.runUnderlying47 rfl Try.sizeOf30 rfl) ?_
           refine G.q rfl (V.load_cell (i := 2) (ds := (lf_T_Expr b2)) (d := eL eS 1 b2.fNames) rfl rfl Try.isAgg30 rfl rfl) ?_
           refine G.p rfl (V.assign rfl) ?_
           refine G.nil ?_
           refine G.norm (L' := [(1, eL eS 1 b1), (3, .val (.pointer (some ⟨g3, 0, none⟩))), (5, .val (.pointer (some ⟨g4, 0, none⟩))), (6, .val (.pointer (some ⟨g5, 0, none⟩))), (13, .val (.pointer (some ⟨g213, 0, none⟩))), (14, eL eS 1 b2.fNames), (100, eL e_T_Expr 8 b2.fArgs), (101, .val (.int .i64 (b2.fArgs.length : Int))), (102, .val (.int .i64 (i194 : Int)))]) (is := [1, 3, 5, 6, 13, 14, 100, 101, 102]) (R' := [.cells g213 47 (lf_T_Expr y195), .cells g3 29 (lf_T_Program b0), .cells g4 47 (lf_T_Expr b2), .cells g5 36 [.val (.int .i64 0), .val (.int .i64 0)]]) (js := [0, 0, 0, 0]) rfl rfl ?_
           exact G.finE fun hb a w hA => by subst hb; exact hA
          ·refine G.norm (L' := [(1, eL eS 1 b1), (3, .val (.pointer (some ⟨g3, 0, none⟩))), (5, .val (.pointer (some ⟨g4, 0, none⟩))), (6, .val (.pointer (some ⟨g5, 0, none⟩))), (13, .val (.pointer (some ⟨g213, 0, none⟩))), (14, .val v216), (100, eL e_T_Expr 8 b2.fArgs), (101, .val (.int .i64 (b2.fArgs.length : Int))), (102, .val (.int .i64 (i194 : Int)))]) (is := [1, 3, 5, 6, 13, 14, 100, 101, 102]) (R' := [.row v216 9 1 (([] : List Str).map eS), .cells g213 47 (lf_T_Expr y195), .cells g3 29 (lf_T_Program b0), .cells g4 47 (lf_T_Expr b2), .cells g5 36 [.val (.int .i64 0), .val (.int .i64 0)]]) (js := [0, 0, 0, 0, 0]) rfl rfl ?_
           refine G.skip ?_
           refine G.freeze 0 (L' := [(1, eL eS 1 b1), (3, .val (.pointer (some ⟨g3, 0, none⟩))), (5, .val (.pointer (some ⟨g4, 0, none⟩))), (6, .val (.pointer (some ⟨g5, 0, none⟩))), (13, .val (.pointer (some ⟨g213, 0, none⟩))), (14, eL eS 1 ([] : List Str)), (100, eL e_T_Expr 8 b2.fArgs), (101, .val (.int .i64 (b2.fArgs.length : Int))), (102, .val (.int .i64 (i194 : Int)))]) (R' := [.cells g213 47 (lf_T_Expr y195), .cells g3 29 (lf_T_Program b0), .cells g4 47 (lf_T_Expr b2), .cells g5 36 [.val (.int .i64 0), .val (.int .i64 0)]]) rfl (fun S w h => .cons .refl (.cons .refl (.cons .refl (.cons .refl (.cons .refl (.cons (.fz h) (.cons .refl (.cons .refl (.cons .refl .nil))))))))) (fun S w h => .same (.same (.same (.same .nil)))) ?_
           refine G.norm (L' := [(1, eL eS 1 b1), (3, .val (.pointer (some ⟨g3, 0, none⟩))), (5, .val (.pointer (some ⟨g4, 0, none⟩))), (6, .val (.pointer (some ⟨g5, 0, none⟩))), (13, .val (.pointer (some ⟨g213, 0, none⟩))), (14, eL eS 1 ([] : List Str)), (100, eL e_T_Expr 8 b2.fArgs), (101, .val (.int .i64 (b2.fArgs.length : Int))), (102, .val (.int .i64 (i194 : Int)))]) (is := [1, 3, 5, 6, 13, 14, 100, 101, 102]) (R' := [.cells g213 47 (lf_T_Expr y195), .cells g3 29 (lf_T_Program b0), .cells g4 47 (lf_T_Expr b2), .cells g5 36 [.val (.int .i64 0), .val (.int .i64 0)]]) (js := [0, 0, 0, 0]) rfl rfl ?_
           exact G.finE fun hb a w hA => by subst hb; exact hA
        ·rintro b228 hb a w hA hF229
         refine G.use hF229 hA ?_
         refine G.inB ?_
         refine G.next_ hK218 ?_
         refine G.seq fun K230 hK231 => ?_
         refine G.norm (L' := [(1, eL eS 1 b1), (3, .val (.pointer (some ⟨g3, 0, none⟩))), (5, .val (.pointer (some ⟨g4, 0, none⟩))), (6, .val (.pointer (some ⟨g5, 0, none⟩))), (13, .val (.pointer (some ⟨g213, 0, none⟩))), (14, eL eS 1 b228), (100, eL e_T_Expr 8 b2.fArgs), (101, .val (.int .i64 (b2.fArgs.length : Int))), (102, .val (.int .i64 (i194 : Int)))]) (is := [1, 3, 5, 6, 13, 14, 100, 101, 102]) (R' := [.cells g213 47 (lf_T_Expr y195), .cells g3 29 (lf_T_Program b0), .cells g4 47 (lf_T_Expr b2), .cells g5 36 [.val (.int .i64 0), .val (.int .i64 0)]]) (js := [0, 0, 0, 0]) rfl rfl ?_
         refine G.bind fun r233 hr234 => ?_
         refine G.bind fun r236 hr237 => ?_
         refine G.cutc (fun a w => ∃ (g_0 : Nat), Ass Gl B 160 [(1, eL eS 1 b1), (3, .val (.pointer (some ⟨g3, 0, none⟩))), (5, .val (.pointer (some ⟨g4, 0, none⟩))), (6, .val (.pointer (some ⟨g5, 0, none⟩))), (15, .val (.pointer (some ⟨g_0, 0, none⟩))), (100, eL e_T_Expr 8 b2.fArgs), (101, .val (.int .i64 (b2.fArgs.length : Int))), (102, .val (.int .i64 (i194 : Int)))] [.cells g_0 36 [.val (.int .i64 r236.fE), .val (.int .i64 r236.fAt)], .cells g3 29 (lf_T_Program b0), .cells g4 47 (lf_T_Expr b2), .cells g5 36 [.val (.int .i64 0), .val (.int .i64 0)]] a w) ?_ ?_
         ·refine G.draw [] Try_mixed 9 rfl rfl (fun B1 => ?_)
          refine GH.take 0 rfl rfl (by kernel_rfl) (by kernel_rfl) (by kernel_rfl) (V.load_cellN (i := 1) (ds := (lf_T_Program b0)) (c1 := (lf_T_Program b0)) rfl rfl Try.isAgg29 Try.sizeOf29 rfl rfl rfl) (fun _ _ _ _ h => h) ?_
          refine GH.take 1 rfl rfl (by kernel_rfl) (by kernel_rfl) (by kernel_rfl) (Qp.qv (V.move rfl)) (fun _ _ _ _ h => h) ?_
          refine GH.take 2 rfl rfl (by kernel_rfl) (by kernel_rfl) (by kernel_rfl) (Qp.qv (V.move rfl)) (fun _ _ _ _ h => h) ?_
          refine GH.take 5 rfl rfl (by kernel_rfl) (by kernel_rfl) (by kernel_rfl) (V.load_cellN (i := 0) (ds := (lf_T_Expr y195)) (c1 := (lf_T_Expr y195)) rfl rfl Try.isAgg47 Try.sizeOf47 rfl rfl rfl) (fun _ _ _ _ h => h) ?_
          refine GH.all [3, 7] (by kernel_rfl) (by decide) ?_
          refine (all_cons ?_ (all_cons ?_ (List.forall_mem_nil _)))
          ·refine GH.loud rfl rfl (O.buildSlice (xs := [.tmp 126, .tmp 127]) (ds := ([b1, b228] : List (List Str)).map (eL eS 1)) elt74 rfl (.cons (.of rfl) (.cons (.of rfl) .nil)) rfl (by decide) (List.forall_mem_cons.2 ⟨(fun c hc => ((fun _ => one_L) _ c hc).mono), (List.forall_mem_cons.2 ⟨(fun c hc => ((fun _ => one_L) _ c hc).mono), (List.forall_mem_nil _)⟩)⟩) (List.forall_mem_cons.2 ⟨rfl, (List.forall_mem_cons.2 ⟨rfl, (List.forall_mem_nil _)⟩)⟩)) fun v246 => ?_
           refine GH.all [4, 7] (by kernel_rfl) (by decide) ?_
           refine (all_cons ?_ (all_cons ?_ (List.forall_mem_nil _)))
           ·refine GH.freeze 0 (L2' := [(128, eL (eL eS 1) 1 ([b1, b228] : List (List Str)))]) (R' := []) rfl (fun S w h => .cons (.fz h) .nil) (fun S w h => .nil) ?_
            refine GH.loud rfl rfl (O.call (xs := [.tmp 128]) (is := []) (Rp := []) (Rr := []) (slices_Concat_string_string_ok hr234) (.cons (.of rfl) .nil) Try.call37 rfl) fun x249 => ?_
            refine GH.all [6, 7] (by kernel_rfl) (by decide) ?_
            refine (all_cons ?_ (all_cons ?_ (List.forall_mem_nil _)))
            ·refine GH.freeze 0 (L2' := [(129, eL eS 1 r233), (128, eL (eL eS 1) 1 ([b1, b228] : List (List Str)))]) (R' := []) rfl (fun S w h => .cons (.fz h) (.cons .refl .nil)) (fun S w h => .nil) ?_
             refine GH.loud rfl rfl (O.call (xs := [.tmp 125, .tmp 129, .tmp 130]) (is := []) (Rp := []) (Rr := []) (hrec_roadref2_scopeExpr hr237) (.cons (.of rfl) (.cons (.of rfl) (.cons (.of rfl) .nil))) Try.call27 rfl) fun x252 => ?_
             refine GH.all [7] (by kernel_rfl) (by decide) ?_
             refine (all_cons ?_ (List.forall_mem_nil _))
             ·refine GH.loud rfl rfl (O.alloc (ds := [.val (.int .i64 0), .val (.int .i64 0)]) Try.zeroValue36 rfl) fun g255 => ?_
              refine GH.lift Ind.val ?_
              refine GH.all [8] (by kernel_rfl) (by decide) ?_
              refine (all_cons ?_ (List.forall_mem_nil _))
              ·refine GH.loudn rfl (O.store (i := 0) (o := 0) (ds := [.val (.int .i64 0), .val (.int .i64 0)]) rfl (.of rfl) rfl (OneC.agg (List.forall_mem_cons.2 ⟨(.val rfl), (List.forall_mem_cons.2 ⟨(.val rfl), (List.forall_mem_nil _)⟩)⟩)) Try.sizeOf36 rfl rfl) fun _ => ?_
               refine GH.done (is := [1, 3, 5, 6, 15, 100, 101, 102]) (js := [0, 1, 1, 1]) (L' := [(1, eL eS 1 b1), (3, .val (.pointer (some ⟨g3, 0, none⟩))), (5, .val (.pointer (some ⟨g4, 0, none⟩))), (6, .val (.pointer (some ⟨g5, 0, none⟩))), (15, .val (.pointer (some ⟨g255, 0, none⟩))), (100, eL e_T_Expr 8 b2.fArgs), (101, .val (.int .i64 (b2.fArgs.length : Int))), (102, .val (.int .i64 (i194 : Int)))]) (R' := [.cells g255 36 [.val (.int .i64 r236.fE), .val (.int .i64 r236.fAt)], .cells g3 29 (lf_T_Program b0), .cells g4 47 (lf_T_Expr b2), .cells g5 36 [.val (.int .i64 0), .val (.int .i64 0)]]) (by kernel_rfl) rfl rfl ?_
               exact G.finE fun _ a w hA => ⟨_, hA⟩
            ·refine GH.loud rfl rfl (O.alloc (ds := [.val (.int .i64 0), .val (.int .i64 0)]) Try.zeroValue36 rfl) fun g256 => ?_
             refine GH.lift Ind.val ?_
             refine GH.all [6] (by kernel_rfl) (by decide) ?_
             refine (all_cons ?_ (List.forall_mem_nil _))
             ·refine GH.freeze 1 (L2' := [(129, eL eS 1 r233), (128, eL (eL eS 1) 1 ([b1, b228] : List (List Str)))]) (R' := [.cells g256 36 [.val (.int .i64 0), .val (.int .i64 0)]]) rfl (fun S w h => .cons (.fz h) (.cons .refl .nil)) (fun S w h => .same .nil) ?_
              refine GH.loud rfl rfl (O.call (xs := [.tmp 125, .tmp 129, .tmp 130]) (is := []) (Rp := []) (Rr := [.cells g256 36 [.val (.int .i64 0), .val (.int .i64 0)]]) (hrec_roadref2_scopeExpr hr237) (.cons (.of rfl) (.cons (.of rfl) (.cons (.of rfl) .nil))) Try.call27 rfl) fun x257 => ?_
              refine GH.all [8] (by kernel_rfl) (by decide) ?_
              refine (all_cons ?_ (List.forall_mem_nil _))
              ·refine GH.loudn rfl (O.store (i := 0) (o := 0) (ds := [.val (.int .i64 0), .val (.int .i64 0)]) rfl (.of rfl) rfl (OneC.agg (List.forall_mem_cons.2 ⟨(.val rfl), (List.forall_mem_cons.2 ⟨(.val rfl), (List.forall_mem_nil _)⟩)⟩)) Try.sizeOf36 rfl rfl) fun _ => ?_
               refine GH.done (is := [1, 3, 5, 6, 15, 100, 101, 102]) (js := [0, 1, 1, 1]) (L' := [(1, eL eS 1 b1), (3, .val (.pointer (some ⟨g3, 0, none⟩))), (5, .val (.pointer (some ⟨g4, 0, none⟩))), (6, .val (.pointer (some ⟨g5, 0, none⟩))), (15, .val (.pointer (some ⟨g256, 0, none⟩))), (100, eL e_T_Expr 8 b2.fArgs), (101, .val (.int .i64 (b2.fArgs.length : Int))), (102, .val (.int .i64 (i194 : Int)))]) (R' := [.cells g256 36 [.val (.int .i64 r236.fE), .val (.int .i64 r236.fAt)], .cells g3 29 (lf_T_Program b0), .cells g4 47 (lf_T_Expr b2), .cells g5 36 [.val (.int .i64 0), .val (.int .i64 0)]]) (by kernel_rfl) rfl rfl ?_
               exact G.finE fun _ a w hA => ⟨_, hA⟩
           ·refine GH.loud rfl rfl (O.alloc (ds := [.val (.int .i64 0), .val (.int .i64 0)]) Try.zeroValue36 rfl) fun g258 => ?_
            refine GH.lift Ind.val ?_
            refine GH.all [4] (by kernel_rfl) (by decide) ?_
            refine (all_cons ?_ (List.forall_mem_nil _))
            ·refine GH.freeze 1 (L2' := [(128, eL (eL eS 1) 1 ([b1, b228] : List (List Str)))]) (R' := [.cells g258 36 [.val (.int .i64 0), .val (.int .i64 0)]]) rfl (fun S w h => .cons (.fz h) .nil) (fun S w h => .same .nil) ?_
             refine GH.loud rfl rfl (O.call (xs := [.tmp 128]) (is := []) (Rp := []) (Rr := [.cells g258 36 [.val (.int .i64 0), .val (.int .i64 0)]]) (slices_Concat_string_string_ok hr234) (.cons (.of rfl) .nil) Try.call37 rfl) fun x259 => ?_
             refine GH.all [6] (by kernel_rfl) (by decide) ?_
             refine (all_cons ?_ (List.forall_mem_nil _))
             ·refine GH.freeze 0 (L2' := [(129, eL eS 1 r233), (128, eL (eL eS 1) 1 ([b1, b228] : List (List Str)))]) (R' := [.cells g258 36 [.val (.int .i64 0), .val (.int .i64 0)]]) rfl (fun S w h => .cons (.fz h) (.cons .refl .nil)) (fun S w h => .same .nil) ?_
              refine GH.loud rfl rfl (O.call (xs := [.tmp 125, .tmp 129, .tmp 130]) (is := []) (Rp := []) (Rr := [.cells g258 36 [.val (.int .i64 0), .val (.int .i64 0)]]) (hrec_roadref2_scopeExpr hr237) (.cons (.of rfl) (.cons (.of rfl) (.cons (.of rfl) .nil))) Try.call27 rfl) fun x260 => ?_
              refine GH.all [8] (by kernel_rfl) (by decide) ?_
              refine (all_cons ?_ (List.forall_mem_nil _))
              ·refine GH.loudn rfl (O.store (i := 0) (o := 0) (ds := [.val (.int .i64 0), .val (.int .i64 0)]) rfl (.of rfl) rfl (OneC.agg (List.forall_mem_cons.2 ⟨(.val rfl), (List.forall_mem_cons.2 ⟨(.val rfl), (List.forall_mem_nil _)⟩)⟩)) Try.sizeOf36 rfl rfl) fun _ => ?_
               refine GH.done (is := [1, 3, 5, 6, 15, 100, 101, 102]) (js := [0, 1, 1, 1]) (L' := [(1, eL eS 1 b1), (3, .val (.pointer (some ⟨g3, 0, none⟩))), (5, .val (.pointer (some ⟨g4, 0, none⟩))), (6, .val (.pointer (some ⟨g5, 0, none⟩))), (15, .val (.pointer (some ⟨g258, 0, none⟩))), (100, eL e_T_Expr 8 b2.fArgs), (101, .val (.int .i64 (b2.fArgs.length : Int))), (102, .val (.int .i64 (i194 : Int)))]) (R' := [.cells g258 36 [.val (.int .i64 r236.fE), .val (.int .i64 r236.fAt)], .cells g3 29 (lf_T_Program b0), .cells g4 47 (lf_T_Expr b2), .cells g5 36 [.val (.int .i64 0), .val (.int .i64 0)]]) (by kernel_rfl) rfl rfl ?_
               exact G.finE fun _ a w hA => ⟨_, hA⟩
          ·refine GH.loud rfl rfl (O.alloc (ds := [.val (.int .i64 0), .val (.int .i64 0)]) Try.zeroValue36 rfl) fun g261 => ?_
           refine GH.lift Ind.val ?_
           refine GH.all [3] (by kernel_rfl) (by decide) ?_
           refine (all_cons ?_ (List.forall_mem_nil _))
           ·refine GH.loud rfl rfl (O.buildSlice (xs := [.tmp 126, .tmp 127]) (ds := ([b1, b228] : List (List Str)).map (eL eS 1)) elt74 rfl (.cons (.of rfl) (.cons (.of rfl) .nil)) rfl (by decide) (List.forall_mem_cons.2 ⟨(fun c hc => ((fun _ => one_L) _ c hc).mono), (List.forall_mem_cons.2 ⟨(fun c hc => ((fun _ => one_L) _ c hc).mono), (List.forall_mem_nil _)⟩)⟩) (List.forall_mem_cons.2 ⟨rfl, (List.forall_mem_cons.2 ⟨rfl, (List.forall_mem_nil _)⟩)⟩)) fun v264 => ?_
            refine GH.all [4] (by kernel_rfl) (by decide) ?_
            refine (all_cons ?_ (List.forall_mem_nil _))
            ·refine GH.freeze 0 (L2' := [(128, eL (eL eS 1) 1 ([b1, b228] : List (List Str)))]) (R' := [.cells g261 36 [.val (.int .i64 0), .val (.int .i64 0)]]) rfl (fun S w h => .cons (.fz h) .nil) (fun S w h => .same .nil) ?_
             refine GH.loud rfl rfl (O.call (xs := [.tmp 128]) (is := []) (Rp := []) (Rr := [.cells g261 36 [.val (.int .i64 0), .val (.int .i64 0)]]) (slices_Concat_string_string_ok hr234) (.cons (.of rfl) .nil) Try.call37 rfl) fun x265 => ?_
             refine GH.all [6] (by kernel_rfl) (by decide) ?_
             refine (all_cons ?_ (List.forall_mem_nil _))
             ·refine GH.freeze 0 (L2' := [(129, eL eS 1 r233), (128, eL (eL eS 1) 1 ([b1, b228] : List (List Str)))]) (R' := [.cells g261 36 [.val (.int .i64 0), .val (.int .i64 0)]]) rfl (fun S w h => .cons (.fz h) (.cons .refl .nil)) (fun S w h => .same .nil) ?_
              refine GH.loud rfl rfl (O.call (xs := [.tmp 125, .tmp 129, .tmp 130]) (is := []) (Rp := []) (Rr := [.cells g261 36 [.val (.int .i64 0), .val (.int .i64 0)]]) (hrec_roadref2_scopeExpr hr237) (.cons (.of rfl) (.cons (.of rfl) (.cons (.of rfl) .nil))) Try.call27 rfl) fun x266 => ?_
              refine GH.all [8] (by kernel_rfl) (by decide) ?_
              refine (all_cons ?_ (List.forall_mem_nil _))
              ·refine GH.loudn rfl (O.store (i := 0) (o := 0) (ds := [.val (.int .i64 0), .val (.int .i64 0)]) rfl (.of rfl) rfl (OneC.agg (List.forall_mem_cons.2 ⟨(.val rfl), (List.forall_mem_cons.2 ⟨(.val rfl), (List.forall_mem_nil _)⟩)⟩)) Try.sizeOf36 rfl rfl) fun _ => ?_
               refine GH.done (is := [1, 3, 5, 6, 15, 100, 101, 102]) (js := [0, 1, 1, 1]) (L' := [(1, eL eS 1 b1), (3, .val (.pointer (some ⟨g3, 0, none⟩))), (5, .val (.pointer (some ⟨g4, 0, none⟩))), (6, .val (.pointer (some ⟨g5, 0, none⟩))), (15, .val (.pointer (some ⟨g261, 0, none⟩))), (100, eL e_T_Expr 8 b2.fArgs), (101, .val (.int .i64 (b2.fArgs.length : Int))), (102, .val (.int .i64 (i194 : Int)))]) (R' := [.cells g261 36 [.val (.int .i64 r236.fE), .val (.int .i64 r236.fAt)], .cells g3 29 (lf_T_Program b0), .cells g4 47 (lf_T_Expr b2), .cells g5 36 [.val (.int .i64 0), .val (.int .i64 0)]]) (by kernel_rfl) rfl rfl ?_
               exact G.finE fun _ a w hA => ⟨_, hA⟩
         ·rintro a w ⟨g267, hA⟩ hF
          refine G.use hF hA ?_
          refine G.next_ hK231 ?_
          refine G.seq fun K268 hK269 => ?_
          refine G.region ?_
          refine G.p rfl (V.fieldAddr (o' := 0) rfl Try.runUnderlying36 rfl Try.sizeOf32 rfl) ?_
          refine G.q rfl (V.load_cell (i := 0) (ds := [.val (.int .i64 r236.fE), .val (.int .i64 r236.fAt)]) (d := .val (.int .i64 r236.fE)) rfl rfl Try.isAgg32 rfl rfl) ?_
          refine G.p rfl (V.bin (u := .int .i64 r236.fE) (v := .int .i64 0) (r := .bool (r236.fE != 0)) rfl rfl b_neq) ?_
          refine G.nil ?_
          refine G.norm (L' := [(1, eL eS 1 b1), (3, .val (.pointer (some ⟨g3, 0, none⟩))), (5, .val (.pointer (some ⟨g4, 0, none⟩))), (6, .val (.pointer (some ⟨g5, 0, none⟩))), (15, .val (.pointer (some ⟨g267, 0, none⟩))), (100, eL e_T_Expr 8 b2.fArgs), (101, .val (.int .i64 (b2.fArgs.length : Int))), (102, .val (.int .i64 (i194 : Int))), (134, .val (.bool (r236.fE != 0)))]) (is := [1, 3, 5, 6, 15, 100, 101, 102, 134]) (R' := [.cells g267 36 [.val (.int .i64 r236.fE), .val (.int .i64 r236.fAt)], .cells g3 29 (lf_T_Program b0), .cells g4 47 (lf_T_Expr b2), .cells g5 36 [.val (.int .i64 0), .val (.int .i64 0)]]) (js := [0, 0, 0, 0]) rfl rfl ?_
          refine G.next_ hK269 ?_
          refine G.cond (b := (r236.fE != 0)) rfl (fun hc270 => ?_) (fun hc270 => ?_)
          ·refine G.norm (L' := [(6, .val (.pointer (some ⟨g5, 0, none⟩))), (15, .val (.pointer (some ⟨g267, 0, none⟩)))]) (is := [6, 15]) (R' := [.cells g267 36 [.val (.int .i64 r236.fE), .val (.int .i64 r236.fAt)], .cells g5 36 [.val (.int .i64 0), .val (.int .i64 0)]]) (js := [0, 2]) rfl rfl ?_
           refine G.seq fun K271 hK272 => ?_
           refine G.region ?_
           refine G.q rfl (V.load_cellN (i := 0) (ds := [.val (.int .i64 r236.fE), .val (.int .i64 r236.fAt)]) (c1 := [.val (.int .i64 r236.fE), .val (.int .i64 r236.fAt)]) rfl rfl Try.isAgg36 Try.sizeOf36 rfl rfl rfl) ?_
           refine G.opn (O.store (i := 1) (o := 0) (ds := [.val (.int .i64 0), .val (.int .i64 0)]) rfl (.of rfl) rfl (OneC.agg (List.forall_mem_cons.2 ⟨(.val rfl), (List.forall_mem_cons.2 ⟨(.val rfl), (List.forall_mem_nil _)⟩)⟩)) Try.sizeOf36 rfl rfl) fun _ => ?_
           refine G.nil ?_
           refine G.norm (L' := [(6, .val (.pointer (some ⟨g5, 0, none⟩)))]) (is := [6]) (R' := [.cells g5 36 [.val (.int .i64 r236.fE), .val (.int .i64 r236.fAt)]]) (js := [1]) rfl rfl ?_
           refine G.next_ hK272 ?_
           refine G.ret ?_
           refine G.inB_ret ?_
           refine G.thn_ret ?_
           refine G.thn_ret ?_
           refine G.inB_ret ?_
           refine G.thn_ret ?_
           refine G.thn_ret ?_
           refine G.fin_ fun hF273 => ?_
           have hb274 := Option.some.inj hF273
           subst hb274
           have hF275 : (some r236 : Option (T_Wrong)) = some _ := hF199
           obtain rfl := Option.some.inj hF275
           exact G.retc (i := 0) (ds := [.val (.int .i64 r236.fE), .val (.int .i64 r236.fAt)]) Try.results27 () (is := []) rfl rfl Try.isAgg36 Try.sizeOf36 rfl rfl rfl
          ·refine G.norm (L' := [(1, eL eS 1 b1), (3, .val (.pointer (some ⟨g3, 0, none⟩))), (5, .val (.pointer (some ⟨g4, 0, none⟩))), (6, .val (.pointer (some ⟨g5, 0, none⟩))), (100, eL e_T_Expr 8 b2.fArgs), (101, .val (.int .i64 (b2.fArgs.length : Int))), (102, .val (.int .i64 (i194 : Int)))]) (is := [1, 3, 5, 6, 100, 101, 102]) (R' := [.cells g3 29 (lf_T_Program b0), .cells g4 47 (lf_T_Expr b2), .cells g5 36 [.val (.int .i64 0), .val (.int .i64 0)]]) (js := [1, 1, 1]) rfl rfl ?_
           refine G.skip ?_
           refine G.inB ?_
           refine G.next_ hK210 ?_
           refine G.region ?_
           refine G.p rfl (V.incr (i := i194) (N := b2.fArgs.length) rfl rfl (rng_lt hd197) (hN193)) ?_
           refine G.p rfl (V.move rfl) ?_
           refine G.nil ?_
           refine G.norm (L' := [(1, eL eS 1 b1), (3, .val (.pointer (some ⟨g3, 0, none⟩))), (5, .val (.pointer (some ⟨g4, 0, none⟩))), (6, .val (.pointer (some ⟨g5, 0, none⟩))), (100, eL e_T_Expr 8 b2.fArgs), (101, .val (.int .i64 (b2.fArgs.length : Int))), (102, .val (.int .i64 ((i194 + 1 : Nat) : Int)))]) (is := [1, 3, 5, 6, 100, 101, 102]) (R' := [.cells g3 29 (lf_T_Program b0), .cells g4 47 (lf_T_Expr b2), .cells g5 36 [.val (.int .i64 0), .val (.int .i64 0)]]) (js := [0, 0, 0]) rfl rfl ?_
           refine G.again ?_
           intro hl276 a w hA
           exact ⟨_, Nat.lt_succ_self _, rest196, i194 + 1, rfl, hl276, rng_next hd197, hA⟩
    ·rintro _ hb a w ⟨b278, rfl, hA⟩ hF279
     refine G.use hF279 hA ?_
     refine G.inr ?_
     refine G.next_ hK190 ?_
     refine G.seq fun K280 hK281 => ?_
     refine G.seq fun K282 hK283 => ?_
     refine G.region ?_
     refine G.p rfl (V.fieldAddr (o' := 6) rfl Try.runUnderlying47 rfl Try.sizeOf45 rfl) ?_
     refine G.q rfl (V.load_cell (i := 1) (ds := (lf_T_Expr b2)) (d := eL e_T_Arm 12 b2.fArms) rfl rfl Try.isAgg45 rfl rfl) ?_
     refine G.lenb (enc := e_T_Arm) (xs := b2.fArms) (sz := 12) (x := .tmp 138) (.of rfl) fun hN284 => ?_
     refine G.p rfl (V.len_sl (enc := e_T_Arm) (xs := b2.fArms) (sz := 12) (.of rfl) Try.runUnderlying45) ?_
     refine G.p rfl (V.move rfl) ?_
     refine G.nil ?_
     refine G.norm (L' := [(1, eL eS 1 b1), (3, .val (.pointer (some ⟨g3, 0, none⟩))), (6, .val (.pointer (some ⟨g5, 0, none⟩))), (138, eL e_T_Arm 12 b2.fArms), (139, .val (.int .i64 (b2.fArms.length : Int))), (140, .val (.int .i64 0))]) (is := [1, 3, 6, 138, 139, 140]) (R' := [.cells g3 29 (lf_T_Program b0), .cells g5 36 [.val (.int .i64 0), .val (.int .i64 0)]]) (js := [0, 1]) rfl rfl ?_
     refine G.next_ hK283 ?_
     refine G.join (E := fun o a w => ∃ b, o = .inr b ∧ Ass Gl B 160 [(6, .val (.pointer (some ⟨g5, 0, none⟩)))] [.cells g5 36 [.val (.int .i64 0), .val (.int .i64 0)]] a w) ?_ ?_
     ·intro b hF290
      refine G.block ?_
      refine G.norm (L' := [(1, eL eS 1 b1), (3, .val (.pointer (some ⟨g3, 0, none⟩))), (6, .val (.pointer (some ⟨g5, 0, none⟩))), (138, eL e_T_Arm 12 b2.fArms), (139, .val (.int .i64 (b2.fArms.length : Int))), (140, .val (.int .i64 ((0 : Nat) : Int)))]) (is := [1, 3, 6, 138, 139, 140]) (R' := [.cells g3 29 (lf_T_Program b0), .cells g5 36 [.val (.int .i64 0), .val (.int .i64 0)]]) (js := [0, 0]) rfl rfl ?_
      refine G.loop (fun kq a w => ∃ (rest287 : List (T_Arm)) (i285 : Nat), kq = rest287.length ∧ roadref2_scopeExpr.l4 b0 b1 k rec_roadref2_scopeExpr rest287 = some b ∧ b2.fArms.drop i285 = rest287 ∧ Ass Gl B 160 [(1, eL eS 1 b1), (3, .val (.pointer (some ⟨g3, 0, none⟩))), (6, .val (.pointer (some ⟨g5, 0, none⟩))), (138, eL e_T_Arm 12 b2.fArms), (139, .val (.int .i64 (b2.fArms.length : Int))), (140, .val (.int .i64 (i285 : Int)))] [.cells g3 29 (lf_T_Program b0), .cells g5 36 [.val (.int .i64 0), .val (.int .i64 0)]] a w) (b2.fArms.length) ?_ ?_
      ·intro hl365 a w hA
       exact ⟨b2.fArms, 0, rfl, hl365, rfl, hA⟩
      ·rintro _ a w ⟨rest287, i285, rfl, hl291, hd288, hA⟩
       rcases rest287 with _ | ⟨y286, rest287⟩
       ·rw [roadref2_scopeExpr.l4_nil] at hl291
        refine G.use hl291 hA ?_
        refine G.seq fun K292 hK293 => ?_
        refine G.region ?_
        refine G.p rfl (V.bin (u := .int .i64 (i285 : Int)) (v := .int .i64 (b2.fArms.length : Int)) (r := .bool (decide ((i285 : Int) < (b2.fArms.length : Int)))) rfl rfl b_lss) ?_
        refine G.nil ?_
        refine G.norm (L' := [(1, eL eS 1 b1), (3, .val (.pointer (some ⟨g3, 0, none⟩))), (6, .val (.pointer (some ⟨g5, 0, none⟩))), (138, eL e_T_Arm 12 b2.fArms), (139, .val (.int .i64 (b2.fArms.length : Int))), (140, .val (.int .i64 (i285 : Int))), (141, .val (.bool (decide ((i285 : Int) < (b2.fArms.length : Int)))))]) (is := [1, 3, 6, 138, 139, 140, 141]) (R' := [.cells g3 29 (lf_T_Program b0), .cells g5 36 [.val (.int .i64 0), .val (.int .i64 0)]]) (js := [0, 0]) rfl rfl ?_
        refine G.next_ hK293 ?_
        refine G.seq fun K294 hK295 => ?_
        refine G.no rfl (rng_end hd288) ?_
        refine G.exit ?_
        refine G.thn_exit ?_
        refine G.thn_exit ?_
        refine G.inB_eq ?_
        refine G.norm (L' := [(6, .val (.pointer (some ⟨g5, 0, none⟩)))]) (is := [6]) (R' := [.cells g5 36 [.val (.int .i64 0), .val (.int .i64 0)]]) (js := [1]) rfl rfl ?_
        exact G.finE fun hb a w hA => by subst hb; exact ⟨_, rfl, hA⟩
       ·rw [roadref2_scopeExpr.l4_cons] at hl291
        refine G.use hl291 hA ?_
        refine G.seq fun K296 hK297 => ?_
        refine G.region ?_
        refine G.p rfl (V.bin (u := .int .i64 (i285 : Int)) (v := .int .i64 (b2.fArms.length : Int)) (r := .bool (decide ((i285 : Int) < (b2.fArms.length : Int)))) rfl rfl b_lss) ?_
        refine G.nil ?_
        refine G.norm (L' := [(1, eL eS 1 b1), (3, .val (.pointer (some ⟨g3, 0, none⟩))), (6, .val (.pointer (some ⟨g5, 0, none⟩))), (138, eL e_T_Arm 12 b2.fArms), (139, .val (.int .i64 (b2.fArms.length : Int))), (140, .val (.int .i64 (i285 : Int))), (141, .val (.bool (decide ((i285 : Int) < (b2.fArms.length : Int)))))]) (is := [1, 3, 6, 138, 139, 140, 141]) (R' := [.cells g3 29 (lf_T_Program b0), .cells g5 36 [.val (.int .i64 0), .val (.int .i64 0)]]) (js := [0, 0]) rfl rfl ?_
        refine G.next_ hK297 ?_
        refine G.seq fun K298 hK299 => ?_
        refine G.yes rfl (rng_more hd288) ?_
        refine G.skip ?_
        refine G.next_ hK299 ?_
        refine G.seq fun K300 hK301 => ?_
        refine G.block ?_
        refine G.seq fun K302 hK303 => ?_
        refine G.region ?_
        refine G.p rfl (V.at_sl (k := i285) rfl rfl Try.runUnderlying45 Try.sizeOf85 (map_at (rng_at hd288))) ?_
        refine G.q rfl (V.load_ptrN (ds := (lf_T_Arm y286)) rfl (e_T_Arm_eq y286) Try.isAgg85 Try.sizeOf85 rfl) ?_
        refine G.op rfl (O.alloc (ds := [.val (.int .i64 0), .val (.int .i64 0), .val (bs ([] : Str)), .val (.slice none 0 0), .val (.int .i64 0), .val (.int .i64 0), .val (bs ([] : Str)), .val (.slice none 0 0), .val (.slice none 0 0), .val (.slice none 0 0), .val (.slice none 0 0), .val (.int .i64 0)]) Try.zeroValue85 rfl) fun g304 => ?_
        refine G.opn (O.store (i := 0) (o := 0) (ds := [.val (.int .i64 0), .val (.int .i64 0), .val (bs ([] : Str)), .val (.slice none 0 0), .val (.int .i64 0), .val (.int .i64 0), .val (bs ([] : Str)), .val (.slice none 0 0), .val (.slice none 0 0), .val (.slice none 0 0), .val (.slice none 0 0), .val (.int .i64 0)]) rfl (.of rfl) rfl (OneC.agg (List.forall_mem_cons.2 ⟨(.val rfl), (List.forall_mem_cons.2 ⟨(.val rfl), (List.forall_mem_cons.2 ⟨(.val rfl), (List.forall_mem_cons.2 ⟨.sl, (List.forall_mem_cons.2 ⟨(.val rfl), (List.forall_mem_cons.2 ⟨(.val rfl), (List.forall_mem_cons.2 ⟨(.val rfl), (List.forall_mem_cons.2 ⟨.sl, (List.forall_mem_cons.2 ⟨.sl, (List.forall_mem_cons.2 ⟨.sl, (List.forall_mem_cons.2 ⟨.sl, (List.forall_mem_cons.2 ⟨(.val rfl), (List.forall_mem_nil _)⟩)⟩)⟩)⟩)⟩)⟩)⟩)⟩)⟩)⟩)⟩)⟩)) Try.sizeOf85 rfl rfl) fun _ => ?_
        refine G.nil ?_
        refine G.norm (L' := [(1, eL eS 1 b1), (3, .val (.pointer (some ⟨g3, 0, none⟩))), (6, .val (.pointer (some ⟨g5, 0, none⟩))), (17, .val (.pointer (some ⟨g304, 0, none⟩))), (138, eL e_T_Arm 12 b2.fArms), (139, .val (.int .i64 (b2.fArms.length : Int))), (140, .val (.int .i64 (i285 : Int)))]) (is := [1, 3, 6, 17, 138, 139, 140]) (R' := [.cells g304 85 (lf_T_Arm y286), .cells g3 29 (lf_T_Program b0), .cells g5 36 [.val (.int .i64 0), .val (.int .i64 0)]]) (js := [0, 0, 0]) rfl rfl ?_
        refine G.next_ hK303 ?_
        refine G.seq fun K305 hK306 => ?_
        refine G.bind fun r307 hr308 => ?_
        refine G.bind fun r311 hr312 => ?_
        refine G.bind fun r314 hr315 => ?_
        refine G.cutc (fun a w => ∃ (g_0 : Nat), Ass Gl B 160 [(1, eL eS 1 b1), (3, .val (.pointer (some ⟨g3, 0, none⟩))), (6, .val (.pointer (some ⟨g5, 0, none⟩))), (18, .val (.pointer (some ⟨g_0, 0, none⟩))), (138, eL e_T_Arm 12 b2.fArms), (139, .val (.int .i64 (b2.fArms.length : Int))), (140, .val (.int .i64 (i285 : Int)))] [.cells g_0 36 [.val (.int .i64 r314.fE), .val (.int .i64 r314.fAt)], .cells g3 29 (lf_T_Program b0), .cells g5 36 [.val (.int .i64 0), .val (.int .i64 0)]] a w) ?_ ?_
        ·refine G.draw [] Try_mixed 12 rfl rfl (fun B1 => ?_)
         refine GH.take 0 rfl rfl (by kernel_rfl) (by kernel_rfl) (by kernel_rfl) (V.load_cellN (i := 1) (ds := (lf_T_Program b0)) (c1 := (lf_T_Program b0)) rfl rfl Try.isAgg29 Try.sizeOf29 rfl rfl rfl) (fun _ _ _ _ h => h) ?_
         refine GH.take 1 rfl rfl (by kernel_rfl) (by kernel_rfl) (by kernel_rfl) (Qp.qv (V.move rfl)) (fun _ _ _ _ h => h) ?_
         refine GH.take 2 rfl rfl (by kernel_rfl) (by kernel_rfl) (by kernel_rfl) (Qp.qv (V.fieldAddr (o' := 0) rfl Try.runUnderlying85 rfl Try.sizeOf83 rfl)) (fun _ _ _ _ h => h) ?_
         refine GH.take 3 rfl rfl (by kernel_rfl) (by kernel_rfl) (by kernel_rfl) (V.load_cellN (i := 0) (ds := (lf_T_Arm y286)) (c1 := (lf_T_Pat y286.fPat)) rfl rfl Try.isAgg83 Try.sizeOf83 rfl rfl rfl) (fun _ _ _ _ h => h) ?_
         refine GH.take 7 rfl rfl (by kernel_rfl) (by kernel_rfl) (by kernel_rfl) (Qp.qv (V.fieldAddr (o' := 4) rfl Try.runUnderlying85 rfl Try.sizeOf47 rfl)) (fun _ _ _ _ h => h) ?_
         refine GH.take 8 rfl rfl (by kernel_rfl) (by kernel_rfl) (by kernel_rfl) (V.load_cellN (i := 0) (ds := (lf_T_Arm y286)) (c1 := (lf_T_Expr y286.fBody)) rfl rfl Try.isAgg47 Try.sizeOf47 rfl rfl rfl) (fun _ _ _ _ h => h) ?_
         refine GH.all [4, 10] (by kernel_rfl) (by decide) ?_
         refine (all_cons ?_ (all_cons ?_ (List.forall_mem_nil _)))
         ·refine GH.loud rfl rfl (O.call (xs := [.tmp 147]) (is := []) (Rp := []) (Rr := []) (roadref2_NamesOf_ok k hr308) (.cons (.of rfl) .nil) Try.call36 rfl) fun x326 => ?_
          refine GH.all [5, 10] (by kernel_rfl) (by decide) ?_
          refine (all_cons ?_ (all_cons ?_ (List.forall_mem_nil _)))
          ·refine GH.freeze 0 (L2' := [(148, eL eS 1 r307)]) (R' := []) rfl (fun S w h => .cons (.fz h) .nil) (fun S w h => .nil) ?_
           refine GH.loud rfl rfl (O.buildSlice (xs := [.tmp 145, .tmp 148]) (ds := ([b1, r307] : List (List Str)).map (eL eS 1)) elt74 rfl (.cons (.of rfl) (.cons (.of rfl) .nil)) rfl (by decide) (List.forall_mem_cons.2 ⟨(fun c hc => ((fun _ => one_L) _ c hc).mono), (List.forall_mem_cons.2 ⟨(fun c hc => ((fun _ => one_L) _ c hc).mono), (List.forall_mem_nil _)⟩)⟩) (List.forall_mem_cons.2 ⟨rfl, (List.forall_mem_cons.2 ⟨rfl, (List.forall_mem_nil _)⟩)⟩)) fun v329 => ?_
           refine GH.all [6, 10] (by kernel_rfl) (by decide) ?_
           refine (all_cons ?_ (all_cons ?_ (List.forall_mem_nil _)))
           ·refine GH.freeze 0 (L2' := [(149, eL (eL eS 1) 1 ([b1, r307] : List (List Str))), (148, eL eS 1 r307)]) (R' := []) rfl (fun S w h => .cons (.fz h) (.cons .refl .nil)) (fun S w h => .nil) ?_
            refine GH.loud rfl rfl (O.call (xs := [.tmp 149]) (is := []) (Rp := []) (Rr := []) (slices_Concat_string_string_ok hr312) (.cons (.of rfl) .nil) Try.call37 rfl) fun x332 => ?_
            refine GH.all [9, 10] (by kernel_rfl) (by decide) ?_
            refine (all_cons ?_ (all_cons ?_ (List.forall_mem_nil _)))
            ·refine GH.freeze 0 (L2' := [(150, eL eS 1 r311), (149, eL (eL eS 1) 1 ([b1, r307] : List (List Str))), (148, eL eS 1 r307)]) (R' := []) rfl (fun S w h => .cons (.fz h) (.cons .refl (.cons .refl .nil))) (fun S w h => .nil) ?_
             refine GH.loud rfl rfl (O.call (xs := [.tmp 144, .tmp 150, .tmp 152]) (is := []) (Rp := []) (Rr := []) (hrec_roadref2_scopeExpr hr315) (.cons (.of rfl) (.cons (.of rfl) (.cons (.of rfl) .nil))) Try.call27 rfl) fun x335 => ?_
             refine GH.all [10] (by kernel_rfl) (by decide) ?_
             refine (all_cons ?_ (List.forall_mem_nil _))
             ·refine GH.loud rfl rfl (O.alloc (ds := [.val (.int .i64 0), .val (.int .i64 0)]) Try.zeroValue36 rfl) fun g338 => ?_
              refine GH.lift Ind.val ?_
              refine GH.all [11] (by kernel_rfl) (by decide) ?_
              refine (all_cons ?_ (List.forall_mem_nil _))
              ·refine GH.loudn rfl (O.store (i := 0) (o := 0) (ds := [.val (.int .i64 0), .val (.int .i64 0)]) rfl (.of rfl) rfl (OneC.agg (List.forall_mem_cons.2 ⟨(.val rfl), (List.forall_mem_cons.2 ⟨(.val rfl), (List.forall_mem_nil _)⟩)⟩)) Try.sizeOf36 rfl rfl) fun _ => ?_
               refine GH.done (is := [1, 3, 6, 18, 138, 139, 140]) (js := [0, 1, 1]) (L' := [(1, eL eS 1 b1), (3, .val (.pointer (some ⟨g3, 0, none⟩))), (6, .val (.pointer (some ⟨g5, 0, none⟩))), (18, .val (.pointer (some ⟨g338, 0, none⟩))), (138, eL e_T_Arm 12 b2.fArms), (139, .val (.int .i64 (b2.fArms.length : Int))), (140, .val (.int .i64 (i285 : Int)))]) (R' := [.cells g338 36 [.val (.int .i64 r314.fE), .val (.int .i64 r314.fAt)], .cells g3 29 (lf_T_Program b0), .cells g5 36 [.val (.int .i64 0), .val (.int .i64 0)]]) (by kernel_rfl) rfl rfl ?_
               exact G.finE fun _ a w hA => ⟨_, hA⟩
            ·refine GH.loud rfl rfl (O.alloc (ds := [.val (.int .i64 0), .val (.int .i64 0)]) Try.zeroValue36 rfl) fun g339 => ?_
             refine GH.lift Ind.val ?_
             refine GH.all [9] (by kernel_rfl) (by decide) ?_
             refine (all_cons ?_ (List.forall_mem_nil _))
             ·refine GH.freeze 1 (L2' := [(150, eL eS 1 r311), (149, eL (eL eS 1) 1 ([b1, r307] : List (List Str))), (148, eL eS 1 r307)]) (R' := [.cells g339 36 [.val (.int .i64 0), .val (.int .i64 0)]]) rfl (fun S w h => .cons (.fz h) (.cons .refl (.cons .refl .nil))) (fun S w h => .same .nil) ?_
              refine GH.loud rfl rfl (O.call (xs := [.tmp 144, .tmp 150, .tmp 152]) (is := []) (Rp := []) (Rr := [.cells g339 36 [.val (.int .i64 0), .val (.int .i64 0)]]) (hrec_roadref2_scopeExpr hr315) (.cons (.of rfl) (.cons (.of rfl) (.cons (.of rfl) .nil))) Try.call27 rfl) fun x340 => ?_
              refine GH.all [11] (by kernel_rfl) (by decide) ?_
              refine (all_cons ?_ (List.forall_mem_nil _))
              ·refine GH.loudn rfl (O.store (i := 0) (o := 0) (ds := [.val (.int .i64 0), .val (.int .i64 0)]) rfl (.of rfl) rfl (OneC.agg (List.forall_mem_cons.2 ⟨(.val rfl), (List.forall_mem_cons.2 ⟨(.val rfl), (List.forall_mem_nil _)⟩)⟩)) Try.sizeOf36 rfl rfl) fun _ => ?_
               refine GH.done (is := [1, 3, 6, 18, 138, 139, 140]) (js := [0, 1, 1]) (L' := [(1, eL eS 1 b1), (3, .val (.pointer (some ⟨g3, 0, none⟩))), (6, .val (.pointer (some ⟨g5, 0, none⟩))), (18, .val (.pointer (some ⟨g339, 0, none⟩))), (138, eL e_T_Arm 12 b2.fArms), (139, .val (.int .i64 (b2.fArms.length : Int))), (140, .val (.int .i64 (i285 : Int)))]) (R' := [.cells g339 36 [.val (.int .i64 r314.fE), .val (.int .i64 r314.fAt)], .cells g3 29 (lf_T_Program b0), .cells g5 36 [.val (.int .i64 0), .val (.int .i64 0)]]) (by kernel_rfl) rfl rfl ?_
               exact G.finE fun _ a w hA => ⟨_, hA⟩
           ·refine GH.loud rfl rfl (O.alloc (ds := [.val (.int .i64 0), .val (.int .i64 0)]) Try.zeroValue36 rfl) fun g341 => ?_
            refine GH.lift Ind.val ?_
            refine GH.all [6] (by kernel_rfl) (by decide) ?_
            refine (all_cons ?_ (List.forall_mem_nil _))
            ·refine GH.freeze 1 (L2' := [(149, eL (eL eS 1) 1 ([b1, r307] : List (List Str))), (148, eL eS 1 r307)]) (R' := [.cells g341 36 [.val (.int .i64 0), .val (.int .i64 0)]]) rfl (fun S w h => .cons (.fz h) (.cons .refl .nil)) (fun S w h => .same .nil) ?_
             refine GH.loud rfl rfl (O.call (xs := [.tmp 149]) (is := []) (Rp := []) (Rr := [.cells g341 36 [.val (.int .i64 0), .val (.int .i64 0)]]) (slices_Concat_string_string_ok hr312) (.cons (.of rfl) .nil) Try.call37 rfl) fun x342 => ?_
             refine GH.all [9] (by kernel_rfl) (by decide) ?_
             refine (all_cons ?_ (List.forall_mem_nil _))
             ·refine GH.freeze 0 (L2' := [(150, eL eS 1 r311), (149, eL (eL eS 1) 1 ([b1, r307] : List (List Str))), (148, eL eS 1 r307)]) (R' := [.cells g341 36 [.val (.int .i64 0), .val (.int .i64 0)]]) rfl (fun S w h => .cons (.fz h) (.cons .refl (.cons .refl .nil))) (fun S w h => .same .nil) ?_
              refine GH.loud rfl rfl (O.call (xs := [.tmp 144, .tmp 150, .tmp 152]) (is := []) (Rp := []) (Rr := [.cells g341 36 [.val (.int .i64 0), .val (.int .i64 0)]]) (hrec_roadref2_scopeExpr hr315) (.cons (.of rfl) (.cons (.of rfl) (.cons (.of rfl) .nil))) Try.call27 rfl) fun x343 => ?_
              refine GH.all [11] (by kernel_rfl) (by decide) ?_
              refine (all_cons ?_ (List.forall_mem_nil _))
              ·refine GH.loudn rfl (O.store (i := 0) (o := 0) (ds := [.val (.int .i64 0), .val (.int .i64 0)]) rfl (.of rfl) rfl (OneC.agg (List.forall_mem_cons.2 ⟨(.val rfl), (List.forall_mem_cons.2 ⟨(.val rfl), (List.forall_mem_nil _)⟩)⟩)) Try.sizeOf36 rfl rfl) fun _ => ?_
               refine GH.done (is := [1, 3, 6, 18, 138, 139, 140]) (js := [0, 1, 1]) (L' := [(1, eL eS 1 b1), (3, .val (.pointer (some ⟨g3, 0, none⟩))), (6, .val (.pointer (some ⟨g5, 0, none⟩))), (18, .val (.pointer (some ⟨g341, 0, none⟩))), (138, eL e_T_Arm 12 b2.fArms), (139, .val (.int .i64 (b2.fArms.length : Int))), (140, .val (.int .i64 (i285 : Int)))]) (R' := [.cells g341 36 [.val (.int .i64 r314.fE), .val (.int .i64 r314.fAt)], .cells g3 29 (lf_T_Program b0), .cells g5 36 [.val (.int .i64 0), .val (.int .i64 0)]]) (by kernel_rfl) rfl rfl ?_
               exact G.finE fun _ a w hA => ⟨_, hA⟩
          ·refine GH.loud rfl rfl (O.alloc (ds := [.val (.int .i64 0), .val (.int .i64 0)]) Try.zeroValue36 rfl) fun g344 => ?_
           refine GH.lift Ind.val ?_
           refine GH.all [5] (by kernel_rfl) (by decide) ?_
           refine (all_cons ?_ (List.forall_mem_nil _))
           ·refine GH.freeze 1 (L2' := [(148, eL eS 1 r307)]) (R' := [.cells g344 36 [.val (.int .i64 0), .val (.int .i64 0)]]) rfl (fun S w h => .cons (.fz h) .nil) (fun S w h => .same .nil) ?_
            refine GH.loud rfl rfl (O.buildSlice (xs := [.tmp 145, .tmp 148]) (ds := ([b1, r307] : List (List Str)).map (eL eS 1)) elt74 rfl (.cons (.of rfl) (.cons (.of rfl) .nil)) rfl (by decide) (List.forall_mem_cons.2 ⟨(fun c hc => ((fun _ => one_L) _ c hc).mono), (List.forall_mem_cons.2 ⟨(fun c hc => ((fun _ => one_L) _ c hc).mono), (List.forall_mem_nil _)⟩)⟩) (List.forall_mem_cons.2 ⟨rfl, (List.forall_mem_cons.2 ⟨rfl, (List.forall_mem_nil _)⟩)⟩)) fun v345 => ?_
            refine GH.all [6] (by kernel_rfl) (by decide) ?_
            refine (all_cons ?_ (List.forall_mem_nil _))
            ·refine GH.freeze 0 (L2' := [(149, eL (eL eS 1) 1 ([b1, r307] : List (List Str))), (148, eL eS 1 r307)]) (R' := [.cells g344 36 [.val (.int .i64 0), .val (.int .i64 0)]]) rfl (fun S w h => .cons (.fz h) (.cons .refl .nil)) (fun S w h => .same .nil) ?_
             refine GH.loud rfl rfl (O.call (xs := [.tmp 149]) (is := []) (Rp := []) (Rr := [.cells g344 36 [.val (.int .i64 0), .val (.int .i64 0)]]) (slices_Concat_string_string_ok hr312) (.cons (.of rfl) .nil) Try.call37 rfl) fun x346 => ?_
             refine GH.all [9] (by kernel_rfl) (by decide) ?_
             refine (all_cons ?_ (List.forall_mem_nil _))
             ·refine GH.freeze 0 (L2' := [(150, eL eS 1 r311), (149, eL (eL eS 1) 1 ([b1, r307] : List (List Str))), (148, eL eS 1 r307)]) (R' := [.cells g344 36 [.val (.int .i64 0), .val (.int .i64 0)]]) rfl (fun S w h => .cons (.fz h) (.cons .refl (.cons .refl .nil))) (fun S w h => .same .nil) ?_
              refine GH.loud rfl rfl (O.call (xs := [.tmp 144, .tmp 150, .tmp 152]) (is := []) (Rp := []) (Rr := [.cells g344 36 [.val (.int .i64 0), .val (.int .i64 0)]]) (hrec_roadref2_scopeExpr hr315) (.cons (.of rfl) (.cons (.of rfl) (.cons (.of rfl) .nil))) Try.call27 rfl) fun x347 => ?_
              refine GH.all [11] (by kernel_rfl) (by decide) ?_
              refine (all_cons ?_ (List.forall_mem_nil _))
              ·refine GH.loudn rfl (O.store (i := 0) (o := 0) (ds := [.val (.int .i64 0), .val (.int .i64 0)]) rfl (.of rfl) rfl (OneC.agg (List.forall_mem_cons.2 ⟨(.val rfl), (List.forall_mem_cons.2 ⟨(.val rfl), (List.forall_mem_nil _)⟩)⟩)) Try.sizeOf36 rfl rfl) fun _ => ?_
               refine GH.done (is := [1, 3, 6, 18, 138, 139, 140]) (js := [0, 1, 1]) (L' := [(1, eL eS 1 b1), (3, .val (.pointer (some ⟨g3, 0, none⟩))), (6, .val (.pointer (some ⟨g5, 0, none⟩))), (18, .val (.pointer (some ⟨g344, 0, none⟩))), (138, eL e_T_Arm 12 b2.fArms), (139, .val (.int .i64 (b2.fArms.length : Int))), (140, .val (.int .i64 (i285 : Int)))]) (R' := [.cells g344 36 [.val (.int .i64 r314.fE), .val (.int .i64 r314.fAt)], .cells g3 29 (lf_T_Program b0), .cells g5 36 [.val (.int .i64 0), .val (.int .i64 0)]]) (by kernel_rfl) rfl rfl ?_
               exact G.finE fun _ a w hA => ⟨_, hA⟩
         ·refine GH.loud rfl rfl (O.alloc (ds := [.val (.int .i64 0), .val (.int .i64 0)]) Try.zeroValue36 rfl) fun g348 => ?_
          refine GH.lift Ind.val ?_
          refine GH.all [4] (by kernel_rfl) (by decide) ?_
          refine (all_cons ?_ (List.forall_mem_nil _))
          ·refine GH.loud rfl rfl (O.call (xs := [.tmp 147]) (is := []) (Rp := []) (Rr := [.cells g348 36 [.val (.int .i64 0), .val (.int .i64 0)]]) (roadref2_NamesOf_ok k hr308) (.cons (.of rfl) .nil) Try.call36 rfl) fun x351 => ?_
           refine GH.all [5] (by kernel_rfl) (by decide) ?_
           refine (all_cons ?_ (List.forall_mem_nil _))
           ·refine GH.freeze 0 (L2' := [(148, eL eS 1 r307)]) (R' := [.cells g348 36 [.val (.int .i64 0), .val (.int .i64 0)]]) rfl (fun S w h => .cons (.fz h) .nil) (fun S w h => .same .nil) ?_
            refine GH.loud rfl rfl (O.buildSlice (xs := [.tmp 145, .tmp 148]) (ds := ([b1, r307] : List (List Str)).map (eL eS 1)) elt74 rfl (.cons (.of rfl) (.cons (.of rfl) .nil)) rfl (by decide) (List.forall_mem_cons.2 ⟨(fun c hc => ((fun _ => one_L) _ c hc).mono), (List.forall_mem_cons.2 ⟨(fun c hc => ((fun _ => one_L) _ c hc).mono), (List.forall_mem_nil _)⟩)⟩) (List.forall_mem_cons.2 ⟨rfl, (List.forall_mem_cons.2 ⟨rfl, (List.forall_mem_nil _)⟩)⟩)) fun v352 => ?_
            refine GH.all [6] (by kernel_rfl) (by decide) ?_
            refine (all_cons ?_ (List.forall_mem_nil _))
            ·refine GH.freeze 0 (L2' := [(149, eL (eL eS 1) 1 ([b1, r307] : List (List Str))), (148, eL eS 1 r307)]) (R' := [.cells g348 36 [.val (.int .i64 0), .val (.int .i64 0)]]) rfl (fun S w h => .cons (.fz h) (.cons .refl .nil)) (fun S w h => .same .nil) ?_
             refine GH.loud rfl rfl (O.call (xs := [.tmp 149]) (is := []) (Rp := []) (Rr := [.cells g348 36 [.val (.int .i64 0), .val (.int .i64 0)]]) (slices_Concat_string_string_ok hr312) (.cons (.of rfl) .nil) Try.call37 rfl) fun x353 => ?_
             refine GH.all [9] (by kernel_rfl) (by decide) ?_
             refine (all_cons ?_ (List.forall_mem_nil _))
             ·refine GH.freeze 0 (L2' := [(150, eL eS 1 r311), (149, eL (eL eS 1) 1 ([b1, r307] : List (List Str))), (148, eL eS 1 r307)]) (R' := [.cells g348 36 [.val (.int .i64 0), .val (.int .i64 0)]]) rfl (fun S w h => .cons (.fz h) (.cons .refl (.cons .refl .nil))) (fun S w h => .same .nil) ?_
              refine GH.loud rfl rfl (O.call (xs := [.tmp 144, .tmp 150, .tmp 152]) (is := []) (Rp := []) (Rr := [.cells g348 36 [.val (.int .i64 0), .val (.int .i64 0)]]) (hrec_roadref2_scopeExpr hr315) (.cons (.of rfl) (.cons (.of rfl) (.cons (.of rfl) .nil))) Try.call27 rfl) fun x354 => ?_
              refine GH.all [11] (by kernel_rfl) (by decide) ?_
              refine (all_cons ?_ (List.forall_mem_nil _))
              ·refine GH.loudn rfl (O.store (i := 0) (o := 0) (ds := [.val (.int .i64 0), .val (.int .i64 0)]) rfl (.of rfl) rfl (OneC.agg (List.forall_mem_cons.2 ⟨(.val rfl), (List.forall_mem_cons.2 ⟨(.val rfl), (List.forall_mem_nil _)⟩)⟩)) Try.sizeOf36 rfl rfl) fun _ => ?_
               refine GH.done (is := [1, 3, 6, 18, 138, 139, 140]) (js := [0, 1, 1]) (L' := [(1, eL eS 1 b1), (3, .val (.pointer (some ⟨g3, 0, none⟩))), (6, .val (.pointer (some ⟨g5, 0, none⟩))), (18, .val (.pointer (some ⟨g348, 0, none⟩))), (138, eL e_T_Arm 12 b2.fArms), (139, .val (.int .i64 (b2.fArms.length : Int))), (140, .val (.int .i64 (i285 : Int)))]) (R' := [.cells g348 36 [.val (.int .i64 r314.fE), .val (.int .i64 r314.fAt)], .cells g3 29 (lf_T_Program b0), .cells g5 36 [.val (.int .i64 0), .val (.int .i64 0)]]) (by kernel_rfl) rfl rfl ?_
               exact G.finE fun _ a w hA => ⟨_, hA⟩
        ·rintro a w ⟨g355, hA⟩ hF
         refine G.use hF hA ?_
         refine G.next_ hK306 ?_
         refine G.seq fun K356 hK357 => ?_
         refine G.region ?_
         refine G.p rfl (V.fieldAddr (o' := 0) rfl Try.runUnderlying36 rfl Try.sizeOf32 rfl) ?_
         refine G.q rfl (V.load_cell (i := 0) (ds := [.val (.int .i64 r314.fE), .val (.int .i64 r314.fAt)]) (d := .val (.int .i64 r314.fE)) rfl rfl Try.isAgg32 rfl rfl) ?_
         refine G.p rfl (V.bin (u := .int .i64 r314.fE) (v := .int .i64 0) (r := .bool (r314.fE != 0)) rfl rfl b_neq) ?_
         refine G.nil ?_
         refine G.norm (L' := [(1, eL eS 1 b1), (3, .val (.pointer (some ⟨g3, 0, none⟩))), (6, .val (.pointer (some ⟨g5, 0, none⟩))), (18, .val (.pointer (some ⟨g355, 0, none⟩))), (138, eL e_T_Arm 12 b2.fArms), (139, .val (.int .i64 (b2.fArms.length : Int))), (140, .val (.int .i64 (i285 : Int))), (156, .val (.bool (r314.fE != 0)))]) (is := [1, 3, 6, 18, 138, 139, 140, 156]) (R' := [.cells g355 36 [.val (.int .i64 r314.fE), .val (.int .i64 r314.fAt)], .cells g3 29 (lf_T_Program b0), .cells g5 36 [.val (.int .i64 0), .val (.int .i64 0)]]) (js := [0, 0, 0]) rfl rfl ?_
         refine G.next_ hK357 ?_
         refine G.cond (b := (r314.fE != 0)) rfl (fun hc358 => ?_) (fun hc358 => ?_)
         ·refine G.norm (L' := [(6, .val (.pointer (some ⟨g5, 0, none⟩))), (18, .val (.pointer (some ⟨g355, 0, none⟩)))]) (is := [6, 18]) (R' := [.cells g355 36 [.val (.int .i64 r314.fE), .val (.int .i64 r314.fAt)], .cells g5 36 [.val (.int .i64 0), .val (.int .i64 0)]]) (js := [0, 1]) rfl rfl ?_
          refine G.seq fun K359 hK360 => ?_
          refine G.region ?_
          refine G.q rfl (V.load_cellN (i := 0) (ds := [.val (.int .i64 r314.fE), .val (.int .i64 r314.fAt)]) (c1 := [.val (.int .i64 r314.fE), .val (.int .i64 r314.fAt)]) rfl rfl Try.isAgg36 Try.sizeOf36 rfl rfl rfl) ?_
          refine G.opn (O.store (i := 1) (o := 0) (ds := [.val (.int .i64 0), .val (.int .i64 0)]) rfl (.of rfl) rfl (OneC.agg (List.forall_mem_cons.2 ⟨(.val rfl), (List.forall_mem_cons.2 ⟨(.val rfl), (List.forall_mem_nil _)⟩)⟩)) Try.sizeOf36 rfl rfl) fun _ => ?_
          refine G.nil ?_
          refine G.norm (L' := [(6, .val (.pointer (some ⟨g5, 0, none⟩)))]) (is := [6]) (R' := [.cells g5 36 [.val (.int .i64 r314.fE), .val (.int .i64 r314.fAt)]]) (js := [1]) rfl rfl ?_
          refine G.next_ hK360 ?_
          refine G.ret ?_
          refine G.inB_ret ?_
          refine G.thn_ret ?_
          refine G.thn_ret ?_
          refine G.inB_ret ?_
          refine G.thn_ret ?_
          refine G.thn_ret ?_
          refine G.fin_ fun hF361 => ?_
          have hb362 := Option.some.inj hF361
          subst hb362
          have hF363 : (some r314 : Option (T_Wrong)) = some _ := hF290
          obtain rfl := Option.some.inj hF363
          exact G.retc (i := 0) (ds := [.val (.int .i64 r314.fE), .val (.int .i64 r314.fAt)]) Try.results27 () (is := []) rfl rfl Try.isAgg36 Try.sizeOf36 rfl rfl rfl
         ·refine G.norm (L' := [(1, eL eS 1 b1), (3, .val (.pointer (some ⟨g3, 0, none⟩))), (6, .val (.pointer (some ⟨g5, 0, none⟩))), (138, eL e_T_Arm 12 b2.fArms), (139, .val (.int .i64 (b2.fArms.length : Int))), (140, .val (.int .i64 (i285 : Int)))]) (is := [1, 3, 6, 138, 139, 140]) (R' := [.cells g3 29 (lf_T_Program b0), .cells g5 36 [.val (.int .i64 0), .val (.int .i64 0)]]) (js := [1, 1]) rfl rfl ?_
          refine G.skip ?_
          refine G.inB ?_
          refine G.next_ hK301 ?_
          refine G.region ?_
          refine G.p rfl (V.incr (i := i285) (N := b2.fArms.length) rfl rfl (rng_lt hd288) (hN284)) ?_
          refine G.p rfl (V.move rfl) ?_
          refine G.nil ?_
          refine G.norm (L' := [(1, eL eS 1 b1), (3, .val (.pointer (some ⟨g3, 0, none⟩))), (6, .val (.pointer (some ⟨g5, 0, none⟩))), (138, eL e_T_Arm 12 b2.fArms), (139, .val (.int .i64 (b2.fArms.length : Int))), (140, .val (.int .i64 ((i285 + 1 : Nat) : Int)))]) (is := [1, 3, 6, 138, 139, 140]) (R' := [.cells g3 29 (lf_T_Program b0), .cells g5 36 [.val (.int .i64 0), .val (.int .i64 0)]]) (js := [0, 0]) rfl rfl ?_
          refine G.again ?_
          intro hl364 a w hA
          exact ⟨_, Nat.lt_succ_self _, rest287, i285 + 1, rfl, hl364, rng_next hd288, hA⟩
     ·rintro _ hb a w ⟨b366, rfl, hA⟩ hF367
      refine G.use hF367 hA ?_
      refine G.inr ?_
      refine G.next_ hK281 ?_
      refine G.seq fun K368 hK369 => ?_
      refine G.region ?_
      refine G.q rfl (V.build (out := [.val (.int .i64 0), .val (.int .i64 0)]) blt36 (.nil) (List.forall_mem_nil _) rfl) ?_
      refine G.opn (O.store (i := 0) (o := 0) (ds := [.val (.int .i64 0), .val (.int .i64 0)]) rfl (.of rfl) rfl (OneC.agg (List.forall_mem_cons.2 ⟨(.val rfl), (List.forall_mem_cons.2 ⟨(.val rfl), (List.forall_mem_nil _)⟩)⟩)) Try.sizeOf36 rfl rfl) fun _ => ?_
      refine G.nil ?_
      refine G.norm (L' := [(6, .val (.pointer (some ⟨g5, 0, none⟩)))]) (is := [6]) (R' := [.cells g5 36 [.val (.int .i64 0), .val (.int .i64 0)]]) (js := [0]) rfl rfl ?_
      refine G.next_ hK369 ?_
      refine G.ret ?_
      refine G.fin_ fun hF370 => ?_
      obtain rfl := Option.some.inj hF370
      exact G.retc (i := 0) (ds := [.val (.int .i64 0), .val (.int .i64 0)]) Try.results27 () (is := []) rfl rfl Try.isAgg36 Try.sizeOf36 rfl rfl rfl
theorem roadref2_scopeExpr.all_ok (k : Nat) : roadref2_scopeExpr.Spec (roadref2_scopeExpr.all k) := by
  induction k with
  | zero => exact by intro b0 b1 b2 out hp; simp [roadref2_scopeExpr.all] at hp
  | succ k ih => exact roadref2_scopeExpr.body_ok ih k 
def roadref2_scopeExpr (k : Nat) : T_Program → (List Str) → T_Expr → Option (T_Wrong) := (roadref2_scopeExpr.all k)
theorem roadref2_scopeExpr_ok (k : Nat) : roadref2_scopeExpr.Spec (roadref2_scopeExpr k) := (roadref2_scopeExpr.all_ok k)
theorem roadref2_scopeExpr_succ (k : Nat) (b0 : T_Program) (b1 : List Str) (b2 : T_Expr) : roadref2_scopeExpr (k + 1) b0 b1 b2 = roadref2_scopeExpr.body (roadref2_scopeExpr k) k b0 b1 b2 := rfl
theorem roadref2_scopeExpr_zero (b0 : T_Program) (b1 : List Str) (b2 : T_Expr) : roadref2_scopeExpr 0 b0 b1 b2 = none := rfl
end Go.Proofs.Ythbgngdoihkodac.Hx
