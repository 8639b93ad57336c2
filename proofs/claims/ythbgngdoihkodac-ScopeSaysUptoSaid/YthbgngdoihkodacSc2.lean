/- roadstead: ScopeSays. This text: Sc. Conditions: none beyond those that the statement itself names. -/
import Derived.Test.YthbgngdoihkodacSc1
namespace Go.Proofs.Ythbgngdoihkodac.Hx
open Go Go.Proofs.Ythbgngdoihkodac.Hx Go.RowKit Go.Proofs Go.Shelf
/-! roadstead/scope.Program -/
def scope_Program.l2  : List (T_Func) → Option ((Int × Int) ⊕ (Unit))
  | [] => some (.inr ())
  | y44 :: rest45 => (scope_Twice y44.fParams).bind fun r65 => (if r65 = true then some true else (scope_Twice y44.fNames).bind fun r71 => some r71).bind fun t69 => (if t69 = true then some (.inl (11, 0)) else scope_Program.l2 rest45)

theorem scope_Program.l2_nil   : scope_Program.l2  []  = some (.inr ()) := rfl
theorem scope_Program.l2_cons  {y44 : T_Func} {rest45 : List (T_Func)} : scope_Program.l2  (y44 :: rest45)  = (scope_Twice y44.fParams).bind fun r65 => (if r65 = true then some true else (scope_Twice y44.fNames).bind fun r71 => some r71).bind fun t69 => (if t69 = true then some (.inl (11, 0)) else scope_Program.l2 rest45) := rfl
def scope_Program.l1  : List (T_Trait) → Option ((Int × Int) ⊕ (Unit))
  | [] => some (.inr ())
  | y21 :: rest22 => (scope_Program.l2 y21.fFuncs).bind (retOr2 fun b84 => scope_Program.l1 rest22)

theorem scope_Program.l1_nil   : scope_Program.l1  []  = some (.inr ()) := rfl
theorem scope_Program.l1_cons  {y21 : T_Trait} {rest22 : List (T_Trait)} : scope_Program.l1  (y21 :: rest22)  = (scope_Program.l2 y21.fFuncs).bind (retOr2 fun b84 => scope_Program.l1 rest22) := rfl
def scope_Program.l3  : List (T_Impl) → (List T_Func) → Option (List T_Func)
  | [], x102 => some x102
  | y105 :: rest106, x102 => (app 517417236600 x102 y105.fFuncs).bind fun l124 => scope_Program.l3 rest106 l124

theorem scope_Program.l3_nil  {x102 : List T_Func} : scope_Program.l3  [] x102 = some x102 := rfl
theorem scope_Program.l3_cons  {y105 : T_Impl} {rest106 : List (T_Impl)} {x102 : List T_Func} : scope_Program.l3  (y105 :: rest106) x102 = (app 517417236600 x102 y105.fFuncs).bind fun l124 => scope_Program.l3 rest106 l124 := rfl
def scope_Program.l4 (k : Nat) (r92 : (List (Str × Bool)) × (List (Str × Bool)) × (List (Str × Bool))) : List (T_Func) → Option ((Int × Int) ⊕ (Unit))
  | [] => some (.inr ())
  | y142 :: rest143 => (scope_Twice y142.fParams).bind fun r165 => (if r165 = true then some true else (scope_Twice y142.fNames).bind fun r171 => some r171).bind fun t169 => (if t169 = true then some (.inl (11, 0)) else (scope_resolver_expr_s1 k r92.1 r92.2.1 r92.2.2 y142.fNames y142.fBody).bind fun r182 => (if r182.2.1 = true then (scope_told r182.1 r182.2.1).bind fun r190 => some (.inl (r190.1, r190.2)) else scope_Program.l4 k r92 rest143))

theorem scope_Program.l4_nil (k : Nat) (r92 : (List (Str × Bool)) × (List (Str × Bool)) × (List (Str × Bool)))  : scope_Program.l4 k r92 []  = some (.inr ()) := rfl
theorem scope_Program.l4_cons (k : Nat) (r92 : (List (Str × Bool)) × (List (Str × Bool)) × (List (Str × Bool))) {y142 : T_Func} {rest143 : List (T_Func)} : scope_Program.l4 k r92 (y142 :: rest143)  = (scope_Twice y142.fParams).bind fun r165 => (if r165 = true then some true else (scope_Twice y142.fNames).bind fun r171 => some r171).bind fun t169 => (if t169 = true then some (.inl (11, 0)) else (scope_resolver_expr_s1 k r92.1 r92.2.1 r92.2.2 y142.fNames y142.fBody).bind fun r182 => (if r182.2.1 = true then (scope_told r182.1 r182.2.1).bind fun r190 => some (.inl (r190.1, r190.2)) else scope_Program.l4 k r92 rest143)) := rfl
def scope_Program.l5 (k : Nat) (r92 : (List (Str × Bool)) × (List (Str × Bool)) × (List (Str × Bool))) : List (T_Actor) → Option ((Int × Int) ⊕ (Unit))
  | [] => some (.inr ())
  | y208 :: rest209 => (scope_Twice y208.fNames).bind fun r231 => (if r231 = true then some (.inl (11, 0)) else (scope_resolver_expr_s1 k r92.1 r92.2.1 r92.2.2 y208.fNames y208.fBody).bind fun r242 => (if r242.2.1 = true then (scope_told r242.1 r242.2.1).bind fun r250 => some (.inl (r250.1, r250.2)) else scope_Program.l5 k r92 rest209))

theorem scope_Program.l5_nil (k : Nat) (r92 : (List (Str × Bool)) × (List (Str × Bool)) × (List (Str × Bool)))  : scope_Program.l5 k r92 []  = some (.inr ()) := rfl
theorem scope_Program.l5_cons (k : Nat) (r92 : (List (Str × Bool)) × (List (Str × Bool)) × (List (Str × Bool))) {y208 : T_Actor} {rest209 : List (T_Actor)} : scope_Program.l5 k r92 (y208 :: rest209)  = (scope_Twice y208.fNames).bind fun r231 => (if r231 = true then some (.inl (11, 0)) else (scope_resolver_expr_s1 k r92.1 r92.2.1 r92.2.2 y208.fNames y208.fBody).bind fun r242 => (if r242.2.1 = true then (scope_told r242.1 r242.2.1).bind fun r250 => some (.inl (r250.1, r250.2)) else scope_Program.l5 k r92 rest209)) := rfl
def scope_Program.Spec (F : T_Program → Option (Int × Int)) : Prop := ∀ {b0 : T_Program} {out : Int × Int}, F b0 = some out → Ct Gl Try.prog 5 [.agg (lf_T_Program b0)] [] (fun x : Unit => .tup [.val (.int .i64 out.1), .val (.int .i64 out.2)]) (fun x : Unit => [])
def scope_Program (k : Nat) (b0 : T_Program) : Option (Int × Int) := (scope_doubled b0).bind fun r8 => (if r8 = true then some (11, 0) else (scope_Program.l1 b0.fTraits).bind (retOr fun b88 => (scope_newResolver b0).bind fun r92 => (scope_Program.l3 b0.fImpls ([] : List T_Func)).bind fun b129 => (app 517417236600 b129 b0.fFuncs).bind fun l136 => (scope_Program.l4 k r92 l136).bind (retOr fun b198 => (scope_Program.l5 k r92 b0.fActors).bind (retOr fun b258 => some (0, 0)))))
set_option maxRecDepth 100000 in
theorem scope_Program_ok (k : Nat) : scope_Program.Spec (scope_Program k) := by
 intro b0 out hp
 refine ct_of_G (nt := 119) Try.func5 rfl Try.ntmps5 rfl (fun B => ?_) hp
 unfold scope_Program
 refine G.seq fun K1 hK2 => ?_
 refine G.region ?_
 refine G.op rfl (O.box (.of rfl) (OneC.agg (List.forall_mem_cons.2 ⟨(.val rfl), (List.forall_mem_cons.2 ⟨(.val rfl), (List.forall_mem_cons.2 ⟨.sl, (List.forall_mem_cons.2 ⟨.sl, (List.forall_mem_cons.2 ⟨.sl, (List.forall_mem_cons.2 ⟨.sl, (List.forall_mem_cons.2 ⟨.sl, (List.forall_mem_cons.2 ⟨.sl, (List.forall_mem_nil _)⟩)⟩)⟩)⟩)⟩)⟩)⟩)⟩))) fun g3 => ?_
 refine G.p rfl (V.assign rfl) ?_
 refine G.p rfl (V.assign rfl) ?_
 refine G.nil ?_
 refine G.norm (L' := [(1, .val (.pointer (some ⟨g3, 0, none⟩)))]) (is := [1]) (R' := [.cells g3 29 (lf_T_Program b0)]) (js := [0]) rfl rfl ?_
 refine G.next_ hK2 ?_
 refine G.seq fun K4 hK5 => ?_
 refine G.seq fun K6 hK7 => ?_
 refine G.region ?_
 refine G.q rfl (V.load_cellN (i := 0) (ds := (lf_T_Program b0)) (c1 := (lf_T_Program b0)) rfl rfl Try.isAgg29 Try.sizeOf29 rfl rfl rfl) ?_
 refine G.bind fun r8 hr9 => ?_
 refine G.op rfl (O.call (xs := [.tmp 20]) (is := []) (Rp := []) (Rr := [.cells g3 29 (lf_T_Program b0)]) (scope_doubled_ok hr9) (.cons (.of rfl) .nil) Try.call18 rfl) fun x10 => ?_
 refine G.nil ?_
 refine G.norm (L' := [(1, .val (.pointer (some ⟨g3, 0, none⟩))), (21, .val (.bool r8))]) (is := [1, 21]) (R' := [.cells g3 29 (lf_T_Program b0)]) (js := [0]) rfl rfl ?_
 refine G.next_ hK7 ?_
 refine G.cond (b := r8) rfl (fun hc11 => ?_) (fun hc11 => ?_)
 ·refine G.norm (L' := []) (is := []) (R' := []) (js := []) rfl rfl ?_
  refine G.seq fun K12 hK13 => ?_
  refine G.region ?_
  refine G.p rfl (V.assign rfl) ?_
  refine G.p rfl (V.assign rfl) ?_
  refine G.nil ?_
  refine G.norm (L' := [(2, .val (.int .i64 11)), (3, .val (.int .i64 0))]) (is := [2, 3]) (R' := []) (js := []) rfl rfl ?_
  refine G.next_ hK13 ?_
  refine G.ret ?_
  refine G.thn_ret ?_
  refine G.fin_ fun hF14 => ?_
  obtain rfl := Option.some.inj hF14
  exact G.ret2 Try.results5 () (is := []) rfl (.of rfl) (.of rfl) rfl
 ·refine G.norm (L' := [(1, .val (.pointer (some ⟨g3, 0, none⟩)))]) (is := [1]) (R' := [.cells g3 29 (lf_T_Program b0)]) (js := [0]) rfl rfl ?_
  refine G.skip ?_
  refine G.next_ hK5 ?_
  refine G.seq fun K15 hK16 => ?_
  refine G.seq fun K17 hK18 => ?_
  refine G.region ?_
  refine G.p rfl (V.fieldAddr (o' := 4) rfl Try.runUnderlying29 rfl Try.sizeOf24 rfl) ?_
  refine G.q rfl (V.load_cell (i := 0) (ds := (lf_T_Program b0)) (d := eL e_T_Trait 2 b0.fTraits) rfl rfl Try.isAgg24 rfl rfl) ?_
  refine G.lenb (enc := e_T_Trait) (xs := b0.fTraits) (sz := 2) (x := .tmp 23) (.of rfl) fun hN19 => ?_
  refine G.p rfl (V.len_sl (enc := e_T_Trait) (xs := b0.fTraits) (sz := 2) (.of rfl) Try.runUnderlying24) ?_
  refine G.p rfl (V.move rfl) ?_
  refine G.nil ?_
  refine G.norm (L' := [(1, .val (.pointer (some ⟨g3, 0, none⟩))), (23, eL e_T_Trait 2 b0.fTraits), (24, .val (.int .i64 (b0.fTraits.length : Int))), (25, .val (.int .i64 0))]) (is := [1, 23, 24, 25]) (R' := [.cells g3 29 (lf_T_Program b0)]) (js := [0]) rfl rfl ?_
  refine G.next_ hK18 ?_
  refine G.join (E := fun o a w => ∃ b, o = .inr b ∧ Ass Gl B 119 [(1, .val (.pointer (some ⟨g3, 0, none⟩)))] [.cells g3 29 (lf_T_Program b0)] a w) ?_ ?_
  ·intro b hF25
   refine G.block ?_
   refine G.norm (L' := [(1, .val (.pointer (some ⟨g3, 0, none⟩))), (23, eL e_T_Trait 2 b0.fTraits), (24, .val (.int .i64 (b0.fTraits.length : Int))), (25, .val (.int .i64 ((0 : Nat) : Int)))]) (is := [1, 23, 24, 25]) (R' := [.cells g3 29 (lf_T_Program b0)]) (js := [0]) rfl rfl ?_
   refine G.loop (fun kq a w => ∃ (rest22 : List (T_Trait)) (i20 : Nat), kq = rest22.length ∧ scope_Program.l1 rest22 = some b ∧ b0.fTraits.drop i20 = rest22 ∧ Ass Gl B 119 [(1, .val (.pointer (some ⟨g3, 0, none⟩))), (23, eL e_T_Trait 2 b0.fTraits), (24, .val (.int .i64 (b0.fTraits.length : Int))), (25, .val (.int .i64 (i20 : Int)))] [.cells g3 29 (lf_T_Program b0)] a w) (b0.fTraits.length) ?_ ?_
   ·intro hl87 a w hA
    exact ⟨b0.fTraits, 0, rfl, hl87, rfl, hA⟩
   ·rintro _ a w ⟨rest22, i20, rfl, hl26, hd23, hA⟩
    rcases rest22 with _ | ⟨y21, rest22⟩
    ·rw [scope_Program.l1_nil] at hl26
     refine G.use hl26 hA ?_
     refine G.seq fun K27 hK28 => ?_
     refine G.region ?_
     refine G.p rfl (V.bin (u := .int .i64 (i20 : Int)) (v := .int .i64 (b0.fTraits.length : Int)) (r := .bool (decide ((i20 : Int) < (b0.fTraits.length : Int)))) rfl rfl b_lss) ?_
     refine G.nil ?_
     refine G.norm (L' := [(1, .val (.pointer (some ⟨g3, 0, none⟩))), (23, eL e_T_Trait 2 b0.fTraits), (24, .val (.int .i64 (b0.fTraits.length : Int))), (25, .val (.int .i64 (i20 : Int))), (26, .val (.bool (decide ((i20 : Int) < (b0.fTraits.length : Int)))))]) (is := [1, 23, 24, 25, 26]) (R' := [.cells g3 29 (lf_T_Program b0)]) (js := [0]) rfl rfl ?_
     refine G.next_ hK28 ?_
     refine G.seq fun K29 hK30 => ?_
     refine G.no rfl (rng_end hd23) ?_
     refine G.exit ?_
     refine G.thn_exit ?_
     refine G.thn_exit ?_
     refine G.inB_eq ?_
     refine G.norm (L' := [(1, .val (.pointer (some ⟨g3, 0, none⟩)))]) (is := [1]) (R' := [.cells g3 29 (lf_T_Program b0)]) (js := [0]) rfl rfl ?_
     exact G.finE fun hb a w hA => by subst hb; exact ⟨_, rfl, hA⟩
    ·rw [scope_Program.l1_cons] at hl26
     refine G.use hl26 hA ?_
     refine G.seq fun K31 hK32 => ?_
     refine G.region ?_
     refine G.p rfl (V.bin (u := .int .i64 (i20 : Int)) (v := .int .i64 (b0.fTraits.length : Int)) (r := .bool (decide ((i20 : Int) < (b0.fTraits.length : Int)))) rfl rfl b_lss) ?_
     refine G.nil ?_
     refine G.norm (L' := [(1, .val (.pointer (some ⟨g3, 0, none⟩))), (23, eL e_T_Trait 2 b0.fTraits), (24, .val (.int .i64 (b0.fTraits.length : Int))), (25, .val (.int .i64 (i20 : Int))), (26, .val (.bool (decide ((i20 : Int) < (b0.fTraits.length : Int)))))]) (is := [1, 23, 24, 25, 26]) (R' := [.cells g3 29 (lf_T_Program b0)]) (js := [0]) rfl rfl ?_
     refine G.next_ hK32 ?_
     refine G.seq fun K33 hK34 => ?_
     refine G.yes rfl (rng_more hd23) ?_
     refine G.skip ?_
     refine G.next_ hK34 ?_
     refine G.seq fun K35 hK36 => ?_
     refine G.block ?_
     refine G.seq fun K37 hK38 => ?_
     refine G.region ?_
     refine G.p rfl (V.at_sl (k := i20) rfl rfl Try.runUnderlying24 Try.sizeOf55 (map_at (rng_at hd23))) ?_
     refine G.q rfl (V.load_ptrN (ds := [.val (bs y21.fName), eL e_T_Func 15 y21.fFuncs]) rfl (e_T_Trait_eq y21) Try.isAgg55 Try.sizeOf55 rfl) ?_
     refine G.op rfl (O.alloc (ds := [.val (bs ([] : Str)), .val (.slice none 0 0)]) Try.zeroValue55 rfl) fun g39 => ?_
     refine G.opn (O.store (i := 0) (o := 0) (ds := [.val (bs ([] : Str)), .val (.slice none 0 0)]) rfl (.of rfl) rfl (OneC.agg (List.forall_mem_cons.2 ⟨(.val rfl), (List.forall_mem_cons.2 ⟨.sl, (List.forall_mem_nil _)⟩)⟩)) Try.sizeOf55 rfl rfl) fun _ => ?_
     refine G.nil ?_
     refine G.norm (L' := [(1, .val (.pointer (some ⟨g3, 0, none⟩))), (5, .val (.pointer (some ⟨g39, 0, none⟩))), (23, eL e_T_Trait 2 b0.fTraits), (24, .val (.int .i64 (b0.fTraits.length : Int))), (25, .val (.int .i64 (i20 : Int)))]) (is := [1, 5, 23, 24, 25]) (R' := [.cells g39 55 [.val (bs y21.fName), eL e_T_Func 15 y21.fFuncs], .cells g3 29 (lf_T_Program b0)]) (js := [0, 0]) rfl rfl ?_
     refine G.next_ hK38 ?_
     refine G.seq fun K40 hK41 => ?_
     refine G.region ?_
     refine G.p rfl (V.fieldAddr (o' := 1) rfl Try.runUnderlying55 rfl Try.sizeOf26 rfl) ?_
     refine G.q rfl (V.load_cell (i := 0) (ds := [.val (bs y21.fName), eL e_T_Func 15 y21.fFuncs]) (d := eL e_T_Func 15 y21.fFuncs) rfl rfl Try.isAgg26 rfl rfl) ?_
     refine G.lenb (enc := e_T_Func) (xs := y21.fFuncs) (sz := 15) (x := .tmp 30) (.of rfl) fun hN42 => ?_
     refine G.p rfl (V.len_sl (enc := e_T_Func) (xs := y21.fFuncs) (sz := 15) (.of rfl) Try.runUnderlying26) ?_
     refine G.p rfl (V.move rfl) ?_
     refine G.nil ?_
     refine G.norm (L' := [(1, .val (.pointer (some ⟨g3, 0, none⟩))), (23, eL e_T_Trait 2 b0.fTraits), (24, .val (.int .i64 (b0.fTraits.length : Int))), (25, .val (.int .i64 (i20 : Int))), (30, eL e_T_Func 15 y21.fFuncs), (31, .val (.int .i64 (y21.fFuncs.length : Int))), (32, .val (.int .i64 0))]) (is := [1, 23, 24, 25, 30, 31, 32]) (R' := [.cells g3 29 (lf_T_Program b0)]) (js := [1]) rfl rfl ?_
     refine G.next_ hK41 ?_
     refine G.join (E := fun o a w => ∃ b, o = .inr b ∧ Ass Gl B 119 [(1, .val (.pointer (some ⟨g3, 0, none⟩))), (23, eL e_T_Trait 2 b0.fTraits), (24, .val (.int .i64 (b0.fTraits.length : Int))), (25, .val (.int .i64 (i20 : Int)))] [.cells g3 29 (lf_T_Program b0)] a w) ?_ ?_
     ·intro b hF48
      refine G.block ?_
      refine G.norm (L' := [(1, .val (.pointer (some ⟨g3, 0, none⟩))), (23, eL e_T_Trait 2 b0.fTraits), (24, .val (.int .i64 (b0.fTraits.length : Int))), (25, .val (.int .i64 (i20 : Int))), (30, eL e_T_Func 15 y21.fFuncs), (31, .val (.int .i64 (y21.fFuncs.length : Int))), (32, .val (.int .i64 ((0 : Nat) : Int)))]) (is := [1, 23, 24, 25, 30, 31, 32]) (R' := [.cells g3 29 (lf_T_Program b0)]) (js := [0]) rfl rfl ?_
      refine G.loop (fun kq a w => ∃ (rest45 : List (T_Func)) (i43 : Nat), kq = rest45.length ∧ scope_Program.l2 rest45 = some b ∧ y21.fFuncs.drop i43 = rest45 ∧ Ass Gl B 119 [(1, .val (.pointer (some ⟨g3, 0, none⟩))), (23, eL e_T_Trait 2 b0.fTraits), (24, .val (.int .i64 (b0.fTraits.length : Int))), (25, .val (.int .i64 (i20 : Int))), (30, eL e_T_Func 15 y21.fFuncs), (31, .val (.int .i64 (y21.fFuncs.length : Int))), (32, .val (.int .i64 (i43 : Int)))] [.cells g3 29 (lf_T_Program b0)] a w) (y21.fFuncs.length) ?_ ?_
      ·intro hl83 a w hA
       exact ⟨y21.fFuncs, 0, rfl, hl83, rfl, hA⟩
      ·rintro _ a w ⟨rest45, i43, rfl, hl49, hd46, hA⟩
       rcases rest45 with _ | ⟨y44, rest45⟩
       ·rw [scope_Program.l2_nil] at hl49
        refine G.use hl49 hA ?_
        refine G.seq fun K50 hK51 => ?_
        refine G.region ?_
        refine G.p rfl (V.bin (u := .int .i64 (i43 : Int)) (v := .int .i64 (y21.fFuncs.length : Int)) (r := .bool (decide ((i43 : Int) < (y21.fFuncs.length : Int)))) rfl rfl b_lss) ?_
        refine G.nil ?_
        refine G.norm (L' := [(1, .val (.pointer (some ⟨g3, 0, none⟩))), (23, eL e_T_Trait 2 b0.fTraits), (24, .val (.int .i64 (b0.fTraits.length : Int))), (25, .val (.int .i64 (i20 : Int))), (30, eL e_T_Func 15 y21.fFuncs), (31, .val (.int .i64 (y21.fFuncs.length : Int))), (32, .val (.int .i64 (i43 : Int))), (33, .val (.bool (decide ((i43 : Int) < (y21.fFuncs.length : Int)))))]) (is := [1, 23, 24, 25, 30, 31, 32, 33]) (R' := [.cells g3 29 (lf_T_Program b0)]) (js := [0]) rfl rfl ?_
        refine G.next_ hK51 ?_
        refine G.seq fun K52 hK53 => ?_
        refine G.no rfl (rng_end hd46) ?_
        refine G.exit ?_
        refine G.thn_exit ?_
        refine G.thn_exit ?_
        refine G.inB_eq ?_
        refine G.norm (L' := [(1, .val (.pointer (some ⟨g3, 0, none⟩))), (23, eL e_T_Trait 2 b0.fTraits), (24, .val (.int .i64 (b0.fTraits.length : Int))), (25, .val (.int .i64 (i20 : Int)))]) (is := [1, 23, 24, 25]) (R' := [.cells g3 29 (lf_T_Program b0)]) (js := [0]) rfl rfl ?_
        exact G.finE fun hb a w hA => by subst hb; exact ⟨_, rfl, hA⟩
       ·rw [scope_Program.l2_cons] at hl49
        refine G.use hl49 hA ?_
        refine G.seq fun K54 hK55 => ?_
        refine G.region ?_
        refine G.p rfl (V.bin (u := .int .i64 (i43 : Int)) (v := .int .i64 (y21.fFuncs.length : Int)) (r := .bool (decide ((i43 : Int) < (y21.fFuncs.length : Int)))) rfl rfl b_lss) ?_
        refine G.nil ?_
        refine G.norm (L' := [(1, .val (.pointer (some ⟨g3, 0, none⟩))), (23, eL e_T_Trait 2 b0.fTraits), (24, .val (.int .i64 (b0.fTraits.length : Int))), (25, .val (.int .i64 (i20 : Int))), (30, eL e_T_Func 15 y21.fFuncs), (31, .val (.int .i64 (y21.fFuncs.length : Int))), (32, .val (.int .i64 (i43 : Int))), (33, .val (.bool (decide ((i43 : Int) < (y21.fFuncs.length : Int)))))]) (is := [1, 23, 24, 25, 30, 31, 32, 33]) (R' := [.cells g3 29 (lf_T_Program b0)]) (js := [0]) rfl rfl ?_
        refine G.next_ hK55 ?_
        refine G.seq fun K56 hK57 => ?_
        refine G.yes rfl (rng_more hd46) ?_
        refine G.skip ?_
        refine G.next_ hK57 ?_
        refine G.seq fun K58 hK59 => ?_
        refine G.block ?_
        refine G.seq fun K60 hK61 => ?_
        refine G.region ?_
        refine G.p rfl (V.at_sl (k := i43) rfl rfl Try.runUnderlying26 Try.sizeOf59 (map_at (rng_at hd46))) ?_
        refine G.q rfl (V.load_ptrN (ds := (lf_T_Func y44)) rfl (e_T_Func_eq y44) Try.isAgg59 Try.sizeOf59 rfl) ?_
        refine G.op rfl (O.alloc (ds := [.val (bs ([] : Str)), .val (.slice none 0 0), .val (.slice none 0 0), .val (.slice none 0 0), .val (.int .i64 0), .val (bs ([] : Str)), .val (.slice none 0 0), .val (.int .i64 0), .val (.int .i64 0), .val (bs ([] : Str)), .val (.slice none 0 0), .val (.slice none 0 0), .val (.slice none 0 0), .val (.slice none 0 0), .val (.int .i64 0)]) Try.zeroValue59 rfl) fun g62 => ?_
        refine G.opn (O.store (i := 0) (o := 0) (ds := [.val (bs ([] : Str)), .val (.slice none 0 0), .val (.slice none 0 0), .val (.slice none 0 0), .val (.int .i64 0), .val (bs ([] : Str)), .val (.slice none 0 0), .val (.int .i64 0), .val (.int .i64 0), .val (bs ([] : Str)), .val (.slice none 0 0), .val (.slice none 0 0), .val (.slice none 0 0), .val (.slice none 0 0), .val (.int .i64 0)]) rfl (.of rfl) rfl (OneC.agg (List.forall_mem_cons.2 ⟨(.val rfl), (List.forall_mem_cons.2 ⟨.sl, (List.forall_mem_cons.2 ⟨.sl, (List.forall_mem_cons.2 ⟨.sl, (List.forall_mem_cons.2 ⟨(.val rfl), (List.forall_mem_cons.2 ⟨(.val rfl), (List.forall_mem_cons.2 ⟨.sl, (List.forall_mem_cons.2 ⟨(.val rfl), (List.forall_mem_cons.2 ⟨(.val rfl), (List.forall_mem_cons.2 ⟨(.val rfl), (List.forall_mem_cons.2 ⟨.sl, (List.forall_mem_cons.2 ⟨.sl, (List.forall_mem_cons.2 ⟨.sl, (List.forall_mem_cons.2 ⟨.sl, (List.forall_mem_cons.2 ⟨(.val rfl), (List.forall_mem_nil _)⟩)⟩)⟩)⟩)⟩)⟩)⟩)⟩)⟩)⟩)⟩)⟩)⟩)⟩)⟩)) Try.sizeOf59 rfl rfl) fun _ => ?_
        refine G.nil ?_
        refine G.norm (L' := [(1, .val (.pointer (some ⟨g3, 0, none⟩))), (7, .val (.pointer (some ⟨g62, 0, none⟩))), (23, eL e_T_Trait 2 b0.fTraits), (24, .val (.int .i64 (b0.fTraits.length : Int))), (25, .val (.int .i64 (i20 : Int))), (30, eL e_T_Func 15 y21.fFuncs), (31, .val (.int .i64 (y21.fFuncs.length : Int))), (32, .val (.int .i64 (i43 : Int)))]) (is := [1, 7, 23, 24, 25, 30, 31, 32]) (R' := [.cells g62 59 (lf_T_Func y44), .cells g3 29 (lf_T_Program b0)]) (js := [0, 0]) rfl rfl ?_
        refine G.next_ hK61 ?_
        refine G.seq fun K63 hK64 => ?_
        refine G.region ?_
        refine G.p rfl (V.fieldAddr (o' := 1) rfl Try.runUnderlying59 rfl Try.sizeOf30 rfl) ?_
        refine G.q rfl (V.load_cell (i := 0) (ds := (lf_T_Func y44)) (d := eL eS 1 y44.fParams) rfl rfl Try.isAgg30 rfl rfl) ?_
        refine G.bind fun r65 hr66 => ?_
        refine G.op rfl (O.call (xs := [.tmp 37]) (is := []) (Rp := []) (Rr := [.cells g62 59 (lf_T_Func y44), .cells g3 29 (lf_T_Program b0)]) (scope_Twice_ok hr66) (.cons (.of rfl) .nil) Try.call16 rfl) fun x67 => ?_
        refine G.p rfl (V.move rfl) ?_
        refine G.part 4 (fun b a w => Ass Gl B 119 [(1, .val (.pointer (some ⟨g3, 0, none⟩))), (7, .val (.pointer (some ⟨g62, 0, none⟩))), (23, eL e_T_Trait 2 b0.fTraits), (24, .val (.int .i64 (b0.fTraits.length : Int))), (25, .val (.int .i64 (i20 : Int))), (30, eL e_T_Func 15 y21.fFuncs), (31, .val (.int .i64 (y21.fFuncs.length : Int))), (32, .val (.int .i64 (i43 : Int))), (36, .val (.pointer (some ⟨g62, 1, none⟩))), (37, eL eS 1 y44.fParams), (38, .val (.bool r65)), (39, .val (.bool r65)), (43, .val (.bool b))] [.cells g3 29 (lf_T_Program b0), .cells g62 59 (lf_T_Func y44)] a w) ?_ ?_
        ·intro b
         refine G.ifb (fun hc68 => ?_) (fun hc68 => ?_)
         ·refine G.skip_s rfl rfl hc68 rfl ?_
          refine G.skip_s rfl rfl hc68 rfl ?_
          refine G.skip_s rfl rfl hc68 rfl ?_
          refine G.p rfl (V.pick_yes (dv := .val (.bool true)) rfl hc68 rfl) ?_
          refine G.nil ?_
          refine G.norm (L' := [(1, .val (.pointer (some ⟨g3, 0, none⟩))), (7, .val (.pointer (some ⟨g62, 0, none⟩))), (23, eL e_T_Trait 2 b0.fTraits), (24, .val (.int .i64 (b0.fTraits.length : Int))), (25, .val (.int .i64 (i20 : Int))), (30, eL e_T_Func 15 y21.fFuncs), (31, .val (.int .i64 (y21.fFuncs.length : Int))), (32, .val (.int .i64 (i43 : Int))), (36, .val (.pointer (some ⟨g62, 1, none⟩))), (37, eL eS 1 y44.fParams), (38, .val (.bool r65)), (39, .val (.bool r65)), (43, .val (.bool true))]) (is := [1, 7, 23, 24, 25, 30, 31, 32, 36, 37, 38, 39, 43]) (R' := [.cells g3 29 (lf_T_Program b0), .cells g62 59 (lf_T_Func y44)]) (js := [1, 0]) rfl rfl ?_
          exact G.finE fun hb a w hA => by subst hb; exact hA
         ·refine G.guard_yes rfl rfl hc68 ?_
          refine G.p rfl (V.fieldAddr (o' := 2) rfl Try.runUnderlying59 rfl Try.sizeOf30 rfl) ?_
          refine G.guard_yes rfl rfl hc68 ?_
          refine G.q rfl (V.load_cell (i := 0) (ds := (lf_T_Func y44)) (d := eL eS 1 y44.fNames) rfl rfl Try.isAgg30 rfl rfl) ?_
          refine G.guard_yes rfl rfl hc68 ?_
          refine G.bind fun r71 hr72 => ?_
          refine G.op rfl (O.call (xs := [.tmp 41]) (is := []) (Rp := []) (Rr := [.cells g62 59 (lf_T_Func y44), .cells g3 29 (lf_T_Program b0)]) (scope_Twice_ok hr72) (.cons (.of rfl) .nil) Try.call16 rfl) fun x73 => ?_
          refine G.p rfl (V.pick_no (dv := .val (.bool r71)) rfl hc68 rfl) ?_
          refine G.nil ?_
          refine G.norm (L' := [(1, .val (.pointer (some ⟨g3, 0, none⟩))), (7, .val (.pointer (some ⟨g62, 0, none⟩))), (23, eL e_T_Trait 2 b0.fTraits), (24, .val (.int .i64 (b0.fTraits.length : Int))), (25, .val (.int .i64 (i20 : Int))), (30, eL e_T_Func 15 y21.fFuncs), (31, .val (.int .i64 (y21.fFuncs.length : Int))), (32, .val (.int .i64 (i43 : Int))), (36, .val (.pointer (some ⟨g62, 1, none⟩))), (37, eL eS 1 y44.fParams), (38, .val (.bool r65)), (39, .val (.bool r65)), (43, .val (.bool r71))]) (is := [1, 7, 23, 24, 25, 30, 31, 32, 36, 37, 38, 39, 43]) (R' := [.cells g3 29 (lf_T_Program b0), .cells g62 59 (lf_T_Func y44)]) (js := [1, 0]) rfl rfl ?_
          exact G.finE fun hb a w hA => by subst hb; exact hA
        ·rintro t69 hb a w hA hF
         refine G.use hF hA ?_
         refine G.nil ?_
         refine G.norm (L' := [(1, .val (.pointer (some ⟨g3, 0, none⟩))), (23, eL e_T_Trait 2 b0.fTraits), (24, .val (.int .i64 (b0.fTraits.length : Int))), (25, .val (.int .i64 (i20 : Int))), (30, eL e_T_Func 15 y21.fFuncs), (31, .val (.int .i64 (y21.fFuncs.length : Int))), (32, .val (.int .i64 (i43 : Int))), (43, .val (.bool t69))]) (is := [1, 23, 24, 25, 30, 31, 32, 43]) (R' := [.cells g3 29 (lf_T_Program b0)]) (js := [0]) rfl rfl ?_
         refine G.next_ hK64 ?_
         refine G.cond (b := t69) rfl (fun hc74 => ?_) (fun hc74 => ?_)
         ·refine G.norm (L' := []) (is := []) (R' := []) (js := []) rfl rfl ?_
          refine G.seq fun K75 hK76 => ?_
          refine G.region ?_
          refine G.p rfl (V.assign rfl) ?_
          refine G.p rfl (V.assign rfl) ?_
          refine G.nil ?_
          refine G.norm (L' := [(2, .val (.int .i64 11)), (3, .val (.int .i64 0))]) (is := [2, 3]) (R' := []) (js := []) rfl rfl ?_
          refine G.next_ hK76 ?_
          refine G.ret ?_
          refine G.inB_ret ?_
          refine G.thn_ret ?_
          refine G.thn_ret ?_
          refine G.inB_ret ?_
          refine G.thn_ret ?_
          refine G.inB_ret ?_
          refine G.thn_ret ?_
          refine G.thn_ret ?_
          refine G.inB_ret ?_
          refine G.thn_ret ?_
          refine G.thn_ret ?_
          refine G.fin_ fun hF77 => ?_
          have hb78 := Option.some.inj hF77
          subst hb78
          have hF79 : some (Sum.inl ((11, 0) : Int × Int)) = some _ := hF48
          have hb80 := Option.some.inj hF79
          subst hb80
          have hF81 : (some (11, 0) : Option (Int × Int)) = some _ := hF25
          obtain rfl := Option.some.inj hF81
          exact G.ret2 Try.results5 () (is := []) rfl (.of rfl) (.of rfl) rfl
         ·refine G.norm (L' := [(1, .val (.pointer (some ⟨g3, 0, none⟩))), (23, eL e_T_Trait 2 b0.fTraits), (24, .val (.int .i64 (b0.fTraits.length : Int))), (25, .val (.int .i64 (i20 : Int))), (30, eL e_T_Func 15 y21.fFuncs), (31, .val (.int .i64 (y21.fFuncs.length : Int))), (32, .val (.int .i64 (i43 : Int)))]) (is := [1, 23, 24, 25, 30, 31, 32]) (R' := [.cells g3 29 (lf_T_Program b0)]) (js := [0]) rfl rfl ?_
          refine G.skip ?_
          refine G.inB ?_
          refine G.next_ hK59 ?_
          refine G.region ?_
          refine G.p rfl (V.incr (i := i43) (N := y21.fFuncs.length) rfl rfl (rng_lt hd46) (hN42)) ?_
          refine G.p rfl (V.move rfl) ?_
          refine G.nil ?_
          refine G.norm (L' := [(1, .val (.pointer (some ⟨g3, 0, none⟩))), (23, eL e_T_Trait 2 b0.fTraits), (24, .val (.int .i64 (b0.fTraits.length : Int))), (25, .val (.int .i64 (i20 : Int))), (30, eL e_T_Func 15 y21.fFuncs), (31, .val (.int .i64 (y21.fFuncs.length : Int))), (32, .val (.int .i64 ((i43 + 1 : Nat) : Int)))]) (is := [1, 23, 24, 25, 30, 31, 32]) (R' := [.cells g3 29 (lf_T_Program b0)]) (js := [0]) rfl rfl ?_
          refine G.again ?_
          intro hl82 a w hA
          exact ⟨_, Nat.lt_succ_self _, rest45, i43 + 1, rfl, hl82, rng_next hd46, hA⟩
     ·rintro _ hb a w ⟨b84, rfl, hA⟩ hF85
      refine G.use hF85 hA ?_
      refine G.inr2 ?_
      refine G.inB ?_
      refine G.next_ hK36 ?_
      refine G.region ?_
      refine G.p rfl (V.incr (i := i20) (N := b0.fTraits.length) rfl rfl (rng_lt hd23) (hN19)) ?_
      refine G.p rfl (V.move rfl) ?_
      refine G.nil ?_
      refine G.norm (L' := [(1, .val (.pointer (some ⟨g3, 0, none⟩))), (23, eL e_T_Trait 2 b0.fTraits), (24, .val (.int .i64 (b0.fTraits.length : Int))), (25, .val (.int .i64 ((i20 + 1 : Nat) : Int)))]) (is := [1, 23, 24, 25]) (R' := [.cells g3 29 (lf_T_Program b0)]) (js := [0]) rfl rfl ?_
      refine G.again ?_
      intro hl86 a w hA
      exact ⟨_, Nat.lt_succ_self _, rest22, i20 + 1, rfl, hl86, rng_next hd23, hA⟩
  ·rintro _ hb a w ⟨b88, rfl, hA⟩ hF89
   refine G.use hF89 hA ?_
   refine G.inr ?_
   refine G.next_ hK16 ?_
   refine G.seq fun K90 hK91 => ?_
   refine G.region ?_
   refine G.q rfl (V.load_cellN (i := 0) (ds := (lf_T_Program b0)) (c1 := (lf_T_Program b0)) rfl rfl Try.isAgg29 Try.sizeOf29 rfl rfl rfl) ?_
   refine G.bind fun r92 hr93 => ?_
   refine G.op rfl (O.call (xs := [.tmp 46]) (is := []) (Rp := []) (Rr := [.cells g3 29 (lf_T_Program b0)]) (scope_newResolver_ok hr93) (.cons (.of rfl) .nil) Try.call19 rfl) fun x94 => ?_
   refine G.p rfl (V.assign rfl) ?_
   refine G.nil ?_
   refine G.norm (L' := [(1, .val (.pointer (some ⟨g3, 0, none⟩))), (8, .val (.pointer (some ⟨x94.1, 0, none⟩)))]) (is := [1, 8]) (R' := [.cells x94.1 90 [.val (.map (some x94.2.1)), .val (.map (some x94.2.2.1)), .val (.map (some x94.2.2.2)), .val (.map none)], .map x94.2.1 (encM bs eB r92.1), .map x94.2.2.1 (encM bs eB r92.2.1), .map x94.2.2.2 (encM bs eB r92.2.2), .cells g3 29 (lf_T_Program b0)]) (js := [0, 0, 0, 0, 0]) rfl rfl ?_
   refine G.next_ hK91 ?_
   refine G.seq fun K95 hK96 => ?_
   refine G.region ?_
   refine G.p rfl (V.assign rfl) ?_
   refine G.nil ?_
   refine G.norm (L' := [(1, .val (.pointer (some ⟨g3, 0, none⟩))), (8, .val (.pointer (some ⟨x94.1, 0, none⟩))), (9, .val (.slice none 0 0))]) (is := [1, 8, 9]) (R' := [.cells x94.1 90 [.val (.map (some x94.2.1)), .val (.map (some x94.2.2.1)), .val (.map (some x94.2.2.2)), .val (.map none)], .map x94.2.1 (encM bs eB r92.1), .map x94.2.2.1 (encM bs eB r92.2.1), .map x94.2.2.2 (encM bs eB r92.2.2), .cells g3 29 (lf_T_Program b0)]) (js := [0, 0, 0, 0, 0]) rfl rfl ?_
   refine G.next_ hK96 ?_
   refine G.seq fun K97 hK98 => ?_
   refine G.seq fun K99 hK100 => ?_
   refine G.region ?_
   refine G.p rfl (V.fieldAddr (o' := 5) rfl Try.runUnderlying29 rfl Try.sizeOf25 rfl) ?_
   refine G.q rfl (V.load_cell (i := 4) (ds := (lf_T_Program b0)) (d := eL e_T_Impl 3 b0.fImpls) rfl rfl Try.isAgg25 rfl rfl) ?_
   refine G.lenb (enc := e_T_Impl) (xs := b0.fImpls) (sz := 3) (x := .tmp 49) (.of rfl) fun hN101 => ?_
   refine G.p rfl (V.len_sl (enc := e_T_Impl) (xs := b0.fImpls) (sz := 3) (.of rfl) Try.runUnderlying25) ?_
   refine G.p rfl (V.move rfl) ?_
   refine G.nil ?_
   refine G.norm (L' := [(1, .val (.pointer (some ⟨g3, 0, none⟩))), (8, .val (.pointer (some ⟨x94.1, 0, none⟩))), (9, .val (.slice none 0 0)), (49, eL e_T_Impl 3 b0.fImpls), (50, .val (.int .i64 (b0.fImpls.length : Int))), (51, .val (.int .i64 0))]) (is := [1, 8, 9, 49, 50, 51]) (R' := [.cells x94.1 90 [.val (.map (some x94.2.1)), .val (.map (some x94.2.2.1)), .val (.map (some x94.2.2.2)), .val (.map none)], .map x94.2.1 (encM bs eB r92.1), .map x94.2.2.1 (encM bs eB r92.2.1), .map x94.2.2.2 (encM bs eB r92.2.2), .cells g3 29 (lf_T_Program b0)]) (js := [0, 0, 0, 0, 0]) rfl rfl ?_
   refine G.next_ hK100 ?_
   refine G.join (E := fun b a w => ∃ (g_0 : Value), Ass Gl B 119 [(1, .val (.pointer (some ⟨g3, 0, none⟩))), (8, .val (.pointer (some ⟨x94.1, 0, none⟩))), (9, .val g_0)] [.cells g3 29 (lf_T_Program b0), .cells x94.1 90 [.val (.map (some x94.2.1)), .val (.map (some x94.2.2.1)), .val (.map (some x94.2.2.2)), .val (.map none)], .map x94.2.1 (encM bs eB r92.1), .map x94.2.2.1 (encM bs eB r92.2.1), .map x94.2.2.2 (encM bs eB r92.2.2), .row g_0 59 15 (b.map e_T_Func)] a w) ?_ ?_
   ·intro b hF109
    refine G.block ?_
    refine G.nilrow 59 15 none ?_
    refine G.norm (L' := [(1, .val (.pointer (some ⟨g3, 0, none⟩))), (8, .val (.pointer (some ⟨x94.1, 0, none⟩))), (9, .val (.slice none 0 0)), (49, eL e_T_Impl 3 b0.fImpls), (50, .val (.int .i64 (b0.fImpls.length : Int))), (51, .val (.int .i64 ((0 : Nat) : Int)))]) (is := [1, 8, 9, 49, 50, 51]) (R' := [.cells g3 29 (lf_T_Program b0), .cells x94.1 90 [.val (.map (some x94.2.1)), .val (.map (some x94.2.2.1)), .val (.map (some x94.2.2.2)), .val (.map none)], .map x94.2.1 (encM bs eB r92.1), .map x94.2.2.1 (encM bs eB r92.2.1), .map x94.2.2.2 (encM bs eB r92.2.2), .row (.slice none 0 0) 59 15 (([] : List T_Func).map e_T_Func)]) (js := [5, 1, 1, 1, 1, 0]) rfl rfl ?_
    refine G.loop (fun kq a w => ∃ (rest106 : List (T_Impl)) (i104 : Nat) (x102 : List T_Func), kq = rest106.length ∧ scope_Program.l3 rest106 x102 = some b ∧ b0.fImpls.drop i104 = rest106 ∧ ∃ (g_0 : Value), Ass Gl B 119 [(1, .val (.pointer (some ⟨g3, 0, none⟩))), (8, .val (.pointer (some ⟨x94.1, 0, none⟩))), (9, .val g_0), (49, eL e_T_Impl 3 b0.fImpls), (50, .val (.int .i64 (b0.fImpls.length : Int))), (51, .val (.int .i64 (i104 : Int)))] [.cells g3 29 (lf_T_Program b0), .cells x94.1 90 [.val (.map (some x94.2.1)), .val (.map (some x94.2.2.1)), .val (.map (some x94.2.2.2)), .val (.map none)], .map x94.2.1 (encM bs eB r92.1), .map x94.2.2.1 (encM bs eB r92.2.1), .map x94.2.2.2 (encM bs eB r92.2.2), .row g_0 59 15 (x102.map e_T_Func)] a w) (b0.fImpls.length) ?_ ?_
    ·intro hl128 a w hA
     exact ⟨b0.fImpls, 0, ([] : List T_Func), rfl, hl128, rfl, ⟨_, hA⟩⟩
    ·rintro _ a w ⟨rest106, i104, x102, rfl, hl110, hd107, ⟨g103, hA⟩⟩
     rcases rest106 with _ | ⟨y105, rest106⟩
     ·rw [scope_Program.l3_nil] at hl110
      refine G.use hl110 hA ?_
      refine G.seq fun K111 hK112 => ?_
      refine G.region ?_
      refine G.p rfl (V.bin (u := .int .i64 (i104 : Int)) (v := .int .i64 (b0.fImpls.length : Int)) (r := .bool (decide ((i104 : Int) < (b0.fImpls.length : Int)))) rfl rfl b_lss) ?_
      refine G.nil ?_
      refine G.norm (L' := [(1, .val (.pointer (some ⟨g3, 0, none⟩))), (8, .val (.pointer (some ⟨x94.1, 0, none⟩))), (9, .val g103), (49, eL e_T_Impl 3 b0.fImpls), (50, .val (.int .i64 (b0.fImpls.length : Int))), (51, .val (.int .i64 (i104 : Int))), (52, .val (.bool (decide ((i104 : Int) < (b0.fImpls.length : Int)))))]) (is := [1, 8, 9, 49, 50, 51, 52]) (R' := [.cells g3 29 (lf_T_Program b0), .cells x94.1 90 [.val (.map (some x94.2.1)), .val (.map (some x94.2.2.1)), .val (.map (some x94.2.2.2)), .val (.map none)], .map x94.2.1 (encM bs eB r92.1), .map x94.2.2.1 (encM bs eB r92.2.1), .map x94.2.2.2 (encM bs eB r92.2.2), .row g103 59 15 (x102.map e_T_Func)]) (js := [0, 0, 0, 0, 0, 0]) rfl rfl ?_
      refine G.next_ hK112 ?_
      refine G.seq fun K113 hK114 => ?_
      refine G.no rfl (rng_end hd107) ?_
      refine G.exit ?_
      refine G.thn_exit ?_
      refine G.thn_exit ?_
      refine G.inB_eq ?_
      refine G.norm (L' := [(1, .val (.pointer (some ⟨g3, 0, none⟩))), (8, .val (.pointer (some ⟨x94.1, 0, none⟩))), (9, .val g103)]) (is := [1, 8, 9]) (R' := [.cells g3 29 (lf_T_Program b0), .cells x94.1 90 [.val (.map (some x94.2.1)), .val (.map (some x94.2.2.1)), .val (.map (some x94.2.2.2)), .val (.map none)], .map x94.2.1 (encM bs eB r92.1), .map x94.2.2.1 (encM bs eB r92.2.1), .map x94.2.2.2 (encM bs eB r92.2.2), .row g103 59 15 (x102.map e_T_Func)]) (js := [0, 0, 0, 0, 0, 0]) rfl rfl ?_
      exact G.finE fun hb a w hA => by subst hb; exact ⟨_, hA⟩
     ·rw [scope_Program.l3_cons] at hl110
      refine G.use hl110 hA ?_
      refine G.seq fun K115 hK116 => ?_
      refine G.region ?_
      refine G.p rfl (V.bin (u := .int .i64 (i104 : Int)) (v := .int .i64 (b0.fImpls.length : Int)) (r := .bool (decide ((i104 : Int) < (b0.fImpls.length : Int)))) rfl rfl b_lss) ?_
      refine G.nil ?_
      refine G.norm (L' := [(1, .val (.pointer (some ⟨g3, 0, none⟩))), (8, .val (.pointer (some ⟨x94.1, 0, none⟩))), (9, .val g103), (49, eL e_T_Impl 3 b0.fImpls), (50, .val (.int .i64 (b0.fImpls.length : Int))), (51, .val (.int .i64 (i104 : Int))), (52, .val (.bool (decide ((i104 : Int) < (b0.fImpls.length : Int)))))]) (is := [1, 8, 9, 49, 50, 51, 52]) (R' := [.cells g3 29 (lf_T_Program b0), .cells x94.1 90 [.val (.map (some x94.2.1)), .val (.map (some x94.2.2.1)), .val (.map (some x94.2.2.2)), .val (.map none)], .map x94.2.1 (encM bs eB r92.1), .map x94.2.2.1 (encM bs eB r92.2.1), .map x94.2.2.2 (encM bs eB r92.2.2), .row g103 59 15 (x102.map e_T_Func)]) (js := [0, 0, 0, 0, 0, 0]) rfl rfl ?_
      refine G.next_ hK116 ?_
      refine G.seq fun K117 hK118 => ?_
      refine G.yes rfl (rng_more hd107) ?_
      refine G.skip ?_
      refine G.next_ hK118 ?_
      refine G.seq fun K119 hK120 => ?_
      refine G.block ?_
      refine G.seq fun K121 hK122 => ?_
      refine G.region ?_
      refine G.p rfl (V.at_sl (k := i104) rfl rfl Try.runUnderlying25 Try.sizeOf63 (map_at (rng_at hd107))) ?_
      refine G.q rfl (V.load_ptrN (ds := (lf_T_Impl y105)) rfl (e_T_Impl_eq y105) Try.isAgg63 Try.sizeOf63 rfl) ?_
      refine G.op rfl (O.alloc (ds := [.val (bs ([] : Str)), .val (bs ([] : Str)), .val (.slice none 0 0)]) Try.zeroValue63 rfl) fun g123 => ?_
      refine G.opn (O.store (i := 0) (o := 0) (ds := [.val (bs ([] : Str)), .val (bs ([] : Str)), .val (.slice none 0 0)]) rfl (.of rfl) rfl (OneC.agg (List.forall_mem_cons.2 ⟨(.val rfl), (List.forall_mem_cons.2 ⟨(.val rfl), (List.forall_mem_cons.2 ⟨.sl, (List.forall_mem_nil _)⟩)⟩)⟩)) Try.sizeOf63 rfl rfl) fun _ => ?_
      refine G.nil ?_
      refine G.norm (L' := [(1, .val (.pointer (some ⟨g3, 0, none⟩))), (8, .val (.pointer (some ⟨x94.1, 0, none⟩))), (9, .val g103), (11, .val (.pointer (some ⟨g123, 0, none⟩))), (49, eL e_T_Impl 3 b0.fImpls), (50, .val (.int .i64 (b0.fImpls.length : Int))), (51, .val (.int .i64 (i104 : Int)))]) (is := [1, 8, 9, 11, 49, 50, 51]) (R' := [.cells g123 63 (lf_T_Impl y105), .cells g3 29 (lf_T_Program b0), .cells x94.1 90 [.val (.map (some x94.2.1)), .val (.map (some x94.2.2.1)), .val (.map (some x94.2.2.2)), .val (.map none)], .map x94.2.1 (encM bs eB r92.1), .map x94.2.2.1 (encM bs eB r92.2.1), .map x94.2.2.2 (encM bs eB r92.2.2), .row g103 59 15 (x102.map e_T_Func)]) (js := [0, 0, 0, 0, 0, 0, 0]) rfl rfl ?_
      refine G.next_ hK122 ?_
      refine G.region ?_
      refine G.p rfl (V.move rfl) ?_
      refine G.p rfl (V.fieldAddr (o' := 2) rfl Try.runUnderlying63 rfl Try.sizeOf26 rfl) ?_
      refine G.q rfl (V.load_cell (i := 0) (ds := (lf_T_Impl y105)) (d := eL e_T_Func 15 y105.fFuncs) rfl rfl Try.isAgg26 rfl rfl) ?_
      refine G.bind fun l124 hl125 => ?_
      refine G.op rfl (O.append (i := 6) (enc := e_T_Func) (xs := x102) (ys := y105.fFuncs) (lim := 517417236600) elt26 rfl rfl (.of rfl) (by decide) (by decide) one_T_Func hl125) fun v126 => ?_
      refine G.p rfl (V.assign rfl) ?_
      refine G.nil ?_
      refine G.norm (L' := [(1, .val (.pointer (some ⟨g3, 0, none⟩))), (8, .val (.pointer (some ⟨x94.1, 0, none⟩))), (9, .val v126), (49, eL e_T_Impl 3 b0.fImpls), (50, .val (.int .i64 (b0.fImpls.length : Int))), (51, .val (.int .i64 (i104 : Int)))]) (is := [1, 8, 9, 49, 50, 51]) (R' := [.cells g3 29 (lf_T_Program b0), .cells x94.1 90 [.val (.map (some x94.2.1)), .val (.map (some x94.2.2.1)), .val (.map (some x94.2.2.2)), .val (.map none)], .map x94.2.1 (encM bs eB r92.1), .map x94.2.2.1 (encM bs eB r92.2.1), .map x94.2.2.2 (encM bs eB r92.2.2), .row v126 59 15 (l124.map e_T_Func)]) (js := [1, 1, 1, 1, 1, 1]) rfl rfl ?_
      refine G.inB ?_
      refine G.next_ hK120 ?_
      refine G.region ?_
      refine G.p rfl (V.incr (i := i104) (N := b0.fImpls.length) rfl rfl (rng_lt hd107) (hN101)) ?_
      refine G.p rfl (V.move rfl) ?_
      refine G.nil ?_
      refine G.norm (L' := [(1, .val (.pointer (some ⟨g3, 0, none⟩))), (8, .val (.pointer (some ⟨x94.1, 0, none⟩))), (9, .val v126), (49, eL e_T_Impl 3 b0.fImpls), (50, .val (.int .i64 (b0.fImpls.length : Int))), (51, .val (.int .i64 ((i104 + 1 : Nat) : Int)))]) (is := [1, 8, 9, 49, 50, 51]) (R' := [.cells g3 29 (lf_T_Program b0), .cells x94.1 90 [.val (.map (some x94.2.1)), .val (.map (some x94.2.2.1)), .val (.map (some x94.2.2.2)), .val (.map none)], .map x94.2.1 (encM bs eB r92.1), .map x94.2.2.1 (encM bs eB r92.2.1), .map x94.2.2.2 (encM bs eB r92.2.2), .row v126 59 15 (l124.map e_T_Func)]) (js := [0, 0, 0, 0, 0, 0]) rfl rfl ?_
      refine G.again ?_
      intro hl127 a w hA
      exact ⟨_, Nat.lt_succ_self _, rest106, i104 + 1, l124, rfl, hl127, rng_next hd107, ⟨_, hA⟩⟩
   ·rintro b129 hb a w ⟨g130, hA⟩ hF131
    refine G.use hF131 hA ?_
    refine G.next_ hK98 ?_
    refine G.seq fun K132 hK133 => ?_
    refine G.seq fun K134 hK135 => ?_
    refine G.region ?_
    refine G.p rfl (V.move rfl) ?_
    refine G.p rfl (V.fieldAddr (o' := 6) rfl Try.runUnderlying29 rfl Try.sizeOf26 rfl) ?_
    refine G.q rfl (V.load_cell (i := 0) (ds := (lf_T_Program b0)) (d := eL e_T_Func 15 b0.fFuncs) rfl rfl Try.isAgg26 rfl rfl) ?_
    refine G.bind fun l136 hl137 => ?_
    refine G.op rfl (O.append (i := 5) (enc := e_T_Func) (xs := b129) (ys := b0.fFuncs) (lim := 517417236600) elt26 rfl rfl (.of rfl) (by decide) (by decide) one_T_Func hl137) fun v138 => ?_
    refine G.lenr (i := 5) (enc := e_T_Func) (xs := l136) rfl fun hN139 => ?_
    refine G.q rfl (V.len_row (j := 5) (enc := e_T_Func) (xs := l136) rfl rfl Try.runUnderlying26) ?_
    refine G.p rfl (V.move rfl) ?_
    refine G.nil ?_
    refine G.norm (L' := [(1, .val (.pointer (some ⟨g3, 0, none⟩))), (8, .val (.pointer (some ⟨x94.1, 0, none⟩))), (63, .val v138), (64, .val (.int .i64 (l136.length : Int))), (65, .val (.int .i64 0))]) (is := [1, 8, 63, 64, 65]) (R' := [.cells g3 29 (lf_T_Program b0), .cells x94.1 90 [.val (.map (some x94.2.1)), .val (.map (some x94.2.2.1)), .val (.map (some x94.2.2.2)), .val (.map none)], .map x94.2.1 (encM bs eB r92.1), .map x94.2.2.1 (encM bs eB r92.2.1), .map x94.2.2.2 (encM bs eB r92.2.2), .row v138 59 15 (l136.map e_T_Func)]) (js := [0, 0, 0, 0, 0, 0]) rfl rfl ?_
    refine G.next_ hK135 ?_
    refine G.join (E := fun o a w => ∃ b, o = .inr b ∧ ∃ (g_0 : Value), Ass Gl B 119 [(1, .val (.pointer (some ⟨g3, 0, none⟩))), (8, .val (.pointer (some ⟨x94.1, 0, none⟩)))] [.cells g3 29 (lf_T_Program b0), .cells x94.1 90 [.val (.map (some x94.2.1)), .val (.map (some x94.2.2.1)), .val (.map (some x94.2.2.2)), .val g_0], .map x94.2.1 (encM bs eB r92.1), .map x94.2.2.1 (encM bs eB r92.2.1), .map x94.2.2.2 (encM bs eB r92.2.2)] a w) ?_ ?_
    ·intro b hF146
     refine G.block ?_
     refine G.norm (L' := [(1, .val (.pointer (some ⟨g3, 0, none⟩))), (8, .val (.pointer (some ⟨x94.1, 0, none⟩))), (63, .val v138), (64, .val (.int .i64 (l136.length : Int))), (65, .val (.int .i64 ((0 : Nat) : Int)))]) (is := [1, 8, 63, 64, 65]) (R' := [.cells g3 29 (lf_T_Program b0), .row v138 59 15 (l136.map e_T_Func), .cells x94.1 90 [.val (.map (some x94.2.1)), .val (.map (some x94.2.2.1)), .val (.map (some x94.2.2.2)), .val (.map none)], .map x94.2.1 (encM bs eB r92.1), .map x94.2.2.1 (encM bs eB r92.2.1), .map x94.2.2.2 (encM bs eB r92.2.2)]) (js := [0, 4, 0, 0, 0, 0]) rfl rfl ?_
     refine G.loop (fun kq a w => ∃ (rest143 : List (T_Func)) (i141 : Nat), kq = rest143.length ∧ scope_Program.l4 k r92 rest143 = some b ∧ l136.drop i141 = rest143 ∧ ∃ (g_0 : Value), Ass Gl B 119 [(1, .val (.pointer (some ⟨g3, 0, none⟩))), (8, .val (.pointer (some ⟨x94.1, 0, none⟩))), (63, .val v138), (64, .val (.int .i64 (l136.length : Int))), (65, .val (.int .i64 (i141 : Int)))] [.cells g3 29 (lf_T_Program b0), .row v138 59 15 (l136.map e_T_Func), .cells x94.1 90 [.val (.map (some x94.2.1)), .val (.map (some x94.2.2.1)), .val (.map (some x94.2.2.2)), .val g_0], .map x94.2.1 (encM bs eB r92.1), .map x94.2.2.1 (encM bs eB r92.2.1), .map x94.2.2.2 (encM bs eB r92.2.2)] a w) (l136.length) ?_ ?_
     ·intro hl197 a w hA
      exact ⟨l136, 0, rfl, hl197, rfl, ⟨_, hA⟩⟩
     ·rintro _ a w ⟨rest143, i141, rfl, hl147, hd144, ⟨g140, hA⟩⟩
      rcases rest143 with _ | ⟨y142, rest143⟩
      ·rw [scope_Program.l4_nil] at hl147
       refine G.use hl147 hA ?_
       refine G.seq fun K148 hK149 => ?_
       refine G.region ?_
       refine G.p rfl (V.bin (u := .int .i64 (i141 : Int)) (v := .int .i64 (l136.length : Int)) (r := .bool (decide ((i141 : Int) < (l136.length : Int)))) rfl rfl b_lss) ?_
       refine G.nil ?_
       refine G.norm (L' := [(1, .val (.pointer (some ⟨g3, 0, none⟩))), (8, .val (.pointer (some ⟨x94.1, 0, none⟩))), (63, .val v138), (64, .val (.int .i64 (l136.length : Int))), (65, .val (.int .i64 (i141 : Int))), (66, .val (.bool (decide ((i141 : Int) < (l136.length : Int)))))]) (is := [1, 8, 63, 64, 65, 66]) (R' := [.cells g3 29 (lf_T_Program b0), .row v138 59 15 (l136.map e_T_Func), .cells x94.1 90 [.val (.map (some x94.2.1)), .val (.map (some x94.2.2.1)), .val (.map (some x94.2.2.2)), .val g140], .map x94.2.1 (encM bs eB r92.1), .map x94.2.2.1 (encM bs eB r92.2.1), .map x94.2.2.2 (encM bs eB r92.2.2)]) (js := [0, 0, 0, 0, 0, 0]) rfl rfl ?_
       refine G.next_ hK149 ?_
       refine G.seq fun K150 hK151 => ?_
       refine G.no rfl (rng_end hd144) ?_
       refine G.exit ?_
       refine G.thn_exit ?_
       refine G.thn_exit ?_
       refine G.inB_eq ?_
       refine G.norm (L' := [(1, .val (.pointer (some ⟨g3, 0, none⟩))), (8, .val (.pointer (some ⟨x94.1, 0, none⟩)))]) (is := [1, 8]) (R' := [.cells g3 29 (lf_T_Program b0), .cells x94.1 90 [.val (.map (some x94.2.1)), .val (.map (some x94.2.2.1)), .val (.map (some x94.2.2.2)), .val g140], .map x94.2.1 (encM bs eB r92.1), .map x94.2.2.1 (encM bs eB r92.2.1), .map x94.2.2.2 (encM bs eB r92.2.2)]) (js := [0, 1, 1, 1, 1]) rfl rfl ?_
       exact G.finE fun hb a w hA => by subst hb; exact ⟨_, rfl, ⟨_, hA⟩⟩
      ·rw [scope_Program.l4_cons] at hl147
       refine G.use hl147 hA ?_
       refine G.seq fun K152 hK153 => ?_
       refine G.region ?_
       refine G.p rfl (V.bin (u := .int .i64 (i141 : Int)) (v := .int .i64 (l136.length : Int)) (r := .bool (decide ((i141 : Int) < (l136.length : Int)))) rfl rfl b_lss) ?_
       refine G.nil ?_
       refine G.norm (L' := [(1, .val (.pointer (some ⟨g3, 0, none⟩))), (8, .val (.pointer (some ⟨x94.1, 0, none⟩))), (63, .val v138), (64, .val (.int .i64 (l136.length : Int))), (65, .val (.int .i64 (i141 : Int))), (66, .val (.bool (decide ((i141 : Int) < (l136.length : Int)))))]) (is := [1, 8, 63, 64, 65, 66]) (R' := [.cells g3 29 (lf_T_Program b0), .row v138 59 15 (l136.map e_T_Func), .cells x94.1 90 [.val (.map (some x94.2.1)), .val (.map (some x94.2.2.1)), .val (.map (some x94.2.2.2)), .val g140], .map x94.2.1 (encM bs eB r92.1), .map x94.2.2.1 (encM bs eB r92.2.1), .map x94.2.2.2 (encM bs eB r92.2.2)]) (js := [0, 0, 0, 0, 0, 0]) rfl rfl ?_
       refine G.next_ hK153 ?_
       refine G.seq fun K154 hK155 => ?_
       refine G.yes rfl (rng_more hd144) ?_
       refine G.skip ?_
       refine G.next_ hK155 ?_
       refine G.seq fun K156 hK157 => ?_
       refine G.block ?_
       refine G.seq fun K158 hK159 => ?_
       refine G.region ?_
       refine G.q rfl (V.atT_row (k := i141) (i := 1) (enc := e_T_Func) (xs := l136) rfl rfl rfl Try.runUnderlying26 Try.sizeOf59 (rng_at hd144)) ?_
       refine G.q rfl (V.rowTN (i := 1) (enc := e_T_Func) (xs := l136) (j := 0) (c1 := (lf_T_Func y142)) i141 rfl rfl (rng_at hd144) rfl (c_T_Func _) rfl rfl rfl Try.isAgg59 Try.sizeOf59) ?_
       refine G.op rfl (O.alloc (ds := [.val (bs ([] : Str)), .val (.slice none 0 0), .val (.slice none 0 0), .val (.slice none 0 0), .val (.int .i64 0), .val (bs ([] : Str)), .val (.slice none 0 0), .val (.int .i64 0), .val (.int .i64 0), .val (bs ([] : Str)), .val (.slice none 0 0), .val (.slice none 0 0), .val (.slice none 0 0), .val (.slice none 0 0), .val (.int .i64 0)]) Try.zeroValue59 rfl) fun g160 => ?_
       refine G.opn (O.store (i := 0) (o := 0) (ds := [.val (bs ([] : Str)), .val (.slice none 0 0), .val (.slice none 0 0), .val (.slice none 0 0), .val (.int .i64 0), .val (bs ([] : Str)), .val (.slice none 0 0), .val (.int .i64 0), .val (.int .i64 0), .val (bs ([] : Str)), .val (.slice none 0 0), .val (.slice none 0 0), .val (.slice none 0 0), .val (.slice none 0 0), .val (.int .i64 0)]) rfl (.of rfl) rfl (OneC.agg (List.forall_mem_cons.2 ⟨(.val rfl), (List.forall_mem_cons.2 ⟨.sl, (List.forall_mem_cons.2 ⟨.sl, (List.forall_mem_cons.2 ⟨.sl, (List.forall_mem_cons.2 ⟨(.val rfl), (List.forall_mem_cons.2 ⟨(.val rfl), (List.forall_mem_cons.2 ⟨.sl, (List.forall_mem_cons.2 ⟨(.val rfl), (List.forall_mem_cons.2 ⟨(.val rfl), (List.forall_mem_cons.2 ⟨(.val rfl), (List.forall_mem_cons.2 ⟨.sl, (List.forall_mem_cons.2 ⟨.sl, (List.forall_mem_cons.2 ⟨.sl, (List.forall_mem_cons.2 ⟨.sl, (List.forall_mem_cons.2 ⟨(.val rfl), (List.forall_mem_nil _)⟩)⟩)⟩)⟩)⟩)⟩)⟩)⟩)⟩)⟩)⟩)⟩)⟩)⟩)⟩)) Try.sizeOf59 rfl rfl) fun _ => ?_
       refine G.nil ?_
       refine G.norm (L' := [(1, .val (.pointer (some ⟨g3, 0, none⟩))), (8, .val (.pointer (some ⟨x94.1, 0, none⟩))), (13, .val (.pointer (some ⟨g160, 0, none⟩))), (63, .val v138), (64, .val (.int .i64 (l136.length : Int))), (65, .val (.int .i64 (i141 : Int)))]) (is := [1, 8, 13, 63, 64, 65]) (R' := [.cells g160 59 (lf_T_Func y142), .cells g3 29 (lf_T_Program b0), .row v138 59 15 (l136.map e_T_Func), .cells x94.1 90 [.val (.map (some x94.2.1)), .val (.map (some x94.2.2.1)), .val (.map (some x94.2.2.2)), .val g140], .map x94.2.1 (encM bs eB r92.1), .map x94.2.2.1 (encM bs eB r92.2.1), .map x94.2.2.2 (encM bs eB r92.2.2)]) (js := [0, 0, 0, 0, 0, 0, 0]) rfl rfl ?_
       refine G.next_ hK159 ?_
       refine G.seq fun K161 hK162 => ?_
       refine G.seq fun K163 hK164 => ?_
       refine G.region ?_
       refine G.p rfl (V.fieldAddr (o' := 1) rfl Try.runUnderlying59 rfl Try.sizeOf30 rfl) ?_
       refine G.q rfl (V.load_cell (i := 0) (ds := (lf_T_Func y142)) (d := eL eS 1 y142.fParams) rfl rfl Try.isAgg30 rfl rfl) ?_
       refine G.bind fun r165 hr166 => ?_
       refine G.op rfl (O.call (xs := [.tmp 70]) (is := []) (Rp := []) (Rr := [.cells g160 59 (lf_T_Func y142), .cells g3 29 (lf_T_Program b0), .row v138 59 15 (l136.map e_T_Func), .cells x94.1 90 [.val (.map (some x94.2.1)), .val (.map (some x94.2.2.1)), .val (.map (some x94.2.2.2)), .val g140], .map x94.2.1 (encM bs eB r92.1), .map x94.2.2.1 (encM bs eB r92.2.1), .map x94.2.2.2 (encM bs eB r92.2.2)]) (scope_Twice_ok hr166) (.cons (.of rfl) .nil) Try.call16 rfl) fun x167 => ?_
       refine G.p rfl (V.move rfl) ?_
       refine G.part 4 (fun b a w => Ass Gl B 119 [(1, .val (.pointer (some ⟨g3, 0, none⟩))), (8, .val (.pointer (some ⟨x94.1, 0, none⟩))), (13, .val (.pointer (some ⟨g160, 0, none⟩))), (63, .val v138), (64, .val (.int .i64 (l136.length : Int))), (65, .val (.int .i64 (i141 : Int))), (69, .val (.pointer (some ⟨g160, 1, none⟩))), (70, eL eS 1 y142.fParams), (71, .val (.bool r165)), (72, .val (.bool r165)), (76, .val (.bool b))] [.cells g3 29 (lf_T_Program b0), .cells g160 59 (lf_T_Func y142), .row v138 59 15 (l136.map e_T_Func), .cells x94.1 90 [.val (.map (some x94.2.1)), .val (.map (some x94.2.2.1)), .val (.map (some x94.2.2.2)), .val g140], .map x94.2.1 (encM bs eB r92.1), .map x94.2.2.1 (encM bs eB r92.2.1), .map x94.2.2.2 (encM bs eB r92.2.2)] a w) ?_ ?_
       ·intro b
        refine G.ifb (fun hc168 => ?_) (fun hc168 => ?_)
        ·refine G.skip_s rfl rfl hc168 rfl ?_
         refine G.skip_s rfl rfl hc168 rfl ?_
         refine G.skip_s rfl rfl hc168 rfl ?_
         refine G.p rfl (V.pick_yes (dv := .val (.bool true)) rfl hc168 rfl) ?_
         refine G.nil ?_
         refine G.norm (L' := [(1, .val (.pointer (some ⟨g3, 0, none⟩))), (8, .val (.pointer (some ⟨x94.1, 0, none⟩))), (13, .val (.pointer (some ⟨g160, 0, none⟩))), (63, .val v138), (64, .val (.int .i64 (l136.length : Int))), (65, .val (.int .i64 (i141 : Int))), (69, .val (.pointer (some ⟨g160, 1, none⟩))), (70, eL eS 1 y142.fParams), (71, .val (.bool r165)), (72, .val (.bool r165)), (76, .val (.bool true))]) (is := [1, 8, 13, 63, 64, 65, 69, 70, 71, 72, 76]) (R' := [.cells g3 29 (lf_T_Program b0), .cells g160 59 (lf_T_Func y142), .row v138 59 15 (l136.map e_T_Func), .cells x94.1 90 [.val (.map (some x94.2.1)), .val (.map (some x94.2.2.1)), .val (.map (some x94.2.2.2)), .val g140], .map x94.2.1 (encM bs eB r92.1), .map x94.2.2.1 (encM bs eB r92.2.1), .map x94.2.2.2 (encM bs eB r92.2.2)]) (js := [1, 0, 0, 0, 0, 0, 0]) rfl rfl ?_
         exact G.finE fun hb a w hA => by subst hb; exact hA
        ·refine G.guard_yes rfl rfl hc168 ?_
         refine G.p rfl (V.fieldAddr (o' := 2) rfl Try.runUnderlying59 rfl Try.sizeOf30 rfl) ?_
         refine G.guard_yes rfl rfl hc168 ?_
         refine G.q rfl (V.load_cell (i := 0) (ds := (lf_T_Func y142)) (d := eL eS 1 y142.fNames) rfl rfl Try.isAgg30 rfl rfl) ?_
         refine G.guard_yes rfl rfl hc168 ?_
         refine G.bind fun r171 hr172 => ?_
         refine G.op rfl (O.call (xs := [.tmp 74]) (is := []) (Rp := []) (Rr := [.cells g160 59 (lf_T_Func y142), .cells g3 29 (lf_T_Program b0), .row v138 59 15 (l136.map e_T_Func), .cells x94.1 90 [.val (.map (some x94.2.1)), .val (.map (some x94.2.2.1)), .val (.map (some x94.2.2.2)), .val g140], .map x94.2.1 (encM bs eB r92.1), .map x94.2.2.1 (encM bs eB r92.2.1), .map x94.2.2.2 (encM bs eB r92.2.2)]) (scope_Twice_ok hr172) (.cons (.of rfl) .nil) Try.call16 rfl) fun x173 => ?_
         refine G.p rfl (V.pick_no (dv := .val (.bool r171)) rfl hc168 rfl) ?_
         refine G.nil ?_
         refine G.norm (L' := [(1, .val (.pointer (some ⟨g3, 0, none⟩))), (8, .val (.pointer (some ⟨x94.1, 0, none⟩))), (13, .val (.pointer (some ⟨g160, 0, none⟩))), (63, .val v138), (64, .val (.int .i64 (l136.length : Int))), (65, .val (.int .i64 (i141 : Int))), (69, .val (.pointer (some ⟨g160, 1, none⟩))), (70, eL eS 1 y142.fParams), (71, .val (.bool r165)), (72, .val (.bool r165)), (76, .val (.bool r171))]) (is := [1, 8, 13, 63, 64, 65, 69, 70, 71, 72, 76]) (R' := [.cells g3 29 (lf_T_Program b0), .cells g160 59 (lf_T_Func y142), .row v138 59 15 (l136.map e_T_Func), .cells x94.1 90 [.val (.map (some x94.2.1)), .val (.map (some x94.2.2.1)), .val (.map (some x94.2.2.2)), .val g140], .map x94.2.1 (encM bs eB r92.1), .map x94.2.2.1 (encM bs eB r92.2.1), .map x94.2.2.2 (encM bs eB r92.2.2)]) (js := [1, 0, 0, 0, 0, 0, 0]) rfl rfl ?_
         exact G.finE fun hb a w hA => by subst hb; exact hA
       ·rintro t169 hb a w hA hF
        refine G.use hF hA ?_
        refine G.nil ?_
        refine G.norm (L' := [(1, .val (.pointer (some ⟨g3, 0, none⟩))), (8, .val (.pointer (some ⟨x94.1, 0, none⟩))), (13, .val (.pointer (some ⟨g160, 0, none⟩))), (63, .val v138), (64, .val (.int .i64 (l136.length : Int))), (65, .val (.int .i64 (i141 : Int))), (76, .val (.bool t169))]) (is := [1, 8, 13, 63, 64, 65, 76]) (R' := [.cells g3 29 (lf_T_Program b0), .cells g160 59 (lf_T_Func y142), .row v138 59 15 (l136.map e_T_Func), .cells x94.1 90 [.val (.map (some x94.2.1)), .val (.map (some x94.2.2.1)), .val (.map (some x94.2.2.2)), .val g140], .map x94.2.1 (encM bs eB r92.1), .map x94.2.2.1 (encM bs eB r92.2.1), .map x94.2.2.2 (encM bs eB r92.2.2)]) (js := [0, 0, 0, 0, 0, 0, 0]) rfl rfl ?_
        refine G.next_ hK164 ?_
        refine G.cond (b := t169) rfl (fun hc174 => ?_) (fun hc174 => ?_)
        ·refine G.norm (L' := []) (is := []) (R' := []) (js := []) rfl rfl ?_
         refine G.seq fun K175 hK176 => ?_
         refine G.region ?_
         refine G.p rfl (V.assign rfl) ?_
         refine G.p rfl (V.assign rfl) ?_
         refine G.nil ?_
         refine G.norm (L' := [(2, .val (.int .i64 11)), (3, .val (.int .i64 0))]) (is := [2, 3]) (R' := []) (js := []) rfl rfl ?_
         refine G.next_ hK176 ?_
         refine G.ret ?_
         refine G.thn_ret ?_
         refine G.inB_ret ?_
         refine G.thn_ret ?_
         refine G.thn_ret ?_
         refine G.inB_ret ?_
         refine G.thn_ret ?_
         refine G.thn_ret ?_
         refine G.fin_ fun hF177 => ?_
         have hb178 := Option.some.inj hF177
         subst hb178
         have hF179 : (some (11, 0) : Option (Int × Int)) = some _ := hF146
         obtain rfl := Option.some.inj hF179
         exact G.ret2 Try.results5 () (is := []) rfl (.of rfl) (.of rfl) rfl
        ·refine G.norm (L' := [(1, .val (.pointer (some ⟨g3, 0, none⟩))), (8, .val (.pointer (some ⟨x94.1, 0, none⟩))), (13, .val (.pointer (some ⟨g160, 0, none⟩))), (63, .val v138), (64, .val (.int .i64 (l136.length : Int))), (65, .val (.int .i64 (i141 : Int)))]) (is := [1, 8, 13, 63, 64, 65]) (R' := [.cells g3 29 (lf_T_Program b0), .cells g160 59 (lf_T_Func y142), .row v138 59 15 (l136.map e_T_Func), .cells x94.1 90 [.val (.map (some x94.2.1)), .val (.map (some x94.2.2.1)), .val (.map (some x94.2.2.2)), .val g140], .map x94.2.1 (encM bs eB r92.1), .map x94.2.2.1 (encM bs eB r92.2.1), .map x94.2.2.2 (encM bs eB r92.2.2)]) (js := [0, 0, 0, 0, 0, 0, 0]) rfl rfl ?_
         refine G.skip ?_
         refine G.next_ hK162 ?_
         refine G.seq fun K180 hK181 => ?_
         refine G.region ?_
         refine G.p rfl (V.move rfl) ?_
         refine G.p rfl (V.fieldAddr (o' := 2) rfl Try.runUnderlying59 rfl Try.sizeOf30 rfl) ?_
         refine G.q rfl (V.load_cell (i := 1) (ds := (lf_T_Func y142)) (d := eL eS 1 y142.fNames) rfl rfl Try.isAgg30 rfl rfl) ?_
         refine G.p rfl (V.fieldAddr (o' := 7) rfl Try.runUnderlying59 rfl Try.sizeOf47 rfl) ?_
         refine G.q rfl (V.load_cellN (i := 1) (ds := (lf_T_Func y142)) (c1 := (lf_T_Expr y142.fBody)) rfl rfl Try.isAgg47 Try.sizeOf47 rfl rfl rfl) ?_
         refine G.bind fun r182 hr183 => ?_
         refine G.op rfl (O.call (xs := [.tmp 78, .tmp 80, .tmp 82]) (is := [3, 3, 3, 3]) (Rp := [.cells x94.1 90 [.val (.map (some x94.2.1)), .val (.map (some x94.2.2.1)), .val (.map (some x94.2.2.2)), .val g140], .map x94.2.1 (encM bs eB r92.1), .map x94.2.2.1 (encM bs eB r92.2.1), .map x94.2.2.2 (encM bs eB r92.2.2)]) (Rr := [.cells g3 29 (lf_T_Program b0), .cells g160 59 (lf_T_Func y142), .row v138 59 15 (l136.map e_T_Func)]) (scope_resolver_expr_s1_ok k hr183) (.cons (.of rfl) (.cons (.of rfl) (.cons (.of rfl) .nil))) Try.call20 rfl) fun x184 => ?_
         refine G.p rfl (V.move rfl) ?_
         refine G.p rfl (V.extract (ds := [.val (.int .i64 r182.1), .val (.bool r182.2.1)]) (d := .val (.int .i64 r182.1)) rfl rfl) ?_
         refine G.p rfl (V.extract (ds := [.val (.int .i64 r182.1), .val (.bool r182.2.1)]) (d := .val (.bool r182.2.1)) rfl rfl) ?_
         refine G.p rfl (V.assign rfl) ?_
         refine G.p rfl (V.assign rfl) ?_
         refine G.nil ?_
         refine G.norm (L' := [(1, .val (.pointer (some ⟨g3, 0, none⟩))), (8, .val (.pointer (some ⟨x94.1, 0, none⟩))), (14, .val (.int .i64 r182.1)), (15, .val (.bool r182.2.1)), (63, .val v138), (64, .val (.int .i64 (l136.length : Int))), (65, .val (.int .i64 (i141 : Int)))]) (is := [1, 8, 14, 15, 63, 64, 65]) (R' := [.cells x94.1 90 [.val (.map (some x94.2.1)), .val (.map (some x94.2.2.1)), .val (.map (some x94.2.2.2)), .val (.map (some x184))], .map x94.2.1 (encM bs eB r92.1), .map x94.2.2.1 (encM bs eB r92.2.1), .map x94.2.2.2 (encM bs eB r92.2.2), .map x184 (encM bs (eI .i64) r182.2.2), .cells g3 29 (lf_T_Program b0), .row v138 59 15 (l136.map e_T_Func)]) (js := [0, 0, 0, 0, 0, 0, 1]) rfl rfl ?_
         refine G.next_ hK181 ?_
         refine G.seq fun K185 hK186 => ?_
         refine G.region ?_
         refine G.p rfl (V.move rfl) ?_
         refine G.nil ?_
         refine G.norm (L' := [(1, .val (.pointer (some ⟨g3, 0, none⟩))), (8, .val (.pointer (some ⟨x94.1, 0, none⟩))), (14, .val (.int .i64 r182.1)), (15, .val (.bool r182.2.1)), (63, .val v138), (64, .val (.int .i64 (l136.length : Int))), (65, .val (.int .i64 (i141 : Int))), (86, .val (.bool r182.2.1))]) (is := [1, 8, 14, 15, 63, 64, 65, 86]) (R' := [.cells x94.1 90 [.val (.map (some x94.2.1)), .val (.map (some x94.2.2.1)), .val (.map (some x94.2.2.2)), .val (.map (some x184))], .map x94.2.1 (encM bs eB r92.1), .map x94.2.2.1 (encM bs eB r92.2.1), .map x94.2.2.2 (encM bs eB r92.2.2), .map x184 (encM bs (eI .i64) r182.2.2), .cells g3 29 (lf_T_Program b0), .row v138 59 15 (l136.map e_T_Func)]) (js := [0, 0, 0, 0, 0, 0, 0]) rfl rfl ?_
         refine G.next_ hK186 ?_
         refine G.cond (b := r182.2.1) rfl (fun hc187 => ?_) (fun hc187 => ?_)
         ·refine G.norm (L' := [(14, .val (.int .i64 r182.1)), (15, .val (.bool r182.2.1))]) (is := [14, 15]) (R' := []) (js := []) rfl rfl ?_
          refine G.seq fun K188 hK189 => ?_
          refine G.region ?_
          refine G.p rfl (V.move rfl) ?_
          refine G.p rfl (V.move rfl) ?_
          refine G.bind fun r190 hr191 => ?_
          refine G.op rfl (O.call (xs := [.tmp 87, .tmp 88]) (is := []) (Rp := []) (Rr := []) (scope_told_ok hr191) (.cons (.of rfl) (.cons (.of rfl) .nil)) Try.call21 rfl) fun x192 => ?_
          refine G.p rfl (V.extract (ds := [.val (.int .i64 r190.1), .val (.int .i64 r190.2)]) (d := .val (.int .i64 r190.1)) rfl rfl) ?_
          refine G.p rfl (V.extract (ds := [.val (.int .i64 r190.1), .val (.int .i64 r190.2)]) (d := .val (.int .i64 r190.2)) rfl rfl) ?_
          refine G.p rfl (V.assign rfl) ?_
          refine G.p rfl (V.assign rfl) ?_
          refine G.nil ?_
          refine G.norm (L' := [(2, .val (.int .i64 r190.1)), (3, .val (.int .i64 r190.2))]) (is := [2, 3]) (R' := []) (js := []) rfl rfl ?_
          refine G.next_ hK189 ?_
          refine G.ret ?_
          refine G.inB_ret ?_
          refine G.thn_ret ?_
          refine G.thn_ret ?_
          refine G.inB_ret ?_
          refine G.thn_ret ?_
          refine G.thn_ret ?_
          refine G.fin_ fun hF193 => ?_
          have hb194 := Option.some.inj hF193
          subst hb194
          have hF195 : (some (r190.1, r190.2) : Option (Int × Int)) = some _ := hF146
          obtain rfl := Option.some.inj hF195
          exact G.ret2 Try.results5 () (is := []) rfl (.of rfl) (.of rfl) rfl
         ·refine G.norm (L' := [(1, .val (.pointer (some ⟨g3, 0, none⟩))), (8, .val (.pointer (some ⟨x94.1, 0, none⟩))), (63, .val v138), (64, .val (.int .i64 (l136.length : Int))), (65, .val (.int .i64 (i141 : Int)))]) (is := [1, 8, 63, 64, 65]) (R' := [.cells x94.1 90 [.val (.map (some x94.2.1)), .val (.map (some x94.2.2.1)), .val (.map (some x94.2.2.2)), .val (.map (some x184))], .map x94.2.1 (encM bs eB r92.1), .map x94.2.2.1 (encM bs eB r92.2.1), .map x94.2.2.2 (encM bs eB r92.2.2), .map x184 (encM bs (eI .i64) r182.2.2), .cells g3 29 (lf_T_Program b0), .row v138 59 15 (l136.map e_T_Func)]) (js := [0, 0, 0, 0, 0, 0, 0]) rfl rfl ?_
          refine G.skip ?_
          refine G.inB ?_
          refine G.next_ hK157 ?_
          refine G.region ?_
          refine G.p rfl (V.incr (i := i141) (N := l136.length) rfl rfl (rng_lt hd144) (hN139)) ?_
          refine G.p rfl (V.move rfl) ?_
          refine G.nil ?_
          refine G.norm (L' := [(1, .val (.pointer (some ⟨g3, 0, none⟩))), (8, .val (.pointer (some ⟨x94.1, 0, none⟩))), (63, .val v138), (64, .val (.int .i64 (l136.length : Int))), (65, .val (.int .i64 ((i141 + 1 : Nat) : Int)))]) (is := [1, 8, 63, 64, 65]) (R' := [.cells x94.1 90 [.val (.map (some x94.2.1)), .val (.map (some x94.2.2.1)), .val (.map (some x94.2.2.2)), .val (.map (some x184))], .map x94.2.1 (encM bs eB r92.1), .map x94.2.2.1 (encM bs eB r92.2.1), .map x94.2.2.2 (encM bs eB r92.2.2), .map x184 (encM bs (eI .i64) r182.2.2), .cells g3 29 (lf_T_Program b0), .row v138 59 15 (l136.map e_T_Func)]) (js := [0, 0, 0, 0, 0, 0, 0]) rfl rfl ?_
          refine G.norm (L' := [(1, .val (.pointer (some ⟨g3, 0, none⟩))), (8, .val (.pointer (some ⟨x94.1, 0, none⟩))), (63, .val v138), (64, .val (.int .i64 (l136.length : Int))), (65, .val (.int .i64 ((i141 + 1 : Nat) : Int)))]) (is := [1, 8, 63, 64, 65]) (R' := [.cells g3 29 (lf_T_Program b0), .row v138 59 15 (l136.map e_T_Func), .cells x94.1 90 [.val (.map (some x94.2.1)), .val (.map (some x94.2.2.1)), .val (.map (some x94.2.2.2)), .val (.map (some x184))], .map x94.2.1 (encM bs eB r92.1), .map x94.2.2.1 (encM bs eB r92.2.1), .map x94.2.2.2 (encM bs eB r92.2.2)]) (js := [5, 5, 0, 0, 0, 0]) rfl rfl ?_
          refine G.again ?_
          intro hl196 a w hA
          exact ⟨_, Nat.lt_succ_self _, rest143, i141 + 1, rfl, hl196, rng_next hd144, ⟨_, hA⟩⟩
    ·rintro _ hb a w ⟨b198, rfl, ⟨g199, hA⟩⟩ hF200
     refine G.use hF200 hA ?_
     refine G.inr ?_
     refine G.next_ hK133 ?_
     refine G.seq fun K201 hK202 => ?_
     refine G.seq fun K203 hK204 => ?_
     refine G.region ?_
     refine G.p rfl (V.fieldAddr (o' := 7) rfl Try.runUnderlying29 rfl Try.sizeOf27 rfl) ?_
     refine G.q rfl (V.load_cell (i := 0) (ds := (lf_T_Program b0)) (d := eL e_T_Actor 14 b0.fActors) rfl rfl Try.isAgg27 rfl rfl) ?_
     refine G.lenb (enc := e_T_Actor) (xs := b0.fActors) (sz := 14) (x := .tmp 94) (.of rfl) fun hN205 => ?_
     refine G.p rfl (V.len_sl (enc := e_T_Actor) (xs := b0.fActors) (sz := 14) (.of rfl) Try.runUnderlying27) ?_
     refine G.p rfl (V.move rfl) ?_
     refine G.nil ?_
     refine G.norm (L' := [(8, .val (.pointer (some ⟨x94.1, 0, none⟩))), (94, eL e_T_Actor 14 b0.fActors), (95, .val (.int .i64 (b0.fActors.length : Int))), (96, .val (.int .i64 0))]) (is := [8, 94, 95, 96]) (R' := [.cells x94.1 90 [.val (.map (some x94.2.1)), .val (.map (some x94.2.2.1)), .val (.map (some x94.2.2.2)), .val g199], .map x94.2.1 (encM bs eB r92.1), .map x94.2.2.1 (encM bs eB r92.2.1), .map x94.2.2.2 (encM bs eB r92.2.2)]) (js := [1, 1, 1, 1]) rfl rfl ?_
     refine G.next_ hK204 ?_
     refine G.join (E := fun o a w => ∃ b, o = .inr b ∧ Ass Gl B 119 [] [] a w) ?_ ?_
     ·intro b hF212
      refine G.block ?_
      refine G.norm (L' := [(8, .val (.pointer (some ⟨x94.1, 0, none⟩))), (94, eL e_T_Actor 14 b0.fActors), (95, .val (.int .i64 (b0.fActors.length : Int))), (96, .val (.int .i64 ((0 : Nat) : Int)))]) (is := [8, 94, 95, 96]) (R' := [.cells x94.1 90 [.val (.map (some x94.2.1)), .val (.map (some x94.2.2.1)), .val (.map (some x94.2.2.2)), .val g199], .map x94.2.1 (encM bs eB r92.1), .map x94.2.2.1 (encM bs eB r92.2.1), .map x94.2.2.2 (encM bs eB r92.2.2)]) (js := [0, 0, 0, 0]) rfl rfl ?_
      refine G.loop (fun kq a w => ∃ (rest209 : List (T_Actor)) (i207 : Nat), kq = rest209.length ∧ scope_Program.l5 k r92 rest209 = some b ∧ b0.fActors.drop i207 = rest209 ∧ ∃ (g_0 : Value), Ass Gl B 119 [(8, .val (.pointer (some ⟨x94.1, 0, none⟩))), (94, eL e_T_Actor 14 b0.fActors), (95, .val (.int .i64 (b0.fActors.length : Int))), (96, .val (.int .i64 (i207 : Int)))] [.cells x94.1 90 [.val (.map (some x94.2.1)), .val (.map (some x94.2.2.1)), .val (.map (some x94.2.2.2)), .val g_0], .map x94.2.1 (encM bs eB r92.1), .map x94.2.2.1 (encM bs eB r92.2.1), .map x94.2.2.2 (encM bs eB r92.2.2)] a w) (b0.fActors.length) ?_ ?_
      ·intro hl257 a w hA
       exact ⟨b0.fActors, 0, rfl, hl257, rfl, ⟨_, hA⟩⟩
      ·rintro _ a w ⟨rest209, i207, rfl, hl213, hd210, ⟨g206, hA⟩⟩
       rcases rest209 with _ | ⟨y208, rest209⟩
       ·rw [scope_Program.l5_nil] at hl213
        refine G.use hl213 hA ?_
        refine G.seq fun K214 hK215 => ?_
        refine G.region ?_
        refine G.p rfl (V.bin (u := .int .i64 (i207 : Int)) (v := .int .i64 (b0.fActors.length : Int)) (r := .bool (decide ((i207 : Int) < (b0.fActors.length : Int)))) rfl rfl b_lss) ?_
        refine G.nil ?_
        refine G.norm (L' := [(8, .val (.pointer (some ⟨x94.1, 0, none⟩))), (94, eL e_T_Actor 14 b0.fActors), (95, .val (.int .i64 (b0.fActors.length : Int))), (96, .val (.int .i64 (i207 : Int))), (97, .val (.bool (decide ((i207 : Int) < (b0.fActors.length : Int)))))]) (is := [8, 94, 95, 96, 97]) (R' := [.cells x94.1 90 [.val (.map (some x94.2.1)), .val (.map (some x94.2.2.1)), .val (.map (some x94.2.2.2)), .val g206], .map x94.2.1 (encM bs eB r92.1), .map x94.2.2.1 (encM bs eB r92.2.1), .map x94.2.2.2 (encM bs eB r92.2.2)]) (js := [0, 0, 0, 0]) rfl rfl ?_
        refine G.next_ hK215 ?_
        refine G.seq fun K216 hK217 => ?_
        refine G.no rfl (rng_end hd210) ?_
        refine G.exit ?_
        refine G.thn_exit ?_
        refine G.thn_exit ?_
        refine G.inB_eq ?_
        refine G.norm (L' := []) (is := []) (R' := []) (js := []) rfl rfl ?_
        exact G.finE fun hb a w hA => by subst hb; exact ⟨_, rfl, hA⟩
       ·rw [scope_Program.l5_cons] at hl213
        refine G.use hl213 hA ?_
        refine G.seq fun K218 hK219 => ?_
        refine G.region ?_
        refine G.p rfl (V.bin (u := .int .i64 (i207 : Int)) (v := .int .i64 (b0.fActors.length : Int)) (r := .bool (decide ((i207 : Int) < (b0.fActors.length : Int)))) rfl rfl b_lss) ?_
        refine G.nil ?_
        refine G.norm (L' := [(8, .val (.pointer (some ⟨x94.1, 0, none⟩))), (94, eL e_T_Actor 14 b0.fActors), (95, .val (.int .i64 (b0.fActors.length : Int))), (96, .val (.int .i64 (i207 : Int))), (97, .val (.bool (decide ((i207 : Int) < (b0.fActors.length : Int)))))]) (is := [8, 94, 95, 96, 97]) (R' := [.cells x94.1 90 [.val (.map (some x94.2.1)), .val (.map (some x94.2.2.1)), .val (.map (some x94.2.2.2)), .val g206], .map x94.2.1 (encM bs eB r92.1), .map x94.2.2.1 (encM bs eB r92.2.1), .map x94.2.2.2 (encM bs eB r92.2.2)]) (js := [0, 0, 0, 0]) rfl rfl ?_
        refine G.next_ hK219 ?_
        refine G.seq fun K220 hK221 => ?_
        refine G.yes rfl (rng_more hd210) ?_
        refine G.skip ?_
        refine G.next_ hK221 ?_
        refine G.seq fun K222 hK223 => ?_
        refine G.block ?_
        refine G.seq fun K224 hK225 => ?_
        refine G.region ?_
        refine G.p rfl (V.at_sl (k := i207) rfl rfl Try.runUnderlying27 Try.sizeOf68 (map_at (rng_at hd210))) ?_
        refine G.q rfl (V.load_ptrN (ds := (lf_T_Actor y208)) rfl (e_T_Actor_eq y208) Try.isAgg68 Try.sizeOf68 rfl) ?_
        refine G.op rfl (O.alloc (ds := [.val (bs ([] : Str)), .val (.slice none 0 0), .val (.slice none 0 0), .val (.int .i64 0), .val (bs ([] : Str)), .val (.slice none 0 0), .val (.int .i64 0), .val (.int .i64 0), .val (bs ([] : Str)), .val (.slice none 0 0), .val (.slice none 0 0), .val (.slice none 0 0), .val (.slice none 0 0), .val (.int .i64 0)]) Try.zeroValue68 rfl) fun g226 => ?_
        refine G.opn (O.store (i := 0) (o := 0) (ds := [.val (bs ([] : Str)), .val (.slice none 0 0), .val (.slice none 0 0), .val (.int .i64 0), .val (bs ([] : Str)), .val (.slice none 0 0), .val (.int .i64 0), .val (.int .i64 0), .val (bs ([] : Str)), .val (.slice none 0 0), .val (.slice none 0 0), .val (.slice none 0 0), .val (.slice none 0 0), .val (.int .i64 0)]) rfl (.of rfl) rfl (OneC.agg (List.forall_mem_cons.2 ⟨(.val rfl), (List.forall_mem_cons.2 ⟨.sl, (List.forall_mem_cons.2 ⟨.sl, (List.forall_mem_cons.2 ⟨(.val rfl), (List.forall_mem_cons.2 ⟨(.val rfl), (List.forall_mem_cons.2 ⟨.sl, (List.forall_mem_cons.2 ⟨(.val rfl), (List.forall_mem_cons.2 ⟨(.val rfl), (List.forall_mem_cons.2 ⟨(.val rfl), (List.forall_mem_cons.2 ⟨.sl, (List.forall_mem_cons.2 ⟨.sl, (List.forall_mem_cons.2 ⟨.sl, (List.forall_mem_cons.2 ⟨.sl, (List.forall_mem_cons.2 ⟨(.val rfl), (List.forall_mem_nil _)⟩)⟩)⟩)⟩)⟩)⟩)⟩)⟩)⟩)⟩)⟩)⟩)⟩)⟩)) Try.sizeOf68 rfl rfl) fun _ => ?_
        refine G.nil ?_
        refine G.norm (L' := [(8, .val (.pointer (some ⟨x94.1, 0, none⟩))), (17, .val (.pointer (some ⟨g226, 0, none⟩))), (94, eL e_T_Actor 14 b0.fActors), (95, .val (.int .i64 (b0.fActors.length : Int))), (96, .val (.int .i64 (i207 : Int)))]) (is := [8, 17, 94, 95, 96]) (R' := [.cells g226 68 (lf_T_Actor y208), .cells x94.1 90 [.val (.map (some x94.2.1)), .val (.map (some x94.2.2.1)), .val (.map (some x94.2.2.2)), .val g206], .map x94.2.1 (encM bs eB r92.1), .map x94.2.2.1 (encM bs eB r92.2.1), .map x94.2.2.2 (encM bs eB r92.2.2)]) (js := [0, 0, 0, 0, 0]) rfl rfl ?_
        refine G.next_ hK225 ?_
        refine G.seq fun K227 hK228 => ?_
        refine G.seq fun K229 hK230 => ?_
        refine G.region ?_
        refine G.p rfl (V.fieldAddr (o' := 1) rfl Try.runUnderlying68 rfl Try.sizeOf30 rfl) ?_
        refine G.q rfl (V.load_cell (i := 0) (ds := (lf_T_Actor y208)) (d := eL eS 1 y208.fNames) rfl rfl Try.isAgg30 rfl rfl) ?_
        refine G.bind fun r231 hr232 => ?_
        refine G.op rfl (O.call (xs := [.tmp 101]) (is := []) (Rp := []) (Rr := [.cells g226 68 (lf_T_Actor y208), .cells x94.1 90 [.val (.map (some x94.2.1)), .val (.map (some x94.2.2.1)), .val (.map (some x94.2.2.2)), .val g206], .map x94.2.1 (encM bs eB r92.1), .map x94.2.2.1 (encM bs eB r92.2.1), .map x94.2.2.2 (encM bs eB r92.2.2)]) (scope_Twice_ok hr232) (.cons (.of rfl) .nil) Try.call16 rfl) fun x233 => ?_
        refine G.nil ?_
        refine G.norm (L' := [(8, .val (.pointer (some ⟨x94.1, 0, none⟩))), (17, .val (.pointer (some ⟨g226, 0, none⟩))), (94, eL e_T_Actor 14 b0.fActors), (95, .val (.int .i64 (b0.fActors.length : Int))), (96, .val (.int .i64 (i207 : Int))), (102, .val (.bool r231))]) (is := [8, 17, 94, 95, 96, 102]) (R' := [.cells g226 68 (lf_T_Actor y208), .cells x94.1 90 [.val (.map (some x94.2.1)), .val (.map (some x94.2.2.1)), .val (.map (some x94.2.2.2)), .val g206], .map x94.2.1 (encM bs eB r92.1), .map x94.2.2.1 (encM bs eB r92.2.1), .map x94.2.2.2 (encM bs eB r92.2.2)]) (js := [0, 0, 0, 0, 0]) rfl rfl ?_
        refine G.next_ hK230 ?_
        refine G.cond (b := r231) rfl (fun hc234 => ?_) (fun hc234 => ?_)
        ·refine G.norm (L' := []) (is := []) (R' := []) (js := []) rfl rfl ?_
         refine G.seq fun K235 hK236 => ?_
         refine G.region ?_
         refine G.p rfl (V.assign rfl) ?_
         refine G.p rfl (V.assign rfl) ?_
         refine G.nil ?_
         refine G.norm (L' := [(2, .val (.int .i64 11)), (3, .val (.int .i64 0))]) (is := [2, 3]) (R' := []) (js := []) rfl rfl ?_
         refine G.next_ hK236 ?_
         refine G.ret ?_
         refine G.thn_ret ?_
         refine G.inB_ret ?_
         refine G.thn_ret ?_
         refine G.thn_ret ?_
         refine G.inB_ret ?_
         refine G.thn_ret ?_
         refine G.thn_ret ?_
         refine G.fin_ fun hF237 => ?_
         have hb238 := Option.some.inj hF237
         subst hb238
         have hF239 : (some (11, 0) : Option (Int × Int)) = some _ := hF212
         obtain rfl := Option.some.inj hF239
         exact G.ret2 Try.results5 () (is := []) rfl (.of rfl) (.of rfl) rfl
        ·refine G.norm (L' := [(8, .val (.pointer (some ⟨x94.1, 0, none⟩))), (17, .val (.pointer (some ⟨g226, 0, none⟩))), (94, eL e_T_Actor 14 b0.fActors), (95, .val (.int .i64 (b0.fActors.length : Int))), (96, .val (.int .i64 (i207 : Int)))]) (is := [8, 17, 94, 95, 96]) (R' := [.cells g226 68 (lf_T_Actor y208), .cells x94.1 90 [.val (.map (some x94.2.1)), .val (.map (some x94.2.2.1)), .val (.map (some x94.2.2.2)), .val g206], .map x94.2.1 (encM bs eB r92.1), .map x94.2.2.1 (encM bs eB r92.2.1), .map x94.2.2.2 (encM bs eB r92.2.2)]) (js := [0, 0, 0, 0, 0]) rfl rfl ?_
         refine G.skip ?_
         refine G.next_ hK228 ?_
         refine G.seq fun K240 hK241 => ?_
         refine G.region ?_
         refine G.p rfl (V.move rfl) ?_
         refine G.p rfl (V.fieldAddr (o' := 1) rfl Try.runUnderlying68 rfl Try.sizeOf30 rfl) ?_
         refine G.q rfl (V.load_cell (i := 0) (ds := (lf_T_Actor y208)) (d := eL eS 1 y208.fNames) rfl rfl Try.isAgg30 rfl rfl) ?_
         refine G.p rfl (V.fieldAddr (o' := 6) rfl Try.runUnderlying68 rfl Try.sizeOf47 rfl) ?_
         refine G.q rfl (V.load_cellN (i := 0) (ds := (lf_T_Actor y208)) (c1 := (lf_T_Expr y208.fBody)) rfl rfl Try.isAgg47 Try.sizeOf47 rfl rfl rfl) ?_
         refine G.bind fun r242 hr243 => ?_
         refine G.op rfl (O.call (xs := [.tmp 104, .tmp 106, .tmp 108]) (is := [1, 1, 1, 1]) (Rp := [.cells x94.1 90 [.val (.map (some x94.2.1)), .val (.map (some x94.2.2.1)), .val (.map (some x94.2.2.2)), .val g206], .map x94.2.1 (encM bs eB r92.1), .map x94.2.2.1 (encM bs eB r92.2.1), .map x94.2.2.2 (encM bs eB r92.2.2)]) (Rr := [.cells g226 68 (lf_T_Actor y208)]) (scope_resolver_expr_s1_ok k hr243) (.cons (.of rfl) (.cons (.of rfl) (.cons (.of rfl) .nil))) Try.call20 rfl) fun x244 => ?_
         refine G.p rfl (V.move rfl) ?_
         refine G.p rfl (V.extract (ds := [.val (.int .i64 r242.1), .val (.bool r242.2.1)]) (d := .val (.int .i64 r242.1)) rfl rfl) ?_
         refine G.p rfl (V.extract (ds := [.val (.int .i64 r242.1), .val (.bool r242.2.1)]) (d := .val (.bool r242.2.1)) rfl rfl) ?_
         refine G.p rfl (V.assign rfl) ?_
         refine G.p rfl (V.assign rfl) ?_
         refine G.nil ?_
         refine G.norm (L' := [(8, .val (.pointer (some ⟨x94.1, 0, none⟩))), (18, .val (.int .i64 r242.1)), (19, .val (.bool r242.2.1)), (94, eL e_T_Actor 14 b0.fActors), (95, .val (.int .i64 (b0.fActors.length : Int))), (96, .val (.int .i64 (i207 : Int)))]) (is := [8, 18, 19, 94, 95, 96]) (R' := [.cells x94.1 90 [.val (.map (some x94.2.1)), .val (.map (some x94.2.2.1)), .val (.map (some x94.2.2.2)), .val (.map (some x244))], .map x94.2.1 (encM bs eB r92.1), .map x94.2.2.1 (encM bs eB r92.2.1), .map x94.2.2.2 (encM bs eB r92.2.2), .map x244 (encM bs (eI .i64) r242.2.2)]) (js := [0, 0, 0, 0, 0]) rfl rfl ?_
         refine G.next_ hK241 ?_
         refine G.seq fun K245 hK246 => ?_
         refine G.region ?_
         refine G.p rfl (V.move rfl) ?_
         refine G.nil ?_
         refine G.norm (L' := [(8, .val (.pointer (some ⟨x94.1, 0, none⟩))), (18, .val (.int .i64 r242.1)), (19, .val (.bool r242.2.1)), (94, eL e_T_Actor 14 b0.fActors), (95, .val (.int .i64 (b0.fActors.length : Int))), (96, .val (.int .i64 (i207 : Int))), (112, .val (.bool r242.2.1))]) (is := [8, 18, 19, 94, 95, 96, 112]) (R' := [.cells x94.1 90 [.val (.map (some x94.2.1)), .val (.map (some x94.2.2.1)), .val (.map (some x94.2.2.2)), .val (.map (some x244))], .map x94.2.1 (encM bs eB r92.1), .map x94.2.2.1 (encM bs eB r92.2.1), .map x94.2.2.2 (encM bs eB r92.2.2), .map x244 (encM bs (eI .i64) r242.2.2)]) (js := [0, 0, 0, 0, 0]) rfl rfl ?_
         refine G.next_ hK246 ?_
         refine G.cond (b := r242.2.1) rfl (fun hc247 => ?_) (fun hc247 => ?_)
         ·refine G.norm (L' := [(18, .val (.int .i64 r242.1)), (19, .val (.bool r242.2.1))]) (is := [18, 19]) (R' := []) (js := []) rfl rfl ?_
          refine G.seq fun K248 hK249 => ?_
          refine G.region ?_
          refine G.p rfl (V.move rfl) ?_
          refine G.p rfl (V.move rfl) ?_
          refine G.bind fun r250 hr251 => ?_
          refine G.op rfl (O.call (xs := [.tmp 113, .tmp 114]) (is := []) (Rp := []) (Rr := []) (scope_told_ok hr251) (.cons (.of rfl) (.cons (.of rfl) .nil)) Try.call21 rfl) fun x252 => ?_
          refine G.p rfl (V.extract (ds := [.val (.int .i64 r250.1), .val (.int .i64 r250.2)]) (d := .val (.int .i64 r250.1)) rfl rfl) ?_
          refine G.p rfl (V.extract (ds := [.val (.int .i64 r250.1), .val (.int .i64 r250.2)]) (d := .val (.int .i64 r250.2)) rfl rfl) ?_
          refine G.p rfl (V.assign rfl) ?_
          refine G.p rfl (V.assign rfl) ?_
          refine G.nil ?_
          refine G.norm (L' := [(2, .val (.int .i64 r250.1)), (3, .val (.int .i64 r250.2))]) (is := [2, 3]) (R' := []) (js := []) rfl rfl ?_
          refine G.next_ hK249 ?_
          refine G.ret ?_
          refine G.inB_ret ?_
          refine G.thn_ret ?_
          refine G.thn_ret ?_
          refine G.inB_ret ?_
          refine G.thn_ret ?_
          refine G.thn_ret ?_
          refine G.fin_ fun hF253 => ?_
          have hb254 := Option.some.inj hF253
          subst hb254
          have hF255 : (some (r250.1, r250.2) : Option (Int × Int)) = some _ := hF212
          obtain rfl := Option.some.inj hF255
          exact G.ret2 Try.results5 () (is := []) rfl (.of rfl) (.of rfl) rfl
         ·refine G.norm (L' := [(8, .val (.pointer (some ⟨x94.1, 0, none⟩))), (94, eL e_T_Actor 14 b0.fActors), (95, .val (.int .i64 (b0.fActors.length : Int))), (96, .val (.int .i64 (i207 : Int)))]) (is := [8, 94, 95, 96]) (R' := [.cells x94.1 90 [.val (.map (some x94.2.1)), .val (.map (some x94.2.2.1)), .val (.map (some x94.2.2.2)), .val (.map (some x244))], .map x94.2.1 (encM bs eB r92.1), .map x94.2.2.1 (encM bs eB r92.2.1), .map x94.2.2.2 (encM bs eB r92.2.2), .map x244 (encM bs (eI .i64) r242.2.2)]) (js := [0, 0, 0, 0, 0]) rfl rfl ?_
          refine G.skip ?_
          refine G.inB ?_
          refine G.next_ hK223 ?_
          refine G.region ?_
          refine G.p rfl (V.incr (i := i207) (N := b0.fActors.length) rfl rfl (rng_lt hd210) (hN205)) ?_
          refine G.p rfl (V.move rfl) ?_
          refine G.nil ?_
          refine G.norm (L' := [(8, .val (.pointer (some ⟨x94.1, 0, none⟩))), (94, eL e_T_Actor 14 b0.fActors), (95, .val (.int .i64 (b0.fActors.length : Int))), (96, .val (.int .i64 ((i207 + 1 : Nat) : Int)))]) (is := [8, 94, 95, 96]) (R' := [.cells x94.1 90 [.val (.map (some x94.2.1)), .val (.map (some x94.2.2.1)), .val (.map (some x94.2.2.2)), .val (.map (some x244))], .map x94.2.1 (encM bs eB r92.1), .map x94.2.2.1 (encM bs eB r92.2.1), .map x94.2.2.2 (encM bs eB r92.2.2), .map x244 (encM bs (eI .i64) r242.2.2)]) (js := [0, 0, 0, 0, 0]) rfl rfl ?_
          refine G.norm (L' := [(8, .val (.pointer (some ⟨x94.1, 0, none⟩))), (94, eL e_T_Actor 14 b0.fActors), (95, .val (.int .i64 (b0.fActors.length : Int))), (96, .val (.int .i64 ((i207 + 1 : Nat) : Int)))]) (is := [8, 94, 95, 96]) (R' := [.cells x94.1 90 [.val (.map (some x94.2.1)), .val (.map (some x94.2.2.1)), .val (.map (some x94.2.2.2)), .val (.map (some x244))], .map x94.2.1 (encM bs eB r92.1), .map x94.2.2.1 (encM bs eB r92.2.1), .map x94.2.2.2 (encM bs eB r92.2.2)]) (js := [0, 0, 0, 0]) rfl rfl ?_
          refine G.again ?_
          intro hl256 a w hA
          exact ⟨_, Nat.lt_succ_self _, rest209, i207 + 1, rfl, hl256, rng_next hd210, ⟨_, hA⟩⟩
     ·rintro _ hb a w ⟨b258, rfl, hA⟩ hF259
      refine G.use hF259 hA ?_
      refine G.inr ?_
      refine G.next_ hK202 ?_
      refine G.seq fun K260 hK261 => ?_
      refine G.region ?_
      refine G.p rfl (V.assign rfl) ?_
      refine G.p rfl (V.assign rfl) ?_
      refine G.nil ?_
      refine G.norm (L' := [(2, .val (.int .i64 0)), (3, .val (.int .i64 0))]) (is := [2, 3]) (R' := []) (js := []) rfl rfl ?_
      refine G.next_ hK261 ?_
      refine G.ret ?_
      refine G.fin_ fun hF262 => ?_
      obtain rfl := Option.some.inj hF262
      exact G.ret2 Try.results5 () (is := []) rfl (.of rfl) (.of rfl) rfl
/-! slices.Clone[[]string,string] -/
def slices_Clone_string_string (b0 : List Str) : Option (List Str) := cloneF 8796093022208 b0
theorem slices_Clone_string_string_ok {b0 out : List Str} (h : slices_Clone_string_string b0 = some out) : Ct Gl Try.prog 33 [eL eS 1 b0] [] (fun x : Value => .val x) (fun x => [.row x 9 1 (out.map eS)]) :=
  clone_ct Try.func33 rfl Try.ntmps33 Try.results33 elt30 Try.underlying30 (by decide) (by decide) (fun _ => one_S) h
/-! slices.Sort[[]string,string] -/
def laysSort_ren : Go.Shelf.Ren := ⟨fun | 190 => 34 | 125 => 42 | 258 => 41 | 128 => 54 | 129 => 55 | 302 => 45 | 303 => 46 | 304 => 47 | 305 => 48 | 306 => 49 | 307 => 50 | 308 => 51 | 309 => 52 | 310 => 53 | 333 => 56 | 329 => 57 | 330 => 58 | 334 => 59 | 335 => 60 | 336 => 61 | 344 => 62 | n => n, fun | 31 => 30 | 9 => 9 | 3 => 3 | 46 => 99 | 0 => 0 | 51 => 111 | 53 => 113 | 4 => 4 | 183 => 104 | 182 => 103 | 131 => 64 | 5 => 5 | 218 => 114 | 222 => 118 | 228 => 121 | 229 => 122 | n => n, fun | n => n⟩
theorem laysSort : Go.Proofs.Lays.n190 Try.prog laysSort_ren where
  mixed := by kernel_rfl
  f125 := Try.func42.trans (congrArg some (by kernel_rfl))
  f128 := Try.func54.trans (congrArg some (by kernel_rfl))
  f129 := Try.func55.trans (congrArg some (by kernel_rfl))
  f190 := Try.func34.trans (congrArg some (by kernel_rfl))
  f258 := Try.func41.trans (congrArg some (by kernel_rfl))
  f302 := Try.func45.trans (congrArg some (by kernel_rfl))
  f303 := Try.func46.trans (congrArg some (by kernel_rfl))
  f304 := Try.func47.trans (congrArg some (by kernel_rfl))
  f305 := Try.func48.trans (congrArg some (by kernel_rfl))
  f306 := Try.func49.trans (congrArg some (by kernel_rfl))
  f307 := Try.func50.trans (congrArg some (by kernel_rfl))
  f308 := Try.func51.trans (congrArg some (by kernel_rfl))
  f309 := Try.func52.trans (congrArg some (by kernel_rfl))
  f310 := Try.func53.trans (congrArg some (by kernel_rfl))
  f329 := Try.func57.trans (congrArg some (by kernel_rfl))
  f330 := Try.func58.trans (congrArg some (by kernel_rfl))
  f333 := Try.func56.trans (congrArg some (by kernel_rfl))
  f334 := Try.func59.trans (congrArg some (by kernel_rfl))
  f335 := Try.func60.trans (congrArg some (by kernel_rfl))
  f336 := Try.func61.trans (congrArg some (by kernel_rfl))
  f344 := Try.func62.trans (congrArg some (by kernel_rfl))
  t0 := Try.underlying0
  a0 := Try.isAgg0
  z0 := Try.sizeOf0
  v0 := Try.zeroValue0
  t3 := Try.underlying3
  a3 := Try.isAgg3
  z3 := Try.sizeOf3
  v3 := Try.zeroValue3
  t4 := Try.underlying4
  a4 := Try.isAgg4
  z4 := Try.sizeOf4
  v4 := Try.zeroValue4
  t5 := Try.underlying5
  a5 := Try.isAgg5
  z5 := Try.sizeOf5
  v5 := Try.zeroValue5
  t9 := Try.underlying9
  a9 := Try.isAgg9
  z9 := Try.sizeOf9
  v9 := Try.zeroValue9
  t31 := Try.underlying30
  a31 := Try.isAgg30
  z31 := Try.sizeOf30
  v31 := Try.zeroValue30
  t46 := Try.underlying99
  a46 := Try.isAgg99
  z46 := Try.sizeOf99
  v46 := Try.zeroValue99
  t51 := Try.underlying111
  a51 := Try.isAgg111
  z51 := Try.sizeOf111
  v51 := Try.zeroValue111
  t53 := Try.underlying113
  a53 := Try.isAgg113
  z53 := Try.sizeOf113
  v53 := Try.zeroValue113
  t131 := Try.underlying64
  a131 := Try.isAgg64
  z131 := Try.sizeOf64
  v131 := Try.zeroValue64
  t182 := Try.underlying103
  a182 := Try.isAgg103
  z182 := Try.sizeOf103
  v182 := Try.zeroValue103
  t183 := Try.underlying104
  a183 := Try.isAgg104
  z183 := Try.sizeOf104
  v183 := Try.zeroValue104
  t218 := Try.underlying114
  a218 := Try.isAgg114
  z218 := Try.sizeOf114
  v218 := Try.zeroValue114
  t222 := Try.underlying118
  a222 := Try.isAgg118
  z222 := Try.sizeOf118
  v222 := Try.zeroValue118
  t228 := Try.underlying121
  a228 := Try.isAgg121
  z228 := Try.sizeOf121
  v228 := Try.zeroValue121
  t229 := Try.underlying122
  a229 := Try.isAgg122
  z229 := Try.sizeOf122
  v229 := Try.zeroValue122
def slices_Sort_string_string (b0 : List Str) : Option (List Str) := sortF b0
theorem slices_Sort_string_string_ok {v : Value} {b0 out : List Str} (h : slices_Sort_string_string b0 = some out) : Ct Gl Try.prog 34 [.val v] [.row v 9 1 (b0.map eS)] (fun _ : Unit => .tup []) (fun _ => [.row v 9 1 (out.map eS)]) := sort_ct laysSort h
/-! slices.Compact[[]string,string] -/
def laysCompact_ren : Go.Shelf.Ren := ⟨fun | 194 => 35 | n => n, fun | 31 => 30 | 9 => 9 | 3 => 3 | 4 => 4 | 0 => 0 | n => n, fun | n => n⟩
theorem laysCompact : Go.Proofs.Lays.n194 Try.prog laysCompact_ren where
  mixed := by kernel_rfl
  f194 := Try.func35.trans (congrArg some (by kernel_rfl))
  t0 := Try.underlying0
  a0 := Try.isAgg0
  z0 := Try.sizeOf0
  v0 := Try.zeroValue0
  t3 := Try.underlying3
  a3 := Try.isAgg3
  z3 := Try.sizeOf3
  v3 := Try.zeroValue3
  t4 := Try.underlying4
  a4 := Try.isAgg4
  z4 := Try.sizeOf4
  v4 := Try.zeroValue4
  t9 := Try.underlying9
  a9 := Try.isAgg9
  z9 := Try.sizeOf9
  v9 := Try.zeroValue9
  t31 := Try.underlying30
  a31 := Try.isAgg30
  z31 := Try.sizeOf30
  v31 := Try.zeroValue30
def slices_Compact_string_string (b0 : List Str) : Option (List Str) := some (Lib.compact b0)
theorem slices_Compact_string_string_ok {v : Value} {b0 out : List Str} (h : slices_Compact_string_string b0 = some out) : Ct Gl Try.prog 35 [.val v] [.row v 9 1 (b0.map eS)] (fun x : Value => .val x) (fun x => [.row x 9 1 (out.map eS)]) := compact_ct laysCompact h
/-! roadstead/roadref2.doubled -/
def roadref2_doubled.Spec (F : (List Str) → Option (Bool)) : Prop := ∀ {b0 : List Str} {out : Bool}, F b0 = some out → Ct Gl Try.prog 22 [eL eS 1 b0] [] (fun x : Unit => .val (.bool out)) (fun x : Unit => [])
def roadref2_doubled (b0 : List Str) : Option (Bool) := (slices_Clone_string_string b0).bind fun r5 => (slices_Sort_string_string r5).bind fun r10 => (slices_Compact_string_string r10).bind fun r15 => some (decide ((r15.length : Int) < (b0.length : Int)))
set_option maxRecDepth 100000 in
theorem roadref2_doubled_ok : roadref2_doubled.Spec (roadref2_doubled) := by
 intro b0 out hp
 refine ct_of_G (nt := 14) Try.func22 rfl Try.ntmps22 rfl (fun B => ?_) hp
 unfold roadref2_doubled
 refine G.seq fun K1 hK2 => ?_
 refine G.region ?_
 refine G.p rfl (V.assign rfl) ?_
 refine G.nil ?_
 refine G.norm (L' := [(0, eL eS 1 b0)]) (is := [0]) (R' := []) (js := []) rfl rfl ?_
 refine G.next_ hK2 ?_
 refine G.seq fun K3 hK4 => ?_
 refine G.region ?_
 refine G.p rfl (V.move rfl) ?_
 refine G.bind fun r5 hr6 => ?_
 refine G.op rfl (O.call (xs := [.tmp 4]) (is := []) (Rp := []) (Rr := []) (slices_Clone_string_string_ok hr6) (.cons (.of rfl) .nil) Try.call33 rfl) fun x7 => ?_
 refine G.p rfl (V.assign rfl) ?_
 refine G.nil ?_
 refine G.norm (L' := [(0, eL eS 1 b0), (3, .val x7)]) (is := [0, 3]) (R' := [.row x7 9 1 (r5.map eS)]) (js := [0]) rfl rfl ?_
 refine G.next_ hK4 ?_
 refine G.seq fun K8 hK9 => ?_
 refine G.region ?_
 refine G.p rfl (V.move rfl) ?_
 refine G.bind fun r10 hr11 => ?_
 refine G.op rfl (O.call (xs := [.tmp 6]) (is := [0]) (Rp := [.row x7 9 1 (r5.map eS)]) (Rr := []) (slices_Sort_string_string_ok hr11) (.cons (.of rfl) .nil) Try.call34 rfl) fun x12 => ?_
 refine G.nil ?_
 refine G.norm (L' := [(0, eL eS 1 b0), (3, .val x7)]) (is := [0, 3]) (R' := [.row x7 9 1 (r10.map eS)]) (js := [0]) rfl rfl ?_
 refine G.next_ hK9 ?_
 refine G.seq fun K13 hK14 => ?_
 refine G.region ?_
 refine G.p rfl (V.move rfl) ?_
 refine G.bind fun r15 hr16 => ?_
 refine G.op rfl (O.call (xs := [.tmp 8]) (is := [0]) (Rp := [.row x7 9 1 (r10.map eS)]) (Rr := []) (slices_Compact_string_string_ok hr16) (.cons (.of rfl) .nil) Try.call35 rfl) fun x17 => ?_
 refine G.lenr (i := 0) (enc := eS) (xs := r15) rfl fun hN18 => ?_
 refine G.q rfl (V.len_row (j := 0) (enc := eS) (xs := r15) rfl rfl Try.runUnderlying30) ?_
 refine G.p rfl (V.move rfl) ?_
 refine G.lenb (enc := eS) (xs := b0) (sz := 1) (x := .tmp 11) (.of rfl) fun hN19 => ?_
 refine G.p rfl (V.len_sl (enc := eS) (xs := b0) (sz := 1) (.of rfl) Try.runUnderlying30) ?_
 refine G.p rfl (V.bin (u := .int .i64 (r15.length : Int)) (v := .int .i64 (b0.length : Int)) (r := .bool (decide ((r15.length : Int) < (b0.length : Int)))) rfl rfl b_lss) ?_
 refine G.p rfl (V.assign rfl) ?_
 refine G.nil ?_
 refine G.norm (L' := [(2, .val (.bool (decide ((r15.length : Int) < (b0.length : Int)))))]) (is := [2]) (R' := []) (js := []) rfl rfl ?_
 refine G.next_ hK14 ?_
 refine G.ret ?_
 refine G.fin_ fun hF20 => ?_
 obtain rfl := Option.some.inj hF20
 exact G.ret1 Try.results22 () (is := []) (.of rfl) rfl
/-! roadstead/roadref2.makersOf -/
def roadref2_makersOf.l2  : List (T_Make) → (List Str) → Option (List Str)
  | [], x36 => some x36
  | y39 :: rest40, x36 => (app 8796093022208 x36 ([y39.fName] : List Str)).bind fun l59 => roadref2_makersOf.l2 rest40 l59

theorem roadref2_makersOf.l2_nil  {x36 : List Str} : roadref2_makersOf.l2  [] x36 = some x36 := rfl
theorem roadref2_makersOf.l2_cons  {y39 : T_Make} {rest40 : List (T_Make)} {x36 : List Str} : roadref2_makersOf.l2  (y39 :: rest40) x36 = (app 8796093022208 x36 ([y39.fName] : List Str)).bind fun l59 => roadref2_makersOf.l2 rest40 l59 := rfl
def roadref2_makersOf.l1  : List (T_Data) → (List Str) → Option (List Str)
  | [], x11 => some x11
  | y14 :: rest15, x11 => (roadref2_makersOf.l2 y14.fMakes x11).bind fun b64 => roadref2_makersOf.l1 rest15 b64

theorem roadref2_makersOf.l1_nil  {x11 : List Str} : roadref2_makersOf.l1  [] x11 = some x11 := rfl
theorem roadref2_makersOf.l1_cons  {y14 : T_Data} {rest15 : List (T_Data)} {x11 : List Str} : roadref2_makersOf.l1  (y14 :: rest15) x11 = (roadref2_makersOf.l2 y14.fMakes x11).bind fun b64 => roadref2_makersOf.l1 rest15 b64 := rfl
def roadref2_makersOf.Spec (F : T_Program → Option (List Str)) : Prop := ∀ {b0 : T_Program} {out : List Str}, F b0 = some out → Ct Gl Try.prog 23 [.agg (lf_T_Program b0)] [] (fun x : Value => .val x) (fun x : Value => [.row x 9 1 (out.map eS)])
def roadref2_makersOf (b0 : T_Program) : Option (List Str) := (roadref2_makersOf.l1 b0.fDatas ([] : List Str)).bind fun b69 => some b69
set_option maxRecDepth 100000 in
theorem roadref2_makersOf_ok : roadref2_makersOf.Spec (roadref2_makersOf) := by
 intro b0 out hp
 refine ct_of_G (nt := 30) Try.func23 rfl Try.ntmps23 rfl (fun B => ?_) hp
 unfold roadref2_makersOf
 refine G.seq fun K1 hK2 => ?_
 refine G.region ?_
 refine G.op rfl (O.box (.of rfl) (OneC.agg (List.forall_mem_cons.2 ⟨(.val rfl), (List.forall_mem_cons.2 ⟨(.val rfl), (List.forall_mem_cons.2 ⟨.sl, (List.forall_mem_cons.2 ⟨.sl, (List.forall_mem_cons.2 ⟨.sl, (List.forall_mem_cons.2 ⟨.sl, (List.forall_mem_cons.2 ⟨.sl, (List.forall_mem_cons.2 ⟨.sl, (List.forall_mem_nil _)⟩)⟩)⟩)⟩)⟩)⟩)⟩)⟩))) fun g3 => ?_
 refine G.p rfl (V.assign rfl) ?_
 refine G.nil ?_
 refine G.norm (L' := [(1, .val (.pointer (some ⟨g3, 0, none⟩)))]) (is := [1]) (R' := [.cells g3 29 (lf_T_Program b0)]) (js := [0]) rfl rfl ?_
 refine G.next_ hK2 ?_
 refine G.seq fun K4 hK5 => ?_
 refine G.region ?_
 refine G.p rfl (V.assign rfl) ?_
 refine G.nil ?_
 refine G.norm (L' := [(1, .val (.pointer (some ⟨g3, 0, none⟩))), (3, .val (.slice none 0 0))]) (is := [1, 3]) (R' := [.cells g3 29 (lf_T_Program b0)]) (js := [0]) rfl rfl ?_
 refine G.next_ hK5 ?_
 refine G.seq fun K6 hK7 => ?_
 refine G.seq fun K8 hK9 => ?_
 refine G.region ?_
 refine G.p rfl (V.fieldAddr (o' := 3) rfl Try.runUnderlying29 rfl Try.sizeOf23 rfl) ?_
 refine G.q rfl (V.load_cell (i := 0) (ds := (lf_T_Program b0)) (d := eL e_T_Data 3 b0.fDatas) rfl rfl Try.isAgg23 rfl rfl) ?_
 refine G.lenb (enc := e_T_Data) (xs := b0.fDatas) (sz := 3) (x := .tmp 9) (.of rfl) fun hN10 => ?_
 refine G.p rfl (V.len_sl (enc := e_T_Data) (xs := b0.fDatas) (sz := 3) (.of rfl) Try.runUnderlying23) ?_
 refine G.p rfl (V.move rfl) ?_
 refine G.nil ?_
 refine G.norm (L' := [(3, .val (.slice none 0 0)), (9, eL e_T_Data 3 b0.fDatas), (10, .val (.int .i64 (b0.fDatas.length : Int))), (11, .val (.int .i64 0))]) (is := [3, 9, 10, 11]) (R' := []) (js := []) rfl rfl ?_
 refine G.next_ hK9 ?_
 refine G.join (E := fun b a w => ∃ (g_0 : Value), Ass Gl B 30 [(3, .val g_0)] [.row g_0 9 1 (b.map eS)] a w) ?_ ?_
 ·intro b hF18
  refine G.block ?_
  refine G.nilrow 9 1 none ?_
  refine G.norm (L' := [(3, .val (.slice none 0 0)), (9, eL e_T_Data 3 b0.fDatas), (10, .val (.int .i64 (b0.fDatas.length : Int))), (11, .val (.int .i64 ((0 : Nat) : Int)))]) (is := [3, 9, 10, 11]) (R' := [.row (.slice none 0 0) 9 1 (([] : List Str).map eS)]) (js := [0]) rfl rfl ?_
  refine G.loop (fun kq a w => ∃ (rest15 : List (T_Data)) (i13 : Nat) (x11 : List Str), kq = rest15.length ∧ roadref2_makersOf.l1 rest15 x11 = some b ∧ b0.fDatas.drop i13 = rest15 ∧ ∃ (g_0 : Value), Ass Gl B 30 [(3, .val g_0), (9, eL e_T_Data 3 b0.fDatas), (10, .val (.int .i64 (b0.fDatas.length : Int))), (11, .val (.int .i64 (i13 : Int)))] [.row g_0 9 1 (x11.map eS)] a w) (b0.fDatas.length) ?_ ?_
  ·intro hl68 a w hA
   exact ⟨b0.fDatas, 0, ([] : List Str), rfl, hl68, rfl, ⟨_, hA⟩⟩
  ·rintro _ a w ⟨rest15, i13, x11, rfl, hl19, hd16, ⟨g12, hA⟩⟩
   rcases rest15 with _ | ⟨y14, rest15⟩
   ·rw [roadref2_makersOf.l1_nil] at hl19
    refine G.use hl19 hA ?_
    refine G.seq fun K20 hK21 => ?_
    refine G.region ?_
    refine G.p rfl (V.bin (u := .int .i64 (i13 : Int)) (v := .int .i64 (b0.fDatas.length : Int)) (r := .bool (decide ((i13 : Int) < (b0.fDatas.length : Int)))) rfl rfl b_lss) ?_
    refine G.nil ?_
    refine G.norm (L' := [(3, .val g12), (9, eL e_T_Data 3 b0.fDatas), (10, .val (.int .i64 (b0.fDatas.length : Int))), (11, .val (.int .i64 (i13 : Int))), (12, .val (.bool (decide ((i13 : Int) < (b0.fDatas.length : Int)))))]) (is := [3, 9, 10, 11, 12]) (R' := [.row g12 9 1 (x11.map eS)]) (js := [0]) rfl rfl ?_
    refine G.next_ hK21 ?_
    refine G.seq fun K22 hK23 => ?_
    refine G.no rfl (rng_end hd16) ?_
    refine G.exit ?_
    refine G.thn_exit ?_
    refine G.thn_exit ?_
    refine G.inB_eq ?_
    refine G.norm (L' := [(3, .val g12)]) (is := [3]) (R' := [.row g12 9 1 (x11.map eS)]) (js := [0]) rfl rfl ?_
    exact G.finE fun hb a w hA => by subst hb; exact ⟨_, hA⟩
   ·rw [roadref2_makersOf.l1_cons] at hl19
    refine G.use hl19 hA ?_
    refine G.seq fun K24 hK25 => ?_
    refine G.region ?_
    refine G.p rfl (V.bin (u := .int .i64 (i13 : Int)) (v := .int .i64 (b0.fDatas.length : Int)) (r := .bool (decide ((i13 : Int) < (b0.fDatas.length : Int)))) rfl rfl b_lss) ?_
    refine G.nil ?_
    refine G.norm (L' := [(3, .val g12), (9, eL e_T_Data 3 b0.fDatas), (10, .val (.int .i64 (b0.fDatas.length : Int))), (11, .val (.int .i64 (i13 : Int))), (12, .val (.bool (decide ((i13 : Int) < (b0.fDatas.length : Int)))))]) (is := [3, 9, 10, 11, 12]) (R' := [.row g12 9 1 (x11.map eS)]) (js := [0]) rfl rfl ?_
    refine G.next_ hK25 ?_
    refine G.seq fun K26 hK27 => ?_
    refine G.yes rfl (rng_more hd16) ?_
    refine G.skip ?_
    refine G.next_ hK27 ?_
    refine G.seq fun K28 hK29 => ?_
    refine G.block ?_
    refine G.seq fun K30 hK31 => ?_
    refine G.region ?_
    refine G.p rfl (V.at_sl (k := i13) rfl rfl Try.runUnderlying23 Try.sizeOf73 (map_at (rng_at hd16))) ?_
    refine G.q rfl (V.load_ptrN (ds := (lf_T_Data y14)) rfl (e_T_Data_eq y14) Try.isAgg73 Try.sizeOf73 rfl) ?_
    refine G.op rfl (O.alloc (ds := [.val (bs ([] : Str)), .val (.slice none 0 0), .val (.slice none 0 0)]) Try.zeroValue73 rfl) fun g32 => ?_
    refine G.opn (O.store (i := 0) (o := 0) (ds := [.val (bs ([] : Str)), .val (.slice none 0 0), .val (.slice none 0 0)]) rfl (.of rfl) rfl (OneC.agg (List.forall_mem_cons.2 ⟨(.val rfl), (List.forall_mem_cons.2 ⟨.sl, (List.forall_mem_cons.2 ⟨.sl, (List.forall_mem_nil _)⟩)⟩)⟩)) Try.sizeOf73 rfl rfl) fun _ => ?_
    refine G.nil ?_
    refine G.norm (L' := [(3, .val g12), (5, .val (.pointer (some ⟨g32, 0, none⟩))), (9, eL e_T_Data 3 b0.fDatas), (10, .val (.int .i64 (b0.fDatas.length : Int))), (11, .val (.int .i64 (i13 : Int)))]) (is := [3, 5, 9, 10, 11]) (R' := [.cells g32 73 (lf_T_Data y14), .row g12 9 1 (x11.map eS)]) (js := [0, 0]) rfl rfl ?_
    refine G.next_ hK31 ?_
    refine G.seq fun K33 hK34 => ?_
    refine G.region ?_
    refine G.p rfl (V.fieldAddr (o' := 2) rfl Try.runUnderlying73 rfl Try.sizeOf71 rfl) ?_
    refine G.q rfl (V.load_cell (i := 0) (ds := (lf_T_Data y14)) (d := eL e_T_Make 2 y14.fMakes) rfl rfl Try.isAgg71 rfl rfl) ?_
    refine G.lenb (enc := e_T_Make) (xs := y14.fMakes) (sz := 2) (x := .tmp 16) (.of rfl) fun hN35 => ?_
    refine G.p rfl (V.len_sl (enc := e_T_Make) (xs := y14.fMakes) (sz := 2) (.of rfl) Try.runUnderlying71) ?_
    refine G.p rfl (V.move rfl) ?_
    refine G.nil ?_
    refine G.norm (L' := [(3, .val g12), (9, eL e_T_Data 3 b0.fDatas), (10, .val (.int .i64 (b0.fDatas.length : Int))), (11, .val (.int .i64 (i13 : Int))), (16, eL e_T_Make 2 y14.fMakes), (17, .val (.int .i64 (y14.fMakes.length : Int))), (18, .val (.int .i64 0))]) (is := [3, 9, 10, 11, 16, 17, 18]) (R' := [.row g12 9 1 (x11.map eS)]) (js := [1]) rfl rfl ?_
    refine G.next_ hK34 ?_
    refine G.join (E := fun b a w => ∃ (g_0 : Value), Ass Gl B 30 [(3, .val g_0), (9, eL e_T_Data 3 b0.fDatas), (10, .val (.int .i64 (b0.fDatas.length : Int))), (11, .val (.int .i64 (i13 : Int)))] [.row g_0 9 1 (b.map eS)] a w) ?_ ?_
    ·intro b hF43
     refine G.block ?_
     refine G.norm (L' := [(3, .val g12), (9, eL e_T_Data 3 b0.fDatas), (10, .val (.int .i64 (b0.fDatas.length : Int))), (11, .val (.int .i64 (i13 : Int))), (16, eL e_T_Make 2 y14.fMakes), (17, .val (.int .i64 (y14.fMakes.length : Int))), (18, .val (.int .i64 ((0 : Nat) : Int)))]) (is := [3, 9, 10, 11, 16, 17, 18]) (R' := [.row g12 9 1 (x11.map eS)]) (js := [0]) rfl rfl ?_
     refine G.loop (fun kq a w => ∃ (rest40 : List (T_Make)) (i38 : Nat) (x36 : List Str), kq = rest40.length ∧ roadref2_makersOf.l2 rest40 x36 = some b ∧ y14.fMakes.drop i38 = rest40 ∧ ∃ (g_0 : Value), Ass Gl B 30 [(3, .val g_0), (9, eL e_T_Data 3 b0.fDatas), (10, .val (.int .i64 (b0.fDatas.length : Int))), (11, .val (.int .i64 (i13 : Int))), (16, eL e_T_Make 2 y14.fMakes), (17, .val (.int .i64 (y14.fMakes.length : Int))), (18, .val (.int .i64 (i38 : Int)))] [.row g_0 9 1 (x36.map eS)] a w) (y14.fMakes.length) ?_ ?_
     ·intro hl63 a w hA
      exact ⟨y14.fMakes, 0, x11, rfl, hl63, rfl, ⟨_, hA⟩⟩
     ·rintro _ a w ⟨rest40, i38, x36, rfl, hl44, hd41, ⟨g37, hA⟩⟩
      rcases rest40 with _ | ⟨y39, rest40⟩
      ·rw [roadref2_makersOf.l2_nil] at hl44
       refine G.use hl44 hA ?_
       refine G.seq fun K45 hK46 => ?_
       refine G.region ?_
       refine G.p rfl (V.bin (u := .int .i64 (i38 : Int)) (v := .int .i64 (y14.fMakes.length : Int)) (r := .bool (decide ((i38 : Int) < (y14.fMakes.length : Int)))) rfl rfl b_lss) ?_
       refine G.nil ?_
       refine G.norm (L' := [(3, .val g37), (9, eL e_T_Data 3 b0.fDatas), (10, .val (.int .i64 (b0.fDatas.length : Int))), (11, .val (.int .i64 (i13 : Int))), (16, eL e_T_Make 2 y14.fMakes), (17, .val (.int .i64 (y14.fMakes.length : Int))), (18, .val (.int .i64 (i38 : Int))), (19, .val (.bool (decide ((i38 : Int) < (y14.fMakes.length : Int)))))]) (is := [3, 9, 10, 11, 16, 17, 18, 19]) (R' := [.row g37 9 1 (x36.map eS)]) (js := [0]) rfl rfl ?_
       refine G.next_ hK46 ?_
       refine G.seq fun K47 hK48 => ?_
       refine G.no rfl (rng_end hd41) ?_
       refine G.exit ?_
       refine G.thn_exit ?_
       refine G.thn_exit ?_
       refine G.inB_eq ?_
       refine G.norm (L' := [(3, .val g37), (9, eL e_T_Data 3 b0.fDatas), (10, .val (.int .i64 (b0.fDatas.length : Int))), (11, .val (.int .i64 (i13 : Int)))]) (is := [3, 9, 10, 11]) (R' := [.row g37 9 1 (x36.map eS)]) (js := [0]) rfl rfl ?_
       exact G.finE fun hb a w hA => by subst hb; exact ⟨_, hA⟩
      ·rw [roadref2_makersOf.l2_cons] at hl44
       refine G.use hl44 hA ?_
       refine G.seq fun K49 hK50 => ?_
       refine G.region ?_
       refine G.p rfl (V.bin (u := .int .i64 (i38 : Int)) (v := .int .i64 (y14.fMakes.length : Int)) (r := .bool (decide ((i38 : Int) < (y14.fMakes.length : Int)))) rfl rfl b_lss) ?_
       refine G.nil ?_
       refine G.norm (L' := [(3, .val g37), (9, eL e_T_Data 3 b0.fDatas), (10, .val (.int .i64 (b0.fDatas.length : Int))), (11, .val (.int .i64 (i13 : Int))), (16, eL e_T_Make 2 y14.fMakes), (17, .val (.int .i64 (y14.fMakes.length : Int))), (18, .val (.int .i64 (i38 : Int))), (19, .val (.bool (decide ((i38 : Int) < (y14.fMakes.length : Int)))))]) (is := [3, 9, 10, 11, 16, 17, 18, 19]) (R' := [.row g37 9 1 (x36.map eS)]) (js := [0]) rfl rfl ?_
       refine G.next_ hK50 ?_
       refine G.seq fun K51 hK52 => ?_
       refine G.yes rfl (rng_more hd41) ?_
       refine G.skip ?_
       refine G.next_ hK52 ?_
       refine G.seq fun K53 hK54 => ?_
       refine G.block ?_
       refine G.seq fun K55 hK56 => ?_
       refine G.region ?_
       refine G.p rfl (V.at_sl (k := i38) rfl rfl Try.runUnderlying71 Try.sizeOf77 (map_at (rng_at hd41))) ?_
       refine G.q rfl (V.load_ptrN (ds := [.val (bs y39.fName), eL e_T_Type 3 y39.fArgs]) rfl (e_T_Make_eq y39) Try.isAgg77 Try.sizeOf77 rfl) ?_
       refine G.op rfl (O.alloc (ds := [.val (bs ([] : Str)), .val (.slice none 0 0)]) Try.zeroValue77 rfl) fun g57 => ?_
       refine G.opn (O.store (i := 0) (o := 0) (ds := [.val (bs ([] : Str)), .val (.slice none 0 0)]) rfl (.of rfl) rfl (OneC.agg (List.forall_mem_cons.2 ⟨(.val rfl), (List.forall_mem_cons.2 ⟨.sl, (List.forall_mem_nil _)⟩)⟩)) Try.sizeOf77 rfl rfl) fun _ => ?_
       refine G.nil ?_
       refine G.norm (L' := [(3, .val g37), (7, .val (.pointer (some ⟨g57, 0, none⟩))), (9, eL e_T_Data 3 b0.fDatas), (10, .val (.int .i64 (b0.fDatas.length : Int))), (11, .val (.int .i64 (i13 : Int))), (16, eL e_T_Make 2 y14.fMakes), (17, .val (.int .i64 (y14.fMakes.length : Int))), (18, .val (.int .i64 (i38 : Int)))]) (is := [3, 7, 9, 10, 11, 16, 17, 18]) (R' := [.cells g57 77 [.val (bs y39.fName), eL e_T_Type 3 y39.fArgs], .row g37 9 1 (x36.map eS)]) (js := [0, 0]) rfl rfl ?_
       refine G.next_ hK56 ?_
       refine G.region ?_
       refine G.p rfl (V.move rfl) ?_
       refine G.p rfl (V.fieldAddr (o' := 0) rfl Try.runUnderlying77 rfl Try.sizeOf9 rfl) ?_
       refine G.q rfl (V.load_cell (i := 0) (ds := [.val (bs y39.fName), eL e_T_Type 3 y39.fArgs]) (d := .val (bs y39.fName)) rfl rfl Try.isAgg9 rfl rfl) ?_
       refine G.op rfl (O.buildSlice (xs := [.tmp 24]) (ds := ([y39.fName] : List Str).map eS) elt30 rfl (.cons (.of rfl) .nil) rfl (by decide) (List.forall_mem_cons.2 ⟨(fun c hc => ((fun _ => one_S) _ c hc).mono), (List.forall_mem_nil _)⟩) (List.forall_mem_cons.2 ⟨rfl, (List.forall_mem_nil _)⟩)) fun v58 => ?_
       refine G.bind fun l59 hl60 => ?_
       refine G.op rfl (O.append_row (i := 2) (j := 0) (enc := eS) (xs := x36) (ys := ([y39.fName] : List Str)) (lim := 8796093022208) elt30 rfl rfl rfl rfl (by decide) (by decide) (fun _ => one_S) hl60) fun v61 => ?_
       refine G.p rfl (V.assign rfl) ?_
       refine G.nil ?_
       refine G.norm (L' := [(3, .val v61), (9, eL e_T_Data 3 b0.fDatas), (10, .val (.int .i64 (b0.fDatas.length : Int))), (11, .val (.int .i64 (i13 : Int))), (16, eL e_T_Make 2 y14.fMakes), (17, .val (.int .i64 (y14.fMakes.length : Int))), (18, .val (.int .i64 (i38 : Int)))]) (is := [3, 9, 10, 11, 16, 17, 18]) (R' := [.row v61 9 1 (l59.map eS)]) (js := [2]) rfl rfl ?_
       refine G.inB ?_
       refine G.next_ hK54 ?_
       refine G.region ?_
       refine G.p rfl (V.incr (i := i38) (N := y14.fMakes.length) rfl rfl (rng_lt hd41) (hN35)) ?_
       refine G.p rfl (V.move rfl) ?_
       refine G.nil ?_
       refine G.norm (L' := [(3, .val v61), (9, eL e_T_Data 3 b0.fDatas), (10, .val (.int .i64 (b0.fDatas.length : Int))), (11, .val (.int .i64 (i13 : Int))), (16, eL e_T_Make 2 y14.fMakes), (17, .val (.int .i64 (y14.fMakes.length : Int))), (18, .val (.int .i64 ((i38 + 1 : Nat) : Int)))]) (is := [3, 9, 10, 11, 16, 17, 18]) (R' := [.row v61 9 1 (l59.map eS)]) (js := [0]) rfl rfl ?_
       refine G.again ?_
       intro hl62 a w hA
       exact ⟨_, Nat.lt_succ_self _, rest40, i38 + 1, l59, rfl, hl62, rng_next hd41, ⟨_, hA⟩⟩
    ·rintro b64 hb a w ⟨g65, hA⟩ hF66
     refine G.use hF66 hA ?_
     refine G.inB ?_
     refine G.next_ hK29 ?_
     refine G.region ?_
     refine G.p rfl (V.incr (i := i13) (N := b0.fDatas.length) rfl rfl (rng_lt hd16) (hN10)) ?_
     refine G.p rfl (V.move rfl) ?_
     refine G.nil ?_
     refine G.norm (L' := [(3, .val g65), (9, eL e_T_Data 3 b0.fDatas), (10, .val (.int .i64 (b0.fDatas.length : Int))), (11, .val (.int .i64 ((i13 + 1 : Nat) : Int)))]) (is := [3, 9, 10, 11]) (R' := [.row g65 9 1 (b64.map eS)]) (js := [0]) rfl rfl ?_
     refine G.again ?_
     intro hl67 a w hA
     exact ⟨_, Nat.lt_succ_self _, rest15, i13 + 1, b64, rfl, hl67, rng_next hd16, ⟨_, hA⟩⟩
 ·rintro b69 hb a w ⟨g70, hA⟩ hF71
  refine G.use hF71 hA ?_
  refine G.next_ hK7 ?_
  refine G.seq fun K72 hK73 => ?_
  refine G.region ?_
  refine G.p rfl (V.move rfl) ?_
  refine G.p rfl (V.assign rfl) ?_
  refine G.nil ?_
  refine G.norm (L' := [(2, .val g70)]) (is := [2]) (R' := [.row g70 9 1 (b69.map eS)]) (js := [0]) rfl rfl ?_
  refine G.next_ hK73 ?_
  refine G.ret ?_
  refine G.fin_ fun hF74 => ?_
  obtain rfl := Option.some.inj hF74
  exact G.ret1 Try.results23 g70 (is := [0]) (.of rfl) rfl
/-! roadstead/roadref2.callsOf -/
def roadref2_callsOf.l2  : List (T_Func) → (List Str) → Option (List Str)
  | [], x36 => some x36
  | y39 :: rest40, x36 => (app 8796093022208 x36 ([y39.fName] : List Str)).bind fun l59 => roadref2_callsOf.l2 rest40 l59

theorem roadref2_callsOf.l2_nil  {x36 : List Str} : roadref2_callsOf.l2  [] x36 = some x36 := rfl
theorem roadref2_callsOf.l2_cons  {y39 : T_Func} {rest40 : List (T_Func)} {x36 : List Str} : roadref2_callsOf.l2  (y39 :: rest40) x36 = (app 8796093022208 x36 ([y39.fName] : List Str)).bind fun l59 => roadref2_callsOf.l2 rest40 l59 := rfl
def roadref2_callsOf.l1  : List (T_Trait) → (List Str) → Option (List Str)
  | [], x11 => some x11
  | y14 :: rest15, x11 => (roadref2_callsOf.l2 y14.fFuncs x11).bind fun b64 => roadref2_callsOf.l1 rest15 b64

theorem roadref2_callsOf.l1_nil  {x11 : List Str} : roadref2_callsOf.l1  [] x11 = some x11 := rfl
theorem roadref2_callsOf.l1_cons  {y14 : T_Trait} {rest15 : List (T_Trait)} {x11 : List Str} : roadref2_callsOf.l1  (y14 :: rest15) x11 = (roadref2_callsOf.l2 y14.fFuncs x11).bind fun b64 => roadref2_callsOf.l1 rest15 b64 := rfl
def roadref2_callsOf.l3  : List (T_Func) → (List Str) → Option (List Str)
  | [], x77 => some x77
  | y80 :: rest81, x77 => (app 8796093022208 x77 ([y80.fName] : List Str)).bind fun l100 => roadref2_callsOf.l3 rest81 l100

theorem roadref2_callsOf.l3_nil  {x77 : List Str} : roadref2_callsOf.l3  [] x77 = some x77 := rfl
theorem roadref2_callsOf.l3_cons  {y80 : T_Func} {rest81 : List (T_Func)} {x77 : List Str} : roadref2_callsOf.l3  (y80 :: rest81) x77 = (app 8796093022208 x77 ([y80.fName] : List Str)).bind fun l100 => roadref2_callsOf.l3 rest81 l100 := rfl
def roadref2_callsOf.Spec (F : T_Program → Option (List Str)) : Prop := ∀ {b0 : T_Program} {out : List Str}, F b0 = some out → Ct Gl Try.prog 24 [.agg (lf_T_Program b0)] [] (fun x : Value => .val x) (fun x : Value => [.row x 9 1 (out.map eS)])
def roadref2_callsOf (b0 : T_Program) : Option (List Str) := (roadref2_callsOf.l1 b0.fTraits ([] : List Str)).bind fun b69 => (roadref2_callsOf.l3 b0.fFuncs b69).bind fun b105 => some b105
set_option maxRecDepth 100000 in
theorem roadref2_callsOf_ok : roadref2_callsOf.Spec (roadref2_callsOf) := by
 intro b0 out hp
 refine ct_of_G (nt := 45) Try.func24 rfl Try.ntmps24 rfl (fun B => ?_) hp
 unfold roadref2_callsOf
 refine G.seq fun K1 hK2 => ?_
 refine G.region ?_
 refine G.op rfl (O.box (.of rfl) (OneC.agg (List.forall_mem_cons.2 ⟨(.val rfl), (List.forall_mem_cons.2 ⟨(.val rfl), (List.forall_mem_cons.2 ⟨.sl, (List.forall_mem_cons.2 ⟨.sl, (List.forall_mem_cons.2 ⟨.sl, (List.forall_mem_cons.2 ⟨.sl, (List.forall_mem_cons.2 ⟨.sl, (List.forall_mem_cons.2 ⟨.sl, (List.forall_mem_nil _)⟩)⟩)⟩)⟩)⟩)⟩)⟩)⟩))) fun g3 => ?_
 refine G.p rfl (V.assign rfl) ?_
 refine G.nil ?_
 refine G.norm (L' := [(1, .val (.pointer (some ⟨g3, 0, none⟩)))]) (is := [1]) (R' := [.cells g3 29 (lf_T_Program b0)]) (js := [0]) rfl rfl ?_
 refine G.next_ hK2 ?_
 refine G.seq fun K4 hK5 => ?_
 refine G.region ?_
 refine G.p rfl (V.assign rfl) ?_
 refine G.nil ?_
 refine G.norm (L' := [(1, .val (.pointer (some ⟨g3, 0, none⟩))), (3, .val (.slice none 0 0))]) (is := [1, 3]) (R' := [.cells g3 29 (lf_T_Program b0)]) (js := [0]) rfl rfl ?_
 refine G.next_ hK5 ?_
 refine G.seq fun K6 hK7 => ?_
 refine G.seq fun K8 hK9 => ?_
 refine G.region ?_
 refine G.p rfl (V.fieldAddr (o' := 4) rfl Try.runUnderlying29 rfl Try.sizeOf24 rfl) ?_
 refine G.q rfl (V.load_cell (i := 0) (ds := (lf_T_Program b0)) (d := eL e_T_Trait 2 b0.fTraits) rfl rfl Try.isAgg24 rfl rfl) ?_
 refine G.lenb (enc := e_T_Trait) (xs := b0.fTraits) (sz := 2) (x := .tmp 11) (.of rfl) fun hN10 => ?_
 refine G.p rfl (V.len_sl (enc := e_T_Trait) (xs := b0.fTraits) (sz := 2) (.of rfl) Try.runUnderlying24) ?_
 refine G.p rfl (V.move rfl) ?_
 refine G.nil ?_
 refine G.norm (L' := [(1, .val (.pointer (some ⟨g3, 0, none⟩))), (3, .val (.slice none 0 0)), (11, eL e_T_Trait 2 b0.fTraits), (12, .val (.int .i64 (b0.fTraits.length : Int))), (13, .val (.int .i64 0))]) (is := [1, 3, 11, 12, 13]) (R' := [.cells g3 29 (lf_T_Program b0)]) (js := [0]) rfl rfl ?_
 refine G.next_ hK9 ?_
 refine G.join (E := fun b a w => ∃ (g_0 : Value), Ass Gl B 45 [(1, .val (.pointer (some ⟨g3, 0, none⟩))), (3, .val g_0)] [.cells g3 29 (lf_T_Program b0), .row g_0 9 1 (b.map eS)] a w) ?_ ?_
 ·intro b hF18
  refine G.block ?_
  refine G.nilrow 9 1 none ?_
  refine G.norm (L' := [(1, .val (.pointer (some ⟨g3, 0, none⟩))), (3, .val (.slice none 0 0)), (11, eL e_T_Trait 2 b0.fTraits), (12, .val (.int .i64 (b0.fTraits.length : Int))), (13, .val (.int .i64 ((0 : Nat) : Int)))]) (is := [1, 3, 11, 12, 13]) (R' := [.cells g3 29 (lf_T_Program b0), .row (.slice none 0 0) 9 1 (([] : List Str).map eS)]) (js := [1, 0]) rfl rfl ?_
  refine G.loop (fun kq a w => ∃ (rest15 : List (T_Trait)) (i13 : Nat) (x11 : List Str), kq = rest15.length ∧ roadref2_callsOf.l1 rest15 x11 = some b ∧ b0.fTraits.drop i13 = rest15 ∧ ∃ (g_0 : Value), Ass Gl B 45 [(1, .val (.pointer (some ⟨g3, 0, none⟩))), (3, .val g_0), (11, eL e_T_Trait 2 b0.fTraits), (12, .val (.int .i64 (b0.fTraits.length : Int))), (13, .val (.int .i64 (i13 : Int)))] [.cells g3 29 (lf_T_Program b0), .row g_0 9 1 (x11.map eS)] a w) (b0.fTraits.length) ?_ ?_
  ·intro hl68 a w hA
   exact ⟨b0.fTraits, 0, ([] : List Str), rfl, hl68, rfl, ⟨_, hA⟩⟩
  ·rintro _ a w ⟨rest15, i13, x11, rfl, hl19, hd16, ⟨g12, hA⟩⟩
   rcases rest15 with _ | ⟨y14, rest15⟩
   ·rw [roadref2_callsOf.l1_nil] at hl19
    refine G.use hl19 hA ?_
    refine G.seq fun K20 hK21 => ?_
    refine G.region ?_
    refine G.p rfl (V.bin (u := .int .i64 (i13 : Int)) (v := .int .i64 (b0.fTraits.length : Int)) (r := .bool (decide ((i13 : Int) < (b0.fTraits.length : Int)))) rfl rfl b_lss) ?_
    refine G.nil ?_
    refine G.norm (L' := [(1, .val (.pointer (some ⟨g3, 0, none⟩))), (3, .val g12), (11, eL e_T_Trait 2 b0.fTraits), (12, .val (.int .i64 (b0.fTraits.length : Int))), (13, .val (.int .i64 (i13 : Int))), (14, .val (.bool (decide ((i13 : Int) < (b0.fTraits.length : Int)))))]) (is := [1, 3, 11, 12, 13, 14]) (R' := [.cells g3 29 (lf_T_Program b0), .row g12 9 1 (x11.map eS)]) (js := [0, 0]) rfl rfl ?_
    refine G.next_ hK21 ?_
    refine G.seq fun K22 hK23 => ?_
    refine G.no rfl (rng_end hd16) ?_
    refine G.exit ?_
    refine G.thn_exit ?_
    refine G.thn_exit ?_
    refine G.inB_eq ?_
    refine G.norm (L' := [(1, .val (.pointer (some ⟨g3, 0, none⟩))), (3, .val g12)]) (is := [1, 3]) (R' := [.cells g3 29 (lf_T_Program b0), .row g12 9 1 (x11.map eS)]) (js := [0, 0]) rfl rfl ?_
    exact G.finE fun hb a w hA => by subst hb; exact ⟨_, hA⟩
   ·rw [roadref2_callsOf.l1_cons] at hl19
    refine G.use hl19 hA ?_
    refine G.seq fun K24 hK25 => ?_
    refine G.region ?_
    refine G.p rfl (V.bin (u := .int .i64 (i13 : Int)) (v := .int .i64 (b0.fTraits.length : Int)) (r := .bool (decide ((i13 : Int) < (b0.fTraits.length : Int)))) rfl rfl b_lss) ?_
    refine G.nil ?_
    refine G.norm (L' := [(1, .val (.pointer (some ⟨g3, 0, none⟩))), (3, .val g12), (11, eL e_T_Trait 2 b0.fTraits), (12, .val (.int .i64 (b0.fTraits.length : Int))), (13, .val (.int .i64 (i13 : Int))), (14, .val (.bool (decide ((i13 : Int) < (b0.fTraits.length : Int)))))]) (is := [1, 3, 11, 12, 13, 14]) (R' := [.cells g3 29 (lf_T_Program b0), .row g12 9 1 (x11.map eS)]) (js := [0, 0]) rfl rfl ?_
    refine G.next_ hK25 ?_
    refine G.seq fun K26 hK27 => ?_
    refine G.yes rfl (rng_more hd16) ?_
    refine G.skip ?_
    refine G.next_ hK27 ?_
    refine G.seq fun K28 hK29 => ?_
    refine G.block ?_
    refine G.seq fun K30 hK31 => ?_
    refine G.region ?_
    refine G.p rfl (V.at_sl (k := i13) rfl rfl Try.runUnderlying24 Try.sizeOf55 (map_at (rng_at hd16))) ?_
    refine G.q rfl (V.load_ptrN (ds := [.val (bs y14.fName), eL e_T_Func 15 y14.fFuncs]) rfl (e_T_Trait_eq y14) Try.isAgg55 Try.sizeOf55 rfl) ?_
    refine G.op rfl (O.alloc (ds := [.val (bs ([] : Str)), .val (.slice none 0 0)]) Try.zeroValue55 rfl) fun g32 => ?_
    refine G.opn (O.store (i := 0) (o := 0) (ds := [.val (bs ([] : Str)), .val (.slice none 0 0)]) rfl (.of rfl) rfl (OneC.agg (List.forall_mem_cons.2 ⟨(.val rfl), (List.forall_mem_cons.2 ⟨.sl, (List.forall_mem_nil _)⟩)⟩)) Try.sizeOf55 rfl rfl) fun _ => ?_
    refine G.nil ?_
    refine G.norm (L' := [(1, .val (.pointer (some ⟨g3, 0, none⟩))), (3, .val g12), (5, .val (.pointer (some ⟨g32, 0, none⟩))), (11, eL e_T_Trait 2 b0.fTraits), (12, .val (.int .i64 (b0.fTraits.length : Int))), (13, .val (.int .i64 (i13 : Int)))]) (is := [1, 3, 5, 11, 12, 13]) (R' := [.cells g32 55 [.val (bs y14.fName), eL e_T_Func 15 y14.fFuncs], .cells g3 29 (lf_T_Program b0), .row g12 9 1 (x11.map eS)]) (js := [0, 0, 0]) rfl rfl ?_
    refine G.next_ hK31 ?_
    refine G.seq fun K33 hK34 => ?_
    refine G.region ?_
    refine G.p rfl (V.fieldAddr (o' := 1) rfl Try.runUnderlying55 rfl Try.sizeOf26 rfl) ?_
    refine G.q rfl (V.load_cell (i := 0) (ds := [.val (bs y14.fName), eL e_T_Func 15 y14.fFuncs]) (d := eL e_T_Func 15 y14.fFuncs) rfl rfl Try.isAgg26 rfl rfl) ?_
    refine G.lenb (enc := e_T_Func) (xs := y14.fFuncs) (sz := 15) (x := .tmp 18) (.of rfl) fun hN35 => ?_
    refine G.p rfl (V.len_sl (enc := e_T_Func) (xs := y14.fFuncs) (sz := 15) (.of rfl) Try.runUnderlying26) ?_
    refine G.p rfl (V.move rfl) ?_
    refine G.nil ?_
    refine G.norm (L' := [(1, .val (.pointer (some ⟨g3, 0, none⟩))), (3, .val g12), (11, eL e_T_Trait 2 b0.fTraits), (12, .val (.int .i64 (b0.fTraits.length : Int))), (13, .val (.int .i64 (i13 : Int))), (18, eL e_T_Func 15 y14.fFuncs), (19, .val (.int .i64 (y14.fFuncs.length : Int))), (20, .val (.int .i64 0))]) (is := [1, 3, 11, 12, 13, 18, 19, 20]) (R' := [.cells g3 29 (lf_T_Program b0), .row g12 9 1 (x11.map eS)]) (js := [1, 1]) rfl rfl ?_
    refine G.next_ hK34 ?_
    refine G.join (E := fun b a w => ∃ (g_0 : Value), Ass Gl B 45 [(1, .val (.pointer (some ⟨g3, 0, none⟩))), (3, .val g_0), (11, eL e_T_Trait 2 b0.fTraits), (12, .val (.int .i64 (b0.fTraits.length : Int))), (13, .val (.int .i64 (i13 : Int)))] [.cells g3 29 (lf_T_Program b0), .row g_0 9 1 (b.map eS)] a w) ?_ ?_
    ·intro b hF43
     refine G.block ?_
     refine G.norm (L' := [(1, .val (.pointer (some ⟨g3, 0, none⟩))), (3, .val g12), (11, eL e_T_Trait 2 b0.fTraits), (12, .val (.int .i64 (b0.fTraits.length : Int))), (13, .val (.int .i64 (i13 : Int))), (18, eL e_T_Func 15 y14.fFuncs), (19, .val (.int .i64 (y14.fFuncs.length : Int))), (20, .val (.int .i64 ((0 : Nat) : Int)))]) (is := [1, 3, 11, 12, 13, 18, 19, 20]) (R' := [.cells g3 29 (lf_T_Program b0), .row g12 9 1 (x11.map eS)]) (js := [0, 0]) rfl rfl ?_
     refine G.loop (fun kq a w => ∃ (rest40 : List (T_Func)) (i38 : Nat) (x36 : List Str), kq = rest40.length ∧ roadref2_callsOf.l2 rest40 x36 = some b ∧ y14.fFuncs.drop i38 = rest40 ∧ ∃ (g_0 : Value), Ass Gl B 45 [(1, .val (.pointer (some ⟨g3, 0, none⟩))), (3, .val g_0), (11, eL e_T_Trait 2 b0.fTraits), (12, .val (.int .i64 (b0.fTraits.length : Int))), (13, .val (.int .i64 (i13 : Int))), (18, eL e_T_Func 15 y14.fFuncs), (19, .val (.int .i64 (y14.fFuncs.length : Int))), (20, .val (.int .i64 (i38 : Int)))] [.cells g3 29 (lf_T_Program b0), .row g_0 9 1 (x36.map eS)] a w) (y14.fFuncs.length) ?_ ?_
     ·intro hl63 a w hA
      exact ⟨y14.fFuncs, 0, x11, rfl, hl63, rfl, ⟨_, hA⟩⟩
     ·rintro _ a w ⟨rest40, i38, x36, rfl, hl44, hd41, ⟨g37, hA⟩⟩
      rcases rest40 with _ | ⟨y39, rest40⟩
      ·rw [roadref2_callsOf.l2_nil] at hl44
       refine G.use hl44 hA ?_
       refine G.seq fun K45 hK46 => ?_
       refine G.region ?_
       refine G.p rfl (V.bin (u := .int .i64 (i38 : Int)) (v := .int .i64 (y14.fFuncs.length : Int)) (r := .bool (decide ((i38 : Int) < (y14.fFuncs.length : Int)))) rfl rfl b_lss) ?_
       refine G.nil ?_
       refine G.norm (L' := [(1, .val (.pointer (some ⟨g3, 0, none⟩))), (3, .val g37), (11, eL e_T_Trait 2 b0.fTraits), (12, .val (.int .i64 (b0.fTraits.length : Int))), (13, .val (.int .i64 (i13 : Int))), (18, eL e_T_Func 15 y14.fFuncs), (19, .val (.int .i64 (y14.fFuncs.length : Int))), (20, .val (.int .i64 (i38 : Int))), (21, .val (.bool (decide ((i38 : Int) < (y14.fFuncs.length : Int)))))]) (is := [1, 3, 11, 12, 13, 18, 19, 20, 21]) (R' := [.cells g3 29 (lf_T_Program b0), .row g37 9 1 (x36.map eS)]) (js := [0, 0]) rfl rfl ?_
       refine G.next_ hK46 ?_
       refine G.seq fun K47 hK48 => ?_
       refine G.no rfl (rng_end hd41) ?_
       refine G.exit ?_
       refine G.thn_exit ?_
       refine G.thn_exit ?_
       refine G.inB_eq ?_
       refine G.norm (L' := [(1, .val (.pointer (some ⟨g3, 0, none⟩))), (3, .val g37), (11, eL e_T_Trait 2 b0.fTraits), (12, .val (.int .i64 (b0.fTraits.length : Int))), (13, .val (.int .i64 (i13 : Int)))]) (is := [1, 3, 11, 12, 13]) (R' := [.cells g3 29 (lf_T_Program b0), .row g37 9 1 (x36.map eS)]) (js := [0, 0]) rfl rfl ?_
       exact G.finE fun hb a w hA => by subst hb; exact ⟨_, hA⟩
      ·rw [roadref2_callsOf.l2_cons] at hl44
       refine G.use hl44 hA ?_
       refine G.seq fun K49 hK50 => ?_
       refine G.region ?_
       refine G.p rfl (V.bin (u := .int .i64 (i38 : Int)) (v := .int .i64 (y14.fFuncs.length : Int)) (r := .bool (decide ((i38 : Int) < (y14.fFuncs.length : Int)))) rfl rfl b_lss) ?_
       refine G.nil ?_
       refine G.norm (L' := [(1, .val (.pointer (some ⟨g3, 0, none⟩))), (3, .val g37), (11, eL e_T_Trait 2 b0.fTraits), (12, .val (.int .i64 (b0.fTraits.length : Int))), (13, .val (.int .i64 (i13 : Int))), (18, eL e_T_Func 15 y14.fFuncs), (19, .val (.int .i64 (y14.fFuncs.length : Int))), (20, .val (.int .i64 (i38 : Int))), (21, .val (.bool (decide ((i38 : Int) < (y14.fFuncs.length : Int)))))]) (is := [1, 3, 11, 12, 13, 18, 19, 20, 21]) (R' := [.cells g3 29 (lf_T_Program b0), .row g37 9 1 (x36.map eS)]) (js := [0, 0]) rfl rfl ?_
       refine G.next_ hK50 ?_
       refine G.seq fun K51 hK52 => ?_
       refine G.yes rfl (rng_more hd41) ?_
       refine G.skip ?_
       refine G.next_ hK52 ?_
       refine G.seq fun K53 hK54 => ?_
       refine G.block ?_
       refine G.seq fun K55 hK56 => ?_
       refine G.region ?_
       refine G.p rfl (V.at_sl (k := i38) rfl rfl Try.runUnderlying26 Try.sizeOf59 (map_at (rng_at hd41))) ?_
       refine G.q rfl (V.load_ptrN (ds := (lf_T_Func y39)) rfl (e_T_Func_eq y39) Try.isAgg59 Try.sizeOf59 rfl) ?_
       refine G.op rfl (O.alloc (ds := [.val (bs ([] : Str)), .val (.slice none 0 0), .val (.slice none 0 0), .val (.slice none 0 0), .val (.int .i64 0), .val (bs ([] : Str)), .val (.slice none 0 0), .val (.int .i64 0), .val (.int .i64 0), .val (bs ([] : Str)), .val (.slice none 0 0), .val (.slice none 0 0), .val (.slice none 0 0), .val (.slice none 0 0), .val (.int .i64 0)]) Try.zeroValue59 rfl) fun g57 => ?_
       refine G.opn (O.store (i := 0) (o := 0) (ds := [.val (bs ([] : Str)), .val (.slice none 0 0), .val (.slice none 0 0), .val (.slice none 0 0), .val (.int .i64 0), .val (bs ([] : Str)), .val (.slice none 0 0), .val (.int .i64 0), .val (.int .i64 0), .val (bs ([] : Str)), .val (.slice none 0 0), .val (.slice none 0 0), .val (.slice none 0 0), .val (.slice none 0 0), .val (.int .i64 0)]) rfl (.of rfl) rfl (OneC.agg (List.forall_mem_cons.2 ⟨(.val rfl), (List.forall_mem_cons.2 ⟨.sl, (List.forall_mem_cons.2 ⟨.sl, (List.forall_mem_cons.2 ⟨.sl, (List.forall_mem_cons.2 ⟨(.val rfl), (List.forall_mem_cons.2 ⟨(.val rfl), (List.forall_mem_cons.2 ⟨.sl, (List.forall_mem_cons.2 ⟨(.val rfl), (List.forall_mem_cons.2 ⟨(.val rfl), (List.forall_mem_cons.2 ⟨(.val rfl), (List.forall_mem_cons.2 ⟨.sl, (List.forall_mem_cons.2 ⟨.sl, (List.forall_mem_cons.2 ⟨.sl, (List.forall_mem_cons.2 ⟨.sl, (List.forall_mem_cons.2 ⟨(.val rfl), (List.forall_mem_nil _)⟩)⟩)⟩)⟩)⟩)⟩)⟩)⟩)⟩)⟩)⟩)⟩)⟩)⟩)⟩)) Try.sizeOf59 rfl rfl) fun _ => ?_
       refine G.nil ?_
       refine G.norm (L' := [(1, .val (.pointer (some ⟨g3, 0, none⟩))), (3, .val g37), (7, .val (.pointer (some ⟨g57, 0, none⟩))), (11, eL e_T_Trait 2 b0.fTraits), (12, .val (.int .i64 (b0.fTraits.length : Int))), (13, .val (.int .i64 (i13 : Int))), (18, eL e_T_Func 15 y14.fFuncs), (19, .val (.int .i64 (y14.fFuncs.length : Int))), (20, .val (.int .i64 (i38 : Int)))]) (is := [1, 3, 7, 11, 12, 13, 18, 19, 20]) (R' := [.cells g57 59 (lf_T_Func y39), .cells g3 29 (lf_T_Program b0), .row g37 9 1 (x36.map eS)]) (js := [0, 0, 0]) rfl rfl ?_
       refine G.next_ hK56 ?_
       refine G.region ?_
       refine G.p rfl (V.move rfl) ?_
       refine G.p rfl (V.fieldAddr (o' := 0) rfl Try.runUnderlying59 rfl Try.sizeOf9 rfl) ?_
       refine G.q rfl (V.load_cell (i := 0) (ds := (lf_T_Func y39)) (d := .val (bs y39.fName)) rfl rfl Try.isAgg9 rfl rfl) ?_
       refine G.op rfl (O.buildSlice (xs := [.tmp 26]) (ds := ([y39.fName] : List Str).map eS) elt30 rfl (.cons (.of rfl) .nil) rfl (by decide) (List.forall_mem_cons.2 ⟨(fun c hc => ((fun _ => one_S) _ c hc).mono), (List.forall_mem_nil _)⟩) (List.forall_mem_cons.2 ⟨rfl, (List.forall_mem_nil _)⟩)) fun v58 => ?_
       refine G.bind fun l59 hl60 => ?_
       refine G.op rfl (O.append_row (i := 3) (j := 0) (enc := eS) (xs := x36) (ys := ([y39.fName] : List Str)) (lim := 8796093022208) elt30 rfl rfl rfl rfl (by decide) (by decide) (fun _ => one_S) hl60) fun v61 => ?_
       refine G.p rfl (V.assign rfl) ?_
       refine G.nil ?_
       refine G.norm (L' := [(1, .val (.pointer (some ⟨g3, 0, none⟩))), (3, .val v61), (11, eL e_T_Trait 2 b0.fTraits), (12, .val (.int .i64 (b0.fTraits.length : Int))), (13, .val (.int .i64 (i13 : Int))), (18, eL e_T_Func 15 y14.fFuncs), (19, .val (.int .i64 (y14.fFuncs.length : Int))), (20, .val (.int .i64 (i38 : Int)))]) (is := [1, 3, 11, 12, 13, 18, 19, 20]) (R' := [.cells g3 29 (lf_T_Program b0), .row v61 9 1 (l59.map eS)]) (js := [2, 2]) rfl rfl ?_
       refine G.inB ?_
       refine G.next_ hK54 ?_
       refine G.region ?_
       refine G.p rfl (V.incr (i := i38) (N := y14.fFuncs.length) rfl rfl (rng_lt hd41) (hN35)) ?_
       refine G.p rfl (V.move rfl) ?_
       refine G.nil ?_
       refine G.norm (L' := [(1, .val (.pointer (some ⟨g3, 0, none⟩))), (3, .val v61), (11, eL e_T_Trait 2 b0.fTraits), (12, .val (.int .i64 (b0.fTraits.length : Int))), (13, .val (.int .i64 (i13 : Int))), (18, eL e_T_Func 15 y14.fFuncs), (19, .val (.int .i64 (y14.fFuncs.length : Int))), (20, .val (.int .i64 ((i38 + 1 : Nat) : Int)))]) (is := [1, 3, 11, 12, 13, 18, 19, 20]) (R' := [.cells g3 29 (lf_T_Program b0), .row v61 9 1 (l59.map eS)]) (js := [0, 0]) rfl rfl ?_
       refine G.again ?_
       intro hl62 a w hA
       exact ⟨_, Nat.lt_succ_self _, rest40, i38 + 1, l59, rfl, hl62, rng_next hd41, ⟨_, hA⟩⟩
    ·rintro b64 hb a w ⟨g65, hA⟩ hF66
     refine G.use hF66 hA ?_
     refine G.inB ?_
     refine G.next_ hK29 ?_
     refine G.region ?_
     refine G.p rfl (V.incr (i := i13) (N := b0.fTraits.length) rfl rfl (rng_lt hd16) (hN10)) ?_
     refine G.p rfl (V.move rfl) ?_
     refine G.nil ?_
     refine G.norm (L' := [(1, .val (.pointer (some ⟨g3, 0, none⟩))), (3, .val g65), (11, eL e_T_Trait 2 b0.fTraits), (12, .val (.int .i64 (b0.fTraits.length : Int))), (13, .val (.int .i64 ((i13 + 1 : Nat) : Int)))]) (is := [1, 3, 11, 12, 13]) (R' := [.cells g3 29 (lf_T_Program b0), .row g65 9 1 (b64.map eS)]) (js := [0, 0]) rfl rfl ?_
     refine G.again ?_
     intro hl67 a w hA
     exact ⟨_, Nat.lt_succ_self _, rest15, i13 + 1, b64, rfl, hl67, rng_next hd16, ⟨_, hA⟩⟩
 ·rintro b69 hb a w ⟨g70, hA⟩ hF71
  refine G.use hF71 hA ?_
  refine G.next_ hK7 ?_
  refine G.seq fun K72 hK73 => ?_
  refine G.seq fun K74 hK75 => ?_
  refine G.region ?_
  refine G.p rfl (V.fieldAddr (o' := 6) rfl Try.runUnderlying29 rfl Try.sizeOf26 rfl) ?_
  refine G.q rfl (V.load_cell (i := 0) (ds := (lf_T_Program b0)) (d := eL e_T_Func 15 b0.fFuncs) rfl rfl Try.isAgg26 rfl rfl) ?_
  refine G.lenb (enc := e_T_Func) (xs := b0.fFuncs) (sz := 15) (x := .tmp 32) (.of rfl) fun hN76 => ?_
  refine G.p rfl (V.len_sl (enc := e_T_Func) (xs := b0.fFuncs) (sz := 15) (.of rfl) Try.runUnderlying26) ?_
  refine G.p rfl (V.move rfl) ?_
  refine G.nil ?_
  refine G.norm (L' := [(3, .val g70), (32, eL e_T_Func 15 b0.fFuncs), (33, .val (.int .i64 (b0.fFuncs.length : Int))), (34, .val (.int .i64 0))]) (is := [3, 32, 33, 34]) (R' := [.row g70 9 1 (b69.map eS)]) (js := [1]) rfl rfl ?_
  refine G.next_ hK75 ?_
  refine G.join (E := fun b a w => ∃ (g_0 : Value), Ass Gl B 45 [(3, .val g_0)] [.row g_0 9 1 (b.map eS)] a w) ?_ ?_
  ·intro b hF84
   refine G.block ?_
   refine G.norm (L' := [(3, .val g70), (32, eL e_T_Func 15 b0.fFuncs), (33, .val (.int .i64 (b0.fFuncs.length : Int))), (34, .val (.int .i64 ((0 : Nat) : Int)))]) (is := [3, 32, 33, 34]) (R' := [.row g70 9 1 (b69.map eS)]) (js := [0]) rfl rfl ?_
   refine G.loop (fun kq a w => ∃ (rest81 : List (T_Func)) (i79 : Nat) (x77 : List Str), kq = rest81.length ∧ roadref2_callsOf.l3 rest81 x77 = some b ∧ b0.fFuncs.drop i79 = rest81 ∧ ∃ (g_0 : Value), Ass Gl B 45 [(3, .val g_0), (32, eL e_T_Func 15 b0.fFuncs), (33, .val (.int .i64 (b0.fFuncs.length : Int))), (34, .val (.int .i64 (i79 : Int)))] [.row g_0 9 1 (x77.map eS)] a w) (b0.fFuncs.length) ?_ ?_
   ·intro hl104 a w hA
    exact ⟨b0.fFuncs, 0, b69, rfl, hl104, rfl, ⟨_, hA⟩⟩
   ·rintro _ a w ⟨rest81, i79, x77, rfl, hl85, hd82, ⟨g78, hA⟩⟩
    rcases rest81 with _ | ⟨y80, rest81⟩
    ·rw [roadref2_callsOf.l3_nil] at hl85
     refine G.use hl85 hA ?_
     refine G.seq fun K86 hK87 => ?_
     refine G.region ?_
     refine G.p rfl (V.bin (u := .int .i64 (i79 : Int)) (v := .int .i64 (b0.fFuncs.length : Int)) (r := .bool (decide ((i79 : Int) < (b0.fFuncs.length : Int)))) rfl rfl b_lss) ?_
     refine G.nil ?_
     refine G.norm (L' := [(3, .val g78), (32, eL e_T_Func 15 b0.fFuncs), (33, .val (.int .i64 (b0.fFuncs.length : Int))), (34, .val (.int .i64 (i79 : Int))), (35, .val (.bool (decide ((i79 : Int) < (b0.fFuncs.length : Int)))))]) (is := [3, 32, 33, 34, 35]) (R' := [.row g78 9 1 (x77.map eS)]) (js := [0]) rfl rfl ?_
     refine G.next_ hK87 ?_
     refine G.seq fun K88 hK89 => ?_
     refine G.no rfl (rng_end hd82) ?_
     refine G.exit ?_
     refine G.thn_exit ?_
     refine G.thn_exit ?_
     refine G.inB_eq ?_
     refine G.norm (L' := [(3, .val g78)]) (is := [3]) (R' := [.row g78 9 1 (x77.map eS)]) (js := [0]) rfl rfl ?_
     exact G.finE fun hb a w hA => by subst hb; exact ⟨_, hA⟩
    ·rw [roadref2_callsOf.l3_cons] at hl85
     refine G.use hl85 hA ?_
     refine G.seq fun K90 hK91 => ?_
     refine G.region ?_
     refine G.p rfl (V.bin (u := .int .i64 (i79 : Int)) (v := .int .i64 (b0.fFuncs.length : Int)) (r := .bool (decide ((i79 : Int) < (b0.fFuncs.length : Int)))) rfl rfl b_lss) ?_
     refine G.nil ?_
     refine G.norm (L' := [(3, .val g78), (32, eL e_T_Func 15 b0.fFuncs), (33, .val (.int .i64 (b0.fFuncs.length : Int))), (34, .val (.int .i64 (i79 : Int))), (35, .val (.bool (decide ((i79 : Int) < (b0.fFuncs.length : Int)))))]) (is := [3, 32, 33, 34, 35]) (R' := [.row g78 9 1 (x77.map eS)]) (js := [0]) rfl rfl ?_
     refine G.next_ hK91 ?_
     refine G.seq fun K92 hK93 => ?_
     refine G.yes rfl (rng_more hd82) ?_
     refine G.skip ?_
     refine G.next_ hK93 ?_
     refine G.seq fun K94 hK95 => ?_
     refine G.block ?_
     refine G.seq fun K96 hK97 => ?_
     refine G.region ?_
     refine G.p rfl (V.at_sl (k := i79) rfl rfl Try.runUnderlying26 Try.sizeOf59 (map_at (rng_at hd82))) ?_
     refine G.q rfl (V.load_ptrN (ds := (lf_T_Func y80)) rfl (e_T_Func_eq y80) Try.isAgg59 Try.sizeOf59 rfl) ?_
     refine G.op rfl (O.alloc (ds := [.val (bs ([] : Str)), .val (.slice none 0 0), .val (.slice none 0 0), .val (.slice none 0 0), .val (.int .i64 0), .val (bs ([] : Str)), .val (.slice none 0 0), .val (.int .i64 0), .val (.int .i64 0), .val (bs ([] : Str)), .val (.slice none 0 0), .val (.slice none 0 0), .val (.slice none 0 0), .val (.slice none 0 0), .val (.int .i64 0)]) Try.zeroValue59 rfl) fun g98 => ?_
     refine G.opn (O.store (i := 0) (o := 0) (ds := [.val (bs ([] : Str)), .val (.slice none 0 0), .val (.slice none 0 0), .val (.slice none 0 0), .val (.int .i64 0), .val (bs ([] : Str)), .val (.slice none 0 0), .val (.int .i64 0), .val (.int .i64 0), .val (bs ([] : Str)), .val (.slice none 0 0), .val (.slice none 0 0), .val (.slice none 0 0), .val (.slice none 0 0), .val (.int .i64 0)]) rfl (.of rfl) rfl (OneC.agg (List.forall_mem_cons.2 ⟨(.val rfl), (List.forall_mem_cons.2 ⟨.sl, (List.forall_mem_cons.2 ⟨.sl, (List.forall_mem_cons.2 ⟨.sl, (List.forall_mem_cons.2 ⟨(.val rfl), (List.forall_mem_cons.2 ⟨(.val rfl), (List.forall_mem_cons.2 ⟨.sl, (List.forall_mem_cons.2 ⟨(.val rfl), (List.forall_mem_cons.2 ⟨(.val rfl), (List.forall_mem_cons.2 ⟨(.val rfl), (List.forall_mem_cons.2 ⟨.sl, (List.forall_mem_cons.2 ⟨.sl, (List.forall_mem_cons.2 ⟨.sl, (List.forall_mem_cons.2 ⟨.sl, (List.forall_mem_cons.2 ⟨(.val rfl), (List.forall_mem_nil _)⟩)⟩)⟩)⟩)⟩)⟩)⟩)⟩)⟩)⟩)⟩)⟩)⟩)⟩)⟩)) Try.sizeOf59 rfl rfl) fun _ => ?_
     refine G.nil ?_
     refine G.norm (L' := [(3, .val g78), (9, .val (.pointer (some ⟨g98, 0, none⟩))), (32, eL e_T_Func 15 b0.fFuncs), (33, .val (.int .i64 (b0.fFuncs.length : Int))), (34, .val (.int .i64 (i79 : Int)))]) (is := [3, 9, 32, 33, 34]) (R' := [.cells g98 59 (lf_T_Func y80), .row g78 9 1 (x77.map eS)]) (js := [0, 0]) rfl rfl ?_
     refine G.next_ hK97 ?_
     refine G.region ?_
     refine G.p rfl (V.move rfl) ?_
     refine G.p rfl (V.fieldAddr (o' := 0) rfl Try.runUnderlying59 rfl Try.sizeOf9 rfl) ?_
     refine G.q rfl (V.load_cell (i := 0) (ds := (lf_T_Func y80)) (d := .val (bs y80.fName)) rfl rfl Try.isAgg9 rfl rfl) ?_
     refine G.op rfl (O.buildSlice (xs := [.tmp 40]) (ds := ([y80.fName] : List Str).map eS) elt30 rfl (.cons (.of rfl) .nil) rfl (by decide) (List.forall_mem_cons.2 ⟨(fun c hc => ((fun _ => one_S) _ c hc).mono), (List.forall_mem_nil _)⟩) (List.forall_mem_cons.2 ⟨rfl, (List.forall_mem_nil _)⟩)) fun v99 => ?_
     refine G.bind fun l100 hl101 => ?_
     refine G.op rfl (O.append_row (i := 2) (j := 0) (enc := eS) (xs := x77) (ys := ([y80.fName] : List Str)) (lim := 8796093022208) elt30 rfl rfl rfl rfl (by decide) (by decide) (fun _ => one_S) hl101) fun v102 => ?_
     refine G.p rfl (V.assign rfl) ?_
     refine G.nil ?_
     refine G.norm (L' := [(3, .val v102), (32, eL e_T_Func 15 b0.fFuncs), (33, .val (.int .i64 (b0.fFuncs.length : Int))), (34, .val (.int .i64 (i79 : Int)))]) (is := [3, 32, 33, 34]) (R' := [.row v102 9 1 (l100.map eS)]) (js := [2]) rfl rfl ?_
     refine G.inB ?_
     refine G.next_ hK95 ?_
     refine G.region ?_
     refine G.p rfl (V.incr (i := i79) (N := b0.fFuncs.length) rfl rfl (rng_lt hd82) (hN76)) ?_
     refine G.p rfl (V.move rfl) ?_
     refine G.nil ?_
     refine G.norm (L' := [(3, .val v102), (32, eL e_T_Func 15 b0.fFuncs), (33, .val (.int .i64 (b0.fFuncs.length : Int))), (34, .val (.int .i64 ((i79 + 1 : Nat) : Int)))]) (is := [3, 32, 33, 34]) (R' := [.row v102 9 1 (l100.map eS)]) (js := [0]) rfl rfl ?_
     refine G.again ?_
     intro hl103 a w hA
     exact ⟨_, Nat.lt_succ_self _, rest81, i79 + 1, l100, rfl, hl103, rng_next hd82, ⟨_, hA⟩⟩
  ·rintro b105 hb a w ⟨g106, hA⟩ hF107
   refine G.use hF107 hA ?_
   refine G.next_ hK73 ?_
   refine G.seq fun K108 hK109 => ?_
   refine G.region ?_
   refine G.p rfl (V.move rfl) ?_
   refine G.p rfl (V.assign rfl) ?_
   refine G.nil ?_
   refine G.norm (L' := [(2, .val g106)]) (is := [2]) (R' := [.row g106 9 1 (b105.map eS)]) (js := [0]) rfl rfl ?_
   refine G.next_ hK109 ?_
   refine G.ret ?_
   refine G.fin_ fun hF110 => ?_
   obtain rfl := Option.some.inj hF110
   exact G.ret1 Try.results24 g106 (is := [0]) (.of rfl) rfl
/-! roadstead/roadref2.actorsOf -/
def roadref2_actorsOf.l1  : List (T_Actor) → (List Str) → Option (List Str)
  | [], x11 => some x11
  | y14 :: rest15, x11 => (app 8796093022208 x11 ([y14.fName] : List Str)).bind fun l34 => roadref2_actorsOf.l1 rest15 l34

theorem roadref2_actorsOf.l1_nil  {x11 : List Str} : roadref2_actorsOf.l1  [] x11 = some x11 := rfl
theorem roadref2_actorsOf.l1_cons  {y14 : T_Actor} {rest15 : List (T_Actor)} {x11 : List Str} : roadref2_actorsOf.l1  (y14 :: rest15) x11 = (app 8796093022208 x11 ([y14.fName] : List Str)).bind fun l34 => roadref2_actorsOf.l1 rest15 l34 := rfl
def roadref2_actorsOf.Spec (F : T_Program → Option (List Str)) : Prop := ∀ {b0 : T_Program} {out : List Str}, F b0 = some out → Ct Gl Try.prog 25 [.agg (lf_T_Program b0)] [] (fun x : Value => .val x) (fun x : Value => [.row x 9 1 (out.map eS)])
def roadref2_actorsOf (b0 : T_Program) : Option (List Str) := (roadref2_actorsOf.l1 b0.fActors ([] : List Str)).bind fun b39 => some b39
set_option maxRecDepth 100000 in
theorem roadref2_actorsOf_ok : roadref2_actorsOf.Spec (roadref2_actorsOf) := by
 intro b0 out hp
 refine ct_of_G (nt := 20) Try.func25 rfl Try.ntmps25 rfl (fun B => ?_) hp
 unfold roadref2_actorsOf
 refine G.seq fun K1 hK2 => ?_
 refine G.region ?_
 refine G.op rfl (O.box (.of rfl) (OneC.agg (List.forall_mem_cons.2 ⟨(.val rfl), (List.forall_mem_cons.2 ⟨(.val rfl), (List.forall_mem_cons.2 ⟨.sl, (List.forall_mem_cons.2 ⟨.sl, (List.forall_mem_cons.2 ⟨.sl, (List.forall_mem_cons.2 ⟨.sl, (List.forall_mem_cons.2 ⟨.sl, (List.forall_mem_cons.2 ⟨.sl, (List.forall_mem_nil _)⟩)⟩)⟩)⟩)⟩)⟩)⟩)⟩))) fun g3 => ?_
 refine G.p rfl (V.assign rfl) ?_
 refine G.nil ?_
 refine G.norm (L' := [(1, .val (.pointer (some ⟨g3, 0, none⟩)))]) (is := [1]) (R' := [.cells g3 29 (lf_T_Program b0)]) (js := [0]) rfl rfl ?_
 refine G.next_ hK2 ?_
 refine G.seq fun K4 hK5 => ?_
 refine G.region ?_
 refine G.p rfl (V.assign rfl) ?_
 refine G.nil ?_
 refine G.norm (L' := [(1, .val (.pointer (some ⟨g3, 0, none⟩))), (3, .val (.slice none 0 0))]) (is := [1, 3]) (R' := [.cells g3 29 (lf_T_Program b0)]) (js := [0]) rfl rfl ?_
 refine G.next_ hK5 ?_
 refine G.seq fun K6 hK7 => ?_
 refine G.seq fun K8 hK9 => ?_
 refine G.region ?_
 refine G.p rfl (V.fieldAddr (o' := 7) rfl Try.runUnderlying29 rfl Try.sizeOf27 rfl) ?_
 refine G.q rfl (V.load_cell (i := 0) (ds := (lf_T_Program b0)) (d := eL e_T_Actor 14 b0.fActors) rfl rfl Try.isAgg27 rfl rfl) ?_
 refine G.lenb (enc := e_T_Actor) (xs := b0.fActors) (sz := 14) (x := .tmp 7) (.of rfl) fun hN10 => ?_
 refine G.p rfl (V.len_sl (enc := e_T_Actor) (xs := b0.fActors) (sz := 14) (.of rfl) Try.runUnderlying27) ?_
 refine G.p rfl (V.move rfl) ?_
 refine G.nil ?_
 refine G.norm (L' := [(3, .val (.slice none 0 0)), (7, eL e_T_Actor 14 b0.fActors), (8, .val (.int .i64 (b0.fActors.length : Int))), (9, .val (.int .i64 0))]) (is := [3, 7, 8, 9]) (R' := []) (js := []) rfl rfl ?_
 refine G.next_ hK9 ?_
 refine G.join (E := fun b a w => ∃ (g_0 : Value), Ass Gl B 20 [(3, .val g_0)] [.row g_0 9 1 (b.map eS)] a w) ?_ ?_
 ·intro b hF18
  refine G.block ?_
  refine G.nilrow 9 1 none ?_
  refine G.norm (L' := [(3, .val (.slice none 0 0)), (7, eL e_T_Actor 14 b0.fActors), (8, .val (.int .i64 (b0.fActors.length : Int))), (9, .val (.int .i64 ((0 : Nat) : Int)))]) (is := [3, 7, 8, 9]) (R' := [.row (.slice none 0 0) 9 1 (([] : List Str).map eS)]) (js := [0]) rfl rfl ?_
  refine G.loop (fun kq a w => ∃ (rest15 : List (T_Actor)) (i13 : Nat) (x11 : List Str), kq = rest15.length ∧ roadref2_actorsOf.l1 rest15 x11 = some b ∧ b0.fActors.drop i13 = rest15 ∧ ∃ (g_0 : Value), Ass Gl B 20 [(3, .val g_0), (7, eL e_T_Actor 14 b0.fActors), (8, .val (.int .i64 (b0.fActors.length : Int))), (9, .val (.int .i64 (i13 : Int)))] [.row g_0 9 1 (x11.map eS)] a w) (b0.fActors.length) ?_ ?_
  ·intro hl38 a w hA
   exact ⟨b0.fActors, 0, ([] : List Str), rfl, hl38, rfl, ⟨_, hA⟩⟩
  ·rintro _ a w ⟨rest15, i13, x11, rfl, hl19, hd16, ⟨g12, hA⟩⟩
   rcases rest15 with _ | ⟨y14, rest15⟩
   ·rw [roadref2_actorsOf.l1_nil] at hl19
    refine G.use hl19 hA ?_
    refine G.seq fun K20 hK21 => ?_
    refine G.region ?_
    refine G.p rfl (V.bin (u := .int .i64 (i13 : Int)) (v := .int .i64 (b0.fActors.length : Int)) (r := .bool (decide ((i13 : Int) < (b0.fActors.length : Int)))) rfl rfl b_lss) ?_
    refine G.nil ?_
    refine G.norm (L' := [(3, .val g12), (7, eL e_T_Actor 14 b0.fActors), (8, .val (.int .i64 (b0.fActors.length : Int))), (9, .val (.int .i64 (i13 : Int))), (10, .val (.bool (decide ((i13 : Int) < (b0.fActors.length : Int)))))]) (is := [3, 7, 8, 9, 10]) (R' := [.row g12 9 1 (x11.map eS)]) (js := [0]) rfl rfl ?_
    refine G.next_ hK21 ?_
    refine G.seq fun K22 hK23 => ?_
    refine G.no rfl (rng_end hd16) ?_
    refine G.exit ?_
    refine G.thn_exit ?_
    refine G.thn_exit ?_
    refine G.inB_eq ?_
    refine G.norm (L' := [(3, .val g12)]) (is := [3]) (R' := [.row g12 9 1 (x11.map eS)]) (js := [0]) rfl rfl ?_
    exact G.finE fun hb a w hA => by subst hb; exact ⟨_, hA⟩
   ·rw [roadref2_actorsOf.l1_cons] at hl19
    refine G.use hl19 hA ?_
    refine G.seq fun K24 hK25 => ?_
    refine G.region ?_
    refine G.p rfl (V.bin (u := .int .i64 (i13 : Int)) (v := .int .i64 (b0.fActors.length : Int)) (r := .bool (decide ((i13 : Int) < (b0.fActors.length : Int)))) rfl rfl b_lss) ?_
    refine G.nil ?_
    refine G.norm (L' := [(3, .val g12), (7, eL e_T_Actor 14 b0.fActors), (8, .val (.int .i64 (b0.fActors.length : Int))), (9, .val (.int .i64 (i13 : Int))), (10, .val (.bool (decide ((i13 : Int) < (b0.fActors.length : Int)))))]) (is := [3, 7, 8, 9, 10]) (R' := [.row g12 9 1 (x11.map eS)]) (js := [0]) rfl rfl ?_
    refine G.next_ hK25 ?_
    refine G.seq fun K26 hK27 => ?_
    refine G.yes rfl (rng_more hd16) ?_
    refine G.skip ?_
    refine G.next_ hK27 ?_
    refine G.seq fun K28 hK29 => ?_
    refine G.block ?_
    refine G.seq fun K30 hK31 => ?_
    refine G.region ?_
    refine G.p rfl (V.at_sl (k := i13) rfl rfl Try.runUnderlying27 Try.sizeOf68 (map_at (rng_at hd16))) ?_
    refine G.q rfl (V.load_ptrN (ds := (lf_T_Actor y14)) rfl (e_T_Actor_eq y14) Try.isAgg68 Try.sizeOf68 rfl) ?_
    refine G.op rfl (O.alloc (ds := [.val (bs ([] : Str)), .val (.slice none 0 0), .val (.slice none 0 0), .val (.int .i64 0), .val (bs ([] : Str)), .val (.slice none 0 0), .val (.int .i64 0), .val (.int .i64 0), .val (bs ([] : Str)), .val (.slice none 0 0), .val (.slice none 0 0), .val (.slice none 0 0), .val (.slice none 0 0), .val (.int .i64 0)]) Try.zeroValue68 rfl) fun g32 => ?_
    refine G.opn (O.store (i := 0) (o := 0) (ds := [.val (bs ([] : Str)), .val (.slice none 0 0), .val (.slice none 0 0), .val (.int .i64 0), .val (bs ([] : Str)), .val (.slice none 0 0), .val (.int .i64 0), .val (.int .i64 0), .val (bs ([] : Str)), .val (.slice none 0 0), .val (.slice none 0 0), .val (.slice none 0 0), .val (.slice none 0 0), .val (.int .i64 0)]) rfl (.of rfl) rfl (OneC.agg (List.forall_mem_cons.2 ⟨(.val rfl), (List.forall_mem_cons.2 ⟨.sl, (List.forall_mem_cons.2 ⟨.sl, (List.forall_mem_cons.2 ⟨(.val rfl), (List.forall_mem_cons.2 ⟨(.val rfl), (List.forall_mem_cons.2 ⟨.sl, (List.forall_mem_cons.2 ⟨(.val rfl), (List.forall_mem_cons.2 ⟨(.val rfl), (List.forall_mem_cons.2 ⟨(.val rfl), (List.forall_mem_cons.2 ⟨.sl, (List.forall_mem_cons.2 ⟨.sl, (List.forall_mem_cons.2 ⟨.sl, (List.forall_mem_cons.2 ⟨.sl, (List.forall_mem_cons.2 ⟨(.val rfl), (List.forall_mem_nil _)⟩)⟩)⟩)⟩)⟩)⟩)⟩)⟩)⟩)⟩)⟩)⟩)⟩)⟩)) Try.sizeOf68 rfl rfl) fun _ => ?_
    refine G.nil ?_
    refine G.norm (L' := [(3, .val g12), (5, .val (.pointer (some ⟨g32, 0, none⟩))), (7, eL e_T_Actor 14 b0.fActors), (8, .val (.int .i64 (b0.fActors.length : Int))), (9, .val (.int .i64 (i13 : Int)))]) (is := [3, 5, 7, 8, 9]) (R' := [.cells g32 68 (lf_T_Actor y14), .row g12 9 1 (x11.map eS)]) (js := [0, 0]) rfl rfl ?_
    refine G.next_ hK31 ?_
    refine G.region ?_
    refine G.p rfl (V.move rfl) ?_
    refine G.p rfl (V.fieldAddr (o' := 0) rfl Try.runUnderlying68 rfl Try.sizeOf9 rfl) ?_
    refine G.q rfl (V.load_cell (i := 0) (ds := (lf_T_Actor y14)) (d := .val (bs y14.fName)) rfl rfl Try.isAgg9 rfl rfl) ?_
    refine G.op rfl (O.buildSlice (xs := [.tmp 15]) (ds := ([y14.fName] : List Str).map eS) elt30 rfl (.cons (.of rfl) .nil) rfl (by decide) (List.forall_mem_cons.2 ⟨(fun c hc => ((fun _ => one_S) _ c hc).mono), (List.forall_mem_nil _)⟩) (List.forall_mem_cons.2 ⟨rfl, (List.forall_mem_nil _)⟩)) fun v33 => ?_
    refine G.bind fun l34 hl35 => ?_
    refine G.op rfl (O.append_row (i := 2) (j := 0) (enc := eS) (xs := x11) (ys := ([y14.fName] : List Str)) (lim := 8796093022208) elt30 rfl rfl rfl rfl (by decide) (by decide) (fun _ => one_S) hl35) fun v36 => ?_
    refine G.p rfl (V.assign rfl) ?_
    refine G.nil ?_
    refine G.norm (L' := [(3, .val v36), (7, eL e_T_Actor 14 b0.fActors), (8, .val (.int .i64 (b0.fActors.length : Int))), (9, .val (.int .i64 (i13 : Int)))]) (is := [3, 7, 8, 9]) (R' := [.row v36 9 1 (l34.map eS)]) (js := [2]) rfl rfl ?_
    refine G.inB ?_
    refine G.next_ hK29 ?_
    refine G.region ?_
    refine G.p rfl (V.incr (i := i13) (N := b0.fActors.length) rfl rfl (rng_lt hd16) (hN10)) ?_
    refine G.p rfl (V.move rfl) ?_
    refine G.nil ?_
    refine G.norm (L' := [(3, .val v36), (7, eL e_T_Actor 14 b0.fActors), (8, .val (.int .i64 (b0.fActors.length : Int))), (9, .val (.int .i64 ((i13 + 1 : Nat) : Int)))]) (is := [3, 7, 8, 9]) (R' := [.row v36 9 1 (l34.map eS)]) (js := [0]) rfl rfl ?_
    refine G.again ?_
    intro hl37 a w hA
    exact ⟨_, Nat.lt_succ_self _, rest15, i13 + 1, l34, rfl, hl37, rng_next hd16, ⟨_, hA⟩⟩
 ·rintro b39 hb a w ⟨g40, hA⟩ hF41
  refine G.use hF41 hA ?_
  refine G.next_ hK7 ?_
  refine G.seq fun K42 hK43 => ?_
  refine G.region ?_
  refine G.p rfl (V.move rfl) ?_
  refine G.p rfl (V.assign rfl) ?_
  refine G.nil ?_
  refine G.norm (L' := [(2, .val g40)]) (is := [2]) (R' := [.row g40 9 1 (b39.map eS)]) (js := [0]) rfl rfl ?_
  refine G.next_ hK43 ?_
  refine G.ret ?_
  refine G.fin_ fun hF44 => ?_
  obtain rfl := Option.some.inj hF44
  exact G.ret1 Try.results25 g40 (is := [0]) (.of rfl) rfl
/-! slices.Index[[]string,string] -/
def slices_Index_string_string.l1 (b1 : Str) : List (Str) → Nat → Option (Int ⊕ (Unit))
  | [], i8 => some (.inr ())
  | y9 :: rest10, i8 => (if (b1 == y9) = true then some (.inl (i8 : Int)) else slices_Index_string_string.l1 b1 rest10 (i8 + 1))

theorem slices_Index_string_string.l1_nil (b1 : Str) {i8 : Nat} : slices_Index_string_string.l1 b1 [] i8 = some (.inr ()) := rfl
theorem slices_Index_string_string.l1_cons (b1 : Str) {y9 : Str} {rest10 : List (Str)} {i8 : Nat} : slices_Index_string_string.l1 b1 (y9 :: rest10) i8 = (if (b1 == y9) = true then some (.inl (i8 : Int)) else slices_Index_string_string.l1 b1 rest10 (i8 + 1)) := rfl
def slices_Index_string_string.Spec (F : (List Str) → Str → Option (Int)) : Prop := ∀ {b0 : List Str} {b1 : Str} {out : Int}, F b0 b1 = some out → Ct Gl Try.prog 28 [eL eS 1 b0, .val (bs b1)] [] (fun x : Unit => .val (.int .i64 out)) (fun x : Unit => [])
def slices_Index_string_string (b0 : List Str) (b1 : Str) : Option (Int) := (slices_Index_string_string.l1 b1 b0 0).bind (retOr fun b37 => some (-1))
set_option maxRecDepth 100000 in
theorem slices_Index_string_string_ok : slices_Index_string_string.Spec (slices_Index_string_string) := by
 intro b0 b1 out hp
 refine ct_of_G (nt := 19) Try.func28 rfl Try.ntmps28 rfl (fun B => ?_) hp
 unfold slices_Index_string_string
 refine G.seq fun K1 hK2 => ?_
 refine G.region ?_
 refine G.p rfl (V.assign rfl) ?_
 refine G.nil ?_
 refine G.norm (L' := [(0, eL eS 1 b0), (1, .val (bs b1))]) (is := [0, 1]) (R' := []) (js := []) rfl rfl ?_
 refine G.next_ hK2 ?_
 refine G.seq fun K3 hK4 => ?_
 refine G.seq fun K5 hK6 => ?_
 refine G.region ?_
 refine G.p rfl (V.move rfl) ?_
 refine G.lenb (enc := eS) (xs := b0) (sz := 1) (x := .tmp 6) (.of rfl) fun hN7 => ?_
 refine G.p rfl (V.len_sl (enc := eS) (xs := b0) (sz := 1) (.of rfl) Try.runUnderlying30) ?_
 refine G.p rfl (V.move rfl) ?_
 refine G.nil ?_
 refine G.norm (L' := [(0, eL eS 1 b0), (1, .val (bs b1)), (7, .val (.int .i64 (b0.length : Int))), (8, .val (.int .i64 0))]) (is := [0, 1, 7, 8]) (R' := []) (js := []) rfl rfl ?_
 refine G.next_ hK6 ?_
 refine G.join (E := fun o a w => ∃ b, o = .inr b ∧ Ass Gl B 19 [] [] a w) ?_ ?_
 ·intro b hF13
  refine G.block ?_
  refine G.norm (L' := [(0, eL eS 1 b0), (1, .val (bs b1)), (7, .val (.int .i64 (b0.length : Int))), (8, .val (.int .i64 ((0 : Nat) : Int)))]) (is := [0, 1, 7, 8]) (R' := []) (js := []) rfl rfl ?_
  refine G.loop (fun kq a w => ∃ (rest10 : List (Str)) (i8 : Nat), kq = rest10.length ∧ slices_Index_string_string.l1 b1 rest10 i8 = some b ∧ b0.drop i8 = rest10 ∧ Ass Gl B 19 [(0, eL eS 1 b0), (1, .val (bs b1)), (7, .val (.int .i64 (b0.length : Int))), (8, .val (.int .i64 (i8 : Int)))] [] a w) (b0.length) ?_ ?_
  ·intro hl36 a w hA
   exact ⟨b0, 0, rfl, hl36, rfl, hA⟩
  ·rintro _ a w ⟨rest10, i8, rfl, hl14, hd11, hA⟩
   rcases rest10 with _ | ⟨y9, rest10⟩
   ·rw [slices_Index_string_string.l1_nil] at hl14
    refine G.use hl14 hA ?_
    refine G.seq fun K15 hK16 => ?_
    refine G.region ?_
    refine G.p rfl (V.bin (u := .int .i64 (i8 : Int)) (v := .int .i64 (b0.length : Int)) (r := .bool (decide ((i8 : Int) < (b0.length : Int)))) rfl rfl b_lss) ?_
    refine G.nil ?_
    refine G.norm (L' := [(0, eL eS 1 b0), (1, .val (bs b1)), (7, .val (.int .i64 (b0.length : Int))), (8, .val (.int .i64 (i8 : Int))), (9, .val (.bool (decide ((i8 : Int) < (b0.length : Int)))))]) (is := [0, 1, 7, 8, 9]) (R' := []) (js := []) rfl rfl ?_
    refine G.next_ hK16 ?_
    refine G.seq fun K17 hK18 => ?_
    refine G.no rfl (rng_end hd11) ?_
    refine G.exit ?_
    refine G.thn_exit ?_
    refine G.thn_exit ?_
    refine G.inB_eq ?_
    refine G.norm (L' := []) (is := []) (R' := []) (js := []) rfl rfl ?_
    exact G.finE fun hb a w hA => by subst hb; exact ⟨_, rfl, hA⟩
   ·rw [slices_Index_string_string.l1_cons] at hl14
    refine G.use hl14 hA ?_
    refine G.seq fun K19 hK20 => ?_
    refine G.region ?_
    refine G.p rfl (V.bin (u := .int .i64 (i8 : Int)) (v := .int .i64 (b0.length : Int)) (r := .bool (decide ((i8 : Int) < (b0.length : Int)))) rfl rfl b_lss) ?_
    refine G.nil ?_
    refine G.norm (L' := [(0, eL eS 1 b0), (1, .val (bs b1)), (7, .val (.int .i64 (b0.length : Int))), (8, .val (.int .i64 (i8 : Int))), (9, .val (.bool (decide ((i8 : Int) < (b0.length : Int)))))]) (is := [0, 1, 7, 8, 9]) (R' := []) (js := []) rfl rfl ?_
    refine G.next_ hK20 ?_
    refine G.seq fun K21 hK22 => ?_
    refine G.yes rfl (rng_more hd11) ?_
    refine G.skip ?_
    refine G.next_ hK22 ?_
    refine G.seq fun K23 hK24 => ?_
    refine G.block ?_
    refine G.seq fun K25 hK26 => ?_
    refine G.region ?_
    refine G.p rfl (V.move rfl) ?_
    refine G.p rfl (V.assign rfl) ?_
    refine G.nil ?_
    refine G.norm (L' := [(0, eL eS 1 b0), (1, .val (bs b1)), (5, .val (.int .i64 (i8 : Int))), (7, .val (.int .i64 (b0.length : Int))), (8, .val (.int .i64 (i8 : Int)))]) (is := [0, 1, 5, 7, 8]) (R' := []) (js := []) rfl rfl ?_
    refine G.next_ hK26 ?_
    refine G.seq fun K27 hK28 => ?_
    refine G.region ?_
    refine G.p rfl (V.move rfl) ?_
    refine G.p rfl (V.move rfl) ?_
    refine G.p rfl (V.move rfl) ?_
    refine G.p rfl (V.at_sl (k := i8) rfl rfl Try.runUnderlying30 Try.sizeOf9 (map_at (rng_at hd11))) ?_
    refine G.q rfl (V.load_ptr (d := .val (bs y9)) rfl Try.isAgg9 rfl) ?_
    refine G.p rfl (V.bin (u := bs b1) (v := bs y9) (r := .bool (b1 == y9)) rfl rfl b_seql) ?_
    refine G.nil ?_
    refine G.norm (L' := [(0, eL eS 1 b0), (1, .val (bs b1)), (5, .val (.int .i64 (i8 : Int))), (7, .val (.int .i64 (b0.length : Int))), (8, .val (.int .i64 (i8 : Int))), (16, .val (.bool (b1 == y9)))]) (is := [0, 1, 5, 7, 8, 16]) (R' := []) (js := []) rfl rfl ?_
    refine G.next_ hK28 ?_
    refine G.cond (b := (b1 == y9)) rfl (fun hc29 => ?_) (fun hc29 => ?_)
    ·refine G.norm (L' := [(5, .val (.int .i64 (i8 : Int)))]) (is := [5]) (R' := []) (js := []) rfl rfl ?_
     refine G.seq fun K30 hK31 => ?_
     refine G.region ?_
     refine G.p rfl (V.move rfl) ?_
     refine G.p rfl (V.assign rfl) ?_
     refine G.nil ?_
     refine G.norm (L' := [(4, .val (.int .i64 (i8 : Int)))]) (is := [4]) (R' := []) (js := []) rfl rfl ?_
     refine G.next_ hK31 ?_
     refine G.ret ?_
     refine G.inB_ret ?_
     refine G.thn_ret ?_
     refine G.thn_ret ?_
     refine G.inB_ret ?_
     refine G.thn_ret ?_
     refine G.thn_ret ?_
     refine G.fin_ fun hF32 => ?_
     have hb33 := Option.some.inj hF32
     subst hb33
     have hF34 : (some (i8 : Int) : Option (Int)) = some _ := hF13
     obtain rfl := Option.some.inj hF34
     exact G.ret1 Try.results28 () (is := []) (.of rfl) rfl
    ·refine G.norm (L' := [(0, eL eS 1 b0), (1, .val (bs b1)), (7, .val (.int .i64 (b0.length : Int))), (8, .val (.int .i64 (i8 : Int)))]) (is := [0, 1, 7, 8]) (R' := []) (js := []) rfl rfl ?_
     refine G.skip ?_
     refine G.inB ?_
     refine G.next_ hK24 ?_
     refine G.region ?_
     refine G.p rfl (V.incr (i := i8) (N := b0.length) rfl rfl (rng_lt hd11) (hN7)) ?_
     refine G.p rfl (V.move rfl) ?_
     refine G.nil ?_
     refine G.norm (L' := [(0, eL eS 1 b0), (1, .val (bs b1)), (7, .val (.int .i64 (b0.length : Int))), (8, .val (.int .i64 ((i8 + 1 : Nat) : Int)))]) (is := [0, 1, 7, 8]) (R' := []) (js := []) rfl rfl ?_
     refine G.again ?_
     intro hl35 a w hA
     exact ⟨_, Nat.lt_succ_self _, rest10, i8 + 1, rfl, hl35, rng_next hd11, hA⟩
 ·rintro _ hb a w ⟨b37, rfl, hA⟩ hF38
  refine G.use hF38 hA ?_
  refine G.inr ?_
  refine G.next_ hK4 ?_
  refine G.seq fun K39 hK40 => ?_
  refine G.region ?_
  refine G.p rfl (V.assign rfl) ?_
  refine G.nil ?_
  refine G.norm (L' := [(4, .val (.int .i64 (-1)))]) (is := [4]) (R' := []) (js := []) rfl rfl ?_
  refine G.next_ hK40 ?_
  refine G.ret ?_
  refine G.fin_ fun hF41 => ?_
  obtain rfl := Option.some.inj hF41
  exact G.ret1 Try.results28 () (is := []) (.of rfl) rfl
/-! slices.Contains[[]string,string] -/
def slices_Contains_string_string.Spec (F : (List Str) → Str → Option (Bool)) : Prop := ∀ {b0 : List Str} {b1 : Str} {out : Bool}, F b0 b1 = some out → Ct Gl Try.prog 15 [eL eS 1 b0, .val (bs b1)] [] (fun x : Unit => .val (.bool out)) (fun x : Unit => [])
def slices_Contains_string_string (b0 : List Str) (b1 : Str) : Option (Bool) := (slices_Index_string_string b0 b1).bind fun r5 => some (decide (r5 ≥ 0))
set_option maxRecDepth 100000 in
theorem slices_Contains_string_string_ok : slices_Contains_string_string.Spec (slices_Contains_string_string) := by
 intro b0 b1 out hp
 refine ct_of_G (nt := 9) Try.func15 rfl Try.ntmps15 rfl (fun B => ?_) hp
 unfold slices_Contains_string_string
 refine G.seq fun K1 hK2 => ?_
 refine G.region ?_
 refine G.p rfl (V.assign rfl) ?_
 refine G.nil ?_
 refine G.norm (L' := [(0, eL eS 1 b0), (1, .val (bs b1))]) (is := [0, 1]) (R' := []) (js := []) rfl rfl ?_
 refine G.next_ hK2 ?_
 refine G.seq fun K3 hK4 => ?_
 refine G.region ?_
 refine G.p rfl (V.move rfl) ?_
 refine G.p rfl (V.move rfl) ?_
 refine G.bind fun r5 hr6 => ?_
 refine G.op rfl (O.call (xs := [.tmp 5, .tmp 6]) (is := []) (Rp := []) (Rr := []) (slices_Index_string_string_ok hr6) (.cons (.of rfl) (.cons (.of rfl) .nil)) Try.call28 rfl) fun x7 => ?_
 refine G.p rfl (V.bin (u := .int .i64 r5) (v := .int .i64 0) (r := .bool (decide (r5 ≥ 0))) rfl rfl b_geq) ?_
 refine G.p rfl (V.assign rfl) ?_
 refine G.nil ?_
 refine G.norm (L' := [(4, .val (.bool (decide (r5 ≥ 0))))]) (is := [4]) (R' := []) (js := []) rfl rfl ?_
 refine G.next_ hK4 ?_
 refine G.ret ?_
 refine G.fin_ fun hF8 => ?_
 obtain rfl := Option.some.inj hF8
 exact G.ret1 Try.results15 () (is := []) (.of rfl) rfl
/-! roadstead/roadref2.NamesOf -/
def roadref2_NamesOf.l1 (rec_roadref2_NamesOf : T_Pat → Option (List Str)) : List (T_Pat) → (List Str) → Option (List Str)
  | [], x23 => some x23
  | y26 :: rest27, x23 => (rec_roadref2_NamesOf y26).bind fun r45 => (app 8796093022208 x23 r45).bind fun l48 => roadref2_NamesOf.l1 rec_roadref2_NamesOf rest27 l48

theorem roadref2_NamesOf.l1_nil (rec_roadref2_NamesOf : T_Pat → Option (List Str)) {x23 : List Str} : roadref2_NamesOf.l1 rec_roadref2_NamesOf [] x23 = some x23 := rfl
theorem roadref2_NamesOf.l1_cons (rec_roadref2_NamesOf : T_Pat → Option (List Str)) {y26 : T_Pat} {rest27 : List (T_Pat)} {x23 : List Str} : roadref2_NamesOf.l1 rec_roadref2_NamesOf (y26 :: rest27) x23 = (rec_roadref2_NamesOf y26).bind fun r45 => (app 8796093022208 x23 r45).bind fun l48 => roadref2_NamesOf.l1 rec_roadref2_NamesOf rest27 l48 := rfl
def roadref2_NamesOf.Spec (F : T_Pat → Option (List Str)) : Prop := ∀ {b0 : T_Pat} {out : List Str}, F b0 = some out → Ct Gl Try.prog 36 [.agg (lf_T_Pat b0)] [] (fun x : Value => .val x) (fun x : Value => [.row x 9 1 (out.map eS)])
def roadref2_NamesOf.body (rec_roadref2_NamesOf : T_Pat → Option (List Str)) (b0 : T_Pat) : Option (List Str) := (if (b0.fKind == 2) = true then some ([b0.fText] : List Str) else (if (b0.fKind == 6) = true then (roadref2_NamesOf.l1 rec_roadref2_NamesOf b0.fArgs ([] : List Str)).bind fun b53 => some b53 else some ([] : List Str)))
def roadref2_NamesOf.all : Nat → (T_Pat → Option (List Str))
  | 0 => fun _ => none
  | k + 1 => roadref2_NamesOf.body (roadref2_NamesOf.all k) 
set_option maxRecDepth 100000 in
theorem roadref2_NamesOf.body_ok {rec_roadref2_NamesOf : T_Pat → Option (List Str)} (hrec_roadref2_NamesOf : roadref2_NamesOf.Spec rec_roadref2_NamesOf) : roadref2_NamesOf.Spec (roadref2_NamesOf.body rec_roadref2_NamesOf ) := by
 intro b0 out hp
 refine ct_of_G (nt := 28) Try.func36 rfl Try.ntmps36 rfl (fun B => ?_) hp
 unfold roadref2_NamesOf.body
 refine G.seq fun K1 hK2 => ?_
 refine G.region ?_
 refine G.op rfl (O.box (.of rfl) (OneC.agg (List.forall_mem_cons.2 ⟨(.val rfl), (List.forall_mem_cons.2 ⟨(.val rfl), (List.forall_mem_cons.2 ⟨(.val rfl), (List.forall_mem_cons.2 ⟨.sl, (List.forall_mem_nil _)⟩)⟩)⟩)⟩))) fun g3 => ?_
 refine G.p rfl (V.assign rfl) ?_
 refine G.nil ?_
 refine G.norm (L' := [(1, .val (.pointer (some ⟨g3, 0, none⟩)))]) (is := [1]) (R' := [.cells g3 83 (lf_T_Pat b0)]) (js := [0]) rfl rfl ?_
 refine G.next_ hK2 ?_
 refine G.seq fun K4 hK5 => ?_
 refine G.seq fun K6 hK7 => ?_
 refine G.region ?_
 refine G.p rfl (V.fieldAddr (o' := 0) rfl Try.runUnderlying83 rfl Try.sizeOf3 rfl) ?_
 refine G.q rfl (V.load_cell (i := 0) (ds := (lf_T_Pat b0)) (d := .val (.int .i64 b0.fKind)) rfl rfl Try.isAgg3 rfl rfl) ?_
 refine G.p rfl (V.bin (u := .int .i64 b0.fKind) (v := .int .i64 2) (r := .bool (b0.fKind == 2)) rfl rfl b_eql) ?_
 refine G.nil ?_
 refine G.norm (L' := [(1, .val (.pointer (some ⟨g3, 0, none⟩))), (8, .val (.bool (b0.fKind == 2)))]) (is := [1, 8]) (R' := [.cells g3 83 (lf_T_Pat b0)]) (js := [0]) rfl rfl ?_
 refine G.next_ hK7 ?_
 refine G.cond (b := (b0.fKind == 2)) rfl (fun hc8 => ?_) (fun hc8 => ?_)
 ·refine G.norm (L' := [(1, .val (.pointer (some ⟨g3, 0, none⟩)))]) (is := [1]) (R' := [.cells g3 83 (lf_T_Pat b0)]) (js := [0]) rfl rfl ?_
  refine G.seq fun K9 hK10 => ?_
  refine G.region ?_
  refine G.p rfl (V.fieldAddr (o' := 2) rfl Try.runUnderlying83 rfl Try.sizeOf9 rfl) ?_
  refine G.q rfl (V.load_cell (i := 0) (ds := (lf_T_Pat b0)) (d := .val (bs b0.fText)) rfl rfl Try.isAgg9 rfl rfl) ?_
  refine G.op rfl (O.buildSlice (xs := [.tmp 10]) (ds := ([b0.fText] : List Str).map eS) elt30 rfl (.cons (.of rfl) .nil) rfl (by decide) (List.forall_mem_cons.2 ⟨(fun c hc => ((fun _ => one_S) _ c hc).mono), (List.forall_mem_nil _)⟩) (List.forall_mem_cons.2 ⟨rfl, (List.forall_mem_nil _)⟩)) fun v11 => ?_
  refine G.p rfl (V.assign rfl) ?_
  refine G.nil ?_
  refine G.norm (L' := [(2, .val v11)]) (is := [2]) (R' := [.row v11 9 1 (([b0.fText] : List Str).map eS)]) (js := [0]) rfl rfl ?_
  refine G.next_ hK10 ?_
  refine G.ret ?_
  refine G.thn_ret ?_
  refine G.fin_ fun hF12 => ?_
  obtain rfl := Option.some.inj hF12
  exact G.ret1 Try.results36 v11 (is := [0]) (.of rfl) rfl
 ·refine G.norm (L' := [(1, .val (.pointer (some ⟨g3, 0, none⟩)))]) (is := [1]) (R' := [.cells g3 83 (lf_T_Pat b0)]) (js := [0]) rfl rfl ?_
  refine G.skip ?_
  refine G.next_ hK5 ?_
  refine G.seq fun K13 hK14 => ?_
  refine G.region ?_
  refine G.p rfl (V.assign rfl) ?_
  refine G.nil ?_
  refine G.norm (L' := [(1, .val (.pointer (some ⟨g3, 0, none⟩))), (3, .val (.slice none 0 0))]) (is := [1, 3]) (R' := [.cells g3 83 (lf_T_Pat b0)]) (js := [0]) rfl rfl ?_
  refine G.next_ hK14 ?_
  refine G.seq fun K15 hK16 => ?_
  refine G.seq fun K17 hK18 => ?_
  refine G.region ?_
  refine G.p rfl (V.fieldAddr (o' := 0) rfl Try.runUnderlying83 rfl Try.sizeOf3 rfl) ?_
  refine G.q rfl (V.load_cell (i := 0) (ds := (lf_T_Pat b0)) (d := .val (.int .i64 b0.fKind)) rfl rfl Try.isAgg3 rfl rfl) ?_
  refine G.p rfl (V.bin (u := .int .i64 b0.fKind) (v := .int .i64 6) (r := .bool (b0.fKind == 6)) rfl rfl b_eql) ?_
  refine G.nil ?_
  refine G.norm (L' := [(1, .val (.pointer (some ⟨g3, 0, none⟩))), (3, .val (.slice none 0 0)), (14, .val (.bool (b0.fKind == 6)))]) (is := [1, 3, 14]) (R' := [.cells g3 83 (lf_T_Pat b0)]) (js := [0]) rfl rfl ?_
  refine G.next_ hK18 ?_
  refine G.cond (b := (b0.fKind == 6)) rfl (fun hc19 => ?_) (fun hc19 => ?_)
  ·refine G.norm (L' := [(1, .val (.pointer (some ⟨g3, 0, none⟩))), (3, .val (.slice none 0 0))]) (is := [1, 3]) (R' := [.cells g3 83 (lf_T_Pat b0)]) (js := [0]) rfl rfl ?_
   refine G.seq fun K20 hK21 => ?_
   refine G.region ?_
   refine G.p rfl (V.fieldAddr (o' := 3) rfl Try.runUnderlying83 rfl Try.sizeOf81 rfl) ?_
   refine G.q rfl (V.load_cell (i := 0) (ds := (lf_T_Pat b0)) (d := eL e_T_Pat 4 b0.fArgs) rfl rfl Try.isAgg81 rfl rfl) ?_
   refine G.lenb (enc := e_T_Pat) (xs := b0.fArgs) (sz := 4) (x := .tmp 16) (.of rfl) fun hN22 => ?_
   refine G.p rfl (V.len_sl (enc := e_T_Pat) (xs := b0.fArgs) (sz := 4) (.of rfl) Try.runUnderlying81) ?_
   refine G.p rfl (V.move rfl) ?_
   refine G.nil ?_
   refine G.norm (L' := [(3, .val (.slice none 0 0)), (16, eL e_T_Pat 4 b0.fArgs), (17, .val (.int .i64 (b0.fArgs.length : Int))), (18, .val (.int .i64 0))]) (is := [3, 16, 17, 18]) (R' := []) (js := []) rfl rfl ?_
   refine G.next_ hK21 ?_
   refine G.join (E := fun b a w => ∃ (g_0 : Value), Ass Gl B 28 [(3, .val g_0)] [.row g_0 9 1 (b.map eS)] a w) ?_ ?_
   ·intro b hF30
    refine G.block ?_
    refine G.nilrow 9 1 none ?_
    refine G.norm (L' := [(3, .val (.slice none 0 0)), (16, eL e_T_Pat 4 b0.fArgs), (17, .val (.int .i64 (b0.fArgs.length : Int))), (18, .val (.int .i64 ((0 : Nat) : Int)))]) (is := [3, 16, 17, 18]) (R' := [.row (.slice none 0 0) 9 1 (([] : List Str).map eS)]) (js := [0]) rfl rfl ?_
    refine G.loop (fun kq a w => ∃ (rest27 : List (T_Pat)) (i25 : Nat) (x23 : List Str), kq = rest27.length ∧ roadref2_NamesOf.l1 rec_roadref2_NamesOf rest27 x23 = some b ∧ b0.fArgs.drop i25 = rest27 ∧ ∃ (g_0 : Value), Ass Gl B 28 [(3, .val g_0), (16, eL e_T_Pat 4 b0.fArgs), (17, .val (.int .i64 (b0.fArgs.length : Int))), (18, .val (.int .i64 (i25 : Int)))] [.row g_0 9 1 (x23.map eS)] a w) (b0.fArgs.length) ?_ ?_
    ·intro hl52 a w hA
     exact ⟨b0.fArgs, 0, ([] : List Str), rfl, hl52, rfl, ⟨_, hA⟩⟩
    ·rintro _ a w ⟨rest27, i25, x23, rfl, hl31, hd28, ⟨g24, hA⟩⟩
     rcases rest27 with _ | ⟨y26, rest27⟩
     ·rw [roadref2_NamesOf.l1_nil] at hl31
      refine G.use hl31 hA ?_
      refine G.seq fun K32 hK33 => ?_
      refine G.region ?_
      refine G.p rfl (V.bin (u := .int .i64 (i25 : Int)) (v := .int .i64 (b0.fArgs.length : Int)) (r := .bool (decide ((i25 : Int) < (b0.fArgs.length : Int)))) rfl rfl b_lss) ?_
      refine G.nil ?_
      refine G.norm (L' := [(3, .val g24), (16, eL e_T_Pat 4 b0.fArgs), (17, .val (.int .i64 (b0.fArgs.length : Int))), (18, .val (.int .i64 (i25 : Int))), (19, .val (.bool (decide ((i25 : Int) < (b0.fArgs.length : Int)))))]) (is := [3, 16, 17, 18, 19]) (R' := [.row g24 9 1 (x23.map eS)]) (js := [0]) rfl rfl ?_
      refine G.next_ hK33 ?_
      refine G.seq fun K34 hK35 => ?_
      refine G.no rfl (rng_end hd28) ?_
      refine G.exit ?_
      refine G.thn_exit ?_
      refine G.thn_exit ?_
      refine G.inB_eq ?_
      refine G.norm (L' := [(3, .val g24)]) (is := [3]) (R' := [.row g24 9 1 (x23.map eS)]) (js := [0]) rfl rfl ?_
      exact G.finE fun hb a w hA => by subst hb; exact ⟨_, hA⟩
     ·rw [roadref2_NamesOf.l1_cons] at hl31
      refine G.use hl31 hA ?_
      refine G.seq fun K36 hK37 => ?_
      refine G.region ?_
      refine G.p rfl (V.bin (u := .int .i64 (i25 : Int)) (v := .int .i64 (b0.fArgs.length : Int)) (r := .bool (decide ((i25 : Int) < (b0.fArgs.length : Int)))) rfl rfl b_lss) ?_
      refine G.nil ?_
      refine G.norm (L' := [(3, .val g24), (16, eL e_T_Pat 4 b0.fArgs), (17, .val (.int .i64 (b0.fArgs.length : Int))), (18, .val (.int .i64 (i25 : Int))), (19, .val (.bool (decide ((i25 : Int) < (b0.fArgs.length : Int)))))]) (is := [3, 16, 17, 18, 19]) (R' := [.row g24 9 1 (x23.map eS)]) (js := [0]) rfl rfl ?_
      refine G.next_ hK37 ?_
      refine G.seq fun K38 hK39 => ?_
      refine G.yes rfl (rng_more hd28) ?_
      refine G.skip ?_
      refine G.next_ hK39 ?_
      refine G.seq fun K40 hK41 => ?_
      refine G.block ?_
      refine G.seq fun K42 hK43 => ?_
      refine G.region ?_
      refine G.p rfl (V.at_sl (k := i25) rfl rfl Try.runUnderlying81 Try.sizeOf83 (map_at (rng_at hd28))) ?_
      refine G.q rfl (V.load_ptrN (ds := (lf_T_Pat y26)) rfl (e_T_Pat_eq y26) Try.isAgg83 Try.sizeOf83 rfl) ?_
      refine G.op rfl (O.alloc (ds := [.val (.int .i64 0), .val (.int .i64 0), .val (bs ([] : Str)), .val (.slice none 0 0)]) Try.zeroValue83 rfl) fun g44 => ?_
      refine G.opn (O.store (i := 0) (o := 0) (ds := [.val (.int .i64 0), .val (.int .i64 0), .val (bs ([] : Str)), .val (.slice none 0 0)]) rfl (.of rfl) rfl (OneC.agg (List.forall_mem_cons.2 ⟨(.val rfl), (List.forall_mem_cons.2 ⟨(.val rfl), (List.forall_mem_cons.2 ⟨(.val rfl), (List.forall_mem_cons.2 ⟨.sl, (List.forall_mem_nil _)⟩)⟩)⟩)⟩)) Try.sizeOf83 rfl rfl) fun _ => ?_
      refine G.nil ?_
      refine G.norm (L' := [(3, .val g24), (5, .val (.pointer (some ⟨g44, 0, none⟩))), (16, eL e_T_Pat 4 b0.fArgs), (17, .val (.int .i64 (b0.fArgs.length : Int))), (18, .val (.int .i64 (i25 : Int)))]) (is := [3, 5, 16, 17, 18]) (R' := [.cells g44 83 (lf_T_Pat y26), .row g24 9 1 (x23.map eS)]) (js := [0, 0]) rfl rfl ?_
      refine G.next_ hK43 ?_
      refine G.region ?_
      refine G.p rfl (V.move rfl) ?_
      refine G.q rfl (V.load_cellN (i := 0) (ds := (lf_T_Pat y26)) (c1 := (lf_T_Pat y26)) rfl rfl Try.isAgg83 Try.sizeOf83 rfl rfl rfl) ?_
      refine G.bind fun r45 hr46 => ?_
      refine G.op rfl (O.call (xs := [.tmp 23]) (is := []) (Rp := []) (Rr := [.cells g44 83 (lf_T_Pat y26), .row g24 9 1 (x23.map eS)]) (hrec_roadref2_NamesOf hr46) (.cons (.of rfl) .nil) Try.call36 rfl) fun x47 => ?_
      refine G.bind fun l48 hl49 => ?_
      refine G.op rfl (O.append_row (i := 2) (j := 0) (enc := eS) (xs := x23) (ys := r45) (lim := 8796093022208) elt30 rfl rfl rfl rfl (by decide) (by decide) (fun _ => one_S) hl49) fun v50 => ?_
      refine G.p rfl (V.assign rfl) ?_
      refine G.nil ?_
      refine G.norm (L' := [(3, .val v50), (16, eL e_T_Pat 4 b0.fArgs), (17, .val (.int .i64 (b0.fArgs.length : Int))), (18, .val (.int .i64 (i25 : Int)))]) (is := [3, 16, 17, 18]) (R' := [.row v50 9 1 (l48.map eS)]) (js := [2]) rfl rfl ?_
      refine G.inB ?_
      refine G.next_ hK41 ?_
      refine G.region ?_
      refine G.p rfl (V.incr (i := i25) (N := b0.fArgs.length) rfl rfl (rng_lt hd28) (hN22)) ?_
      refine G.p rfl (V.move rfl) ?_
      refine G.nil ?_
      refine G.norm (L' := [(3, .val v50), (16, eL e_T_Pat 4 b0.fArgs), (17, .val (.int .i64 (b0.fArgs.length : Int))), (18, .val (.int .i64 ((i25 + 1 : Nat) : Int)))]) (is := [3, 16, 17, 18]) (R' := [.row v50 9 1 (l48.map eS)]) (js := [0]) rfl rfl ?_
      refine G.again ?_
      intro hl51 a w hA
      exact ⟨_, Nat.lt_succ_self _, rest27, i25 + 1, l48, rfl, hl51, rng_next hd28, ⟨_, hA⟩⟩
   ·rintro b53 hb a w ⟨g54, hA⟩ hF55
    refine G.use hF55 hA ?_
    refine G.next_ hK16 ?_
    refine G.seq fun K56 hK57 => ?_
    refine G.region ?_
    refine G.p rfl (V.move rfl) ?_
    refine G.p rfl (V.assign rfl) ?_
    refine G.nil ?_
    refine G.norm (L' := [(2, .val g54)]) (is := [2]) (R' := [.row g54 9 1 (b53.map eS)]) (js := [0]) rfl rfl ?_
    refine G.next_ hK57 ?_
    refine G.ret ?_
    refine G.fin_ fun hF58 => ?_
    obtain rfl := Option.some.inj hF58
    exact G.ret1 Try.results36 g54 (is := [0]) (.of rfl) rfl
  ·refine G.norm (L' := [(3, .val (.slice none 0 0))]) (is := [3]) (R' := []) (js := []) rfl rfl ?_
   refine G.skip ?_
   refine G.next_ hK16 ?_
   refine G.seq fun K59 hK60 => ?_
   refine G.region ?_
   refine G.p rfl (V.move rfl) ?_
   refine G.p rfl (V.assign rfl) ?_
   refine G.nil ?_
   refine G.norm (L' := [(2, .val (.slice none 0 0))]) (is := [2]) (R' := []) (js := []) rfl rfl ?_
   refine G.next_ hK60 ?_
   refine G.ret ?_
   refine G.nilrow 9 1 none ?_
   refine G.fin_ fun hF61 => ?_
   obtain rfl := Option.some.inj hF61
   exact G.ret1 Try.results36 (.slice none 0 0) (is := [0]) (.of rfl) rfl
theorem roadref2_NamesOf.all_ok (k : Nat) : roadref2_NamesOf.Spec (roadref2_NamesOf.all k) := by
  induction k with
  | zero => exact by intro b0 out hp; simp [roadref2_NamesOf.all] at hp
  | succ k ih => exact roadref2_NamesOf.body_ok ih 
def roadref2_NamesOf (k : Nat) : T_Pat → Option (List Str) := (roadref2_NamesOf.all k)
theorem roadref2_NamesOf_ok (k : Nat) : roadref2_NamesOf.Spec (roadref2_NamesOf k) := (roadref2_NamesOf.all_ok k)
theorem roadref2_NamesOf_succ (k : Nat) (b0 : T_Pat) : roadref2_NamesOf (k + 1) b0 = roadref2_NamesOf.body (roadref2_NamesOf k) b0 := rfl
theorem roadref2_NamesOf_zero (b0 : T_Pat) : roadref2_NamesOf 0 b0 = none := rfl
/-! slices.Grow[[]string,string] -/
def slices_Grow_string_string (b0 : List Str) (b1 : Int) : Option (List Str) := growF 8796093022208 b0 b1
theorem slices_Grow_string_string_ok {b0 out : List Str} {b1 : Int} (h : slices_Grow_string_string b0 b1 = some out) : Ct Gl Try.prog 43 [.val (.slice none 0 0), eI .i64 b1] [.row (.slice none 0 0) 9 1 (b0.map eS)] (fun x : Value => .val x) (fun x => [.row x 9 1 (out.map eS)]) :=
  grow_ct (zz := ([] : Str)) Try.func43 rfl Try.ntmps43 Try.results43 elt30 Try.runUnderlying30 Try.sizeOf9 Try.underlying3 (fun _ _ => rd0_S) (by decide) (by decide) h
/-! slices.Concat[[]string,string] -/
def slices_Concat_string_string.l1  : List (List Str) → Int → Option (Int)
  | [], x10 => some x10
  | y12 :: rest13, x10 => (if (decide ((addI x10 (y12.length : Int)) < 0)) = true then none else slices_Concat_string_string.l1 rest13 (addI x10 (y12.length : Int)))

theorem slices_Concat_string_string.l1_nil  {x10 : Int} : slices_Concat_string_string.l1  [] x10 = some x10 := rfl
theorem slices_Concat_string_string.l1_cons  {y12 : List Str} {rest13 : List (List Str)} {x10 : Int} : slices_Concat_string_string.l1  (y12 :: rest13) x10 = (if (decide ((addI x10 (y12.length : Int)) < 0)) = true then none else slices_Concat_string_string.l1 rest13 (addI x10 (y12.length : Int))) := rfl
def slices_Concat_string_string.l2  : List (List Str) → (List Str) → Option (List Str)
  | [], x50 => some x50
  | y53 :: rest54, x50 => (app 8796093022208 x50 y53).bind fun l71 => slices_Concat_string_string.l2 rest54 l71

theorem slices_Concat_string_string.l2_nil  {x50 : List Str} : slices_Concat_string_string.l2  [] x50 = some x50 := rfl
theorem slices_Concat_string_string.l2_cons  {y53 : List Str} {rest54 : List (List Str)} {x50 : List Str} : slices_Concat_string_string.l2  (y53 :: rest54) x50 = (app 8796093022208 x50 y53).bind fun l71 => slices_Concat_string_string.l2 rest54 l71 := rfl
def slices_Concat_string_string.Spec (F : (List (List Str)) → Option (List Str)) : Prop := ∀ {b0 : List (List Str)} {out : List Str}, F b0 = some out → Ct Gl Try.prog 37 [eL (eL eS 1) 1 b0] [] (fun x : Value => .val x) (fun x : Value => [.row x 9 1 (out.map eS)])
def slices_Concat_string_string (b0 : List (List Str)) : Option (List Str) := (slices_Concat_string_string.l1 b0 0).bind fun b38 => (slices_Grow_string_string ([] : List Str) b38).bind fun r42 => (slices_Concat_string_string.l2 b0 r42).bind fun b76 => some b76
set_option maxRecDepth 100000 in
theorem slices_Concat_string_string_ok : slices_Concat_string_string.Spec (slices_Concat_string_string) := by
 intro b0 out hp
 refine ct_of_G (nt := 36) Try.func37 rfl Try.ntmps37 rfl (fun B => ?_) hp
 unfold slices_Concat_string_string
 refine G.seq fun K1 hK2 => ?_
 refine G.region ?_
 refine G.p rfl (V.assign rfl) ?_
 refine G.nil ?_
 refine G.norm (L' := [(0, eL (eL eS 1) 1 b0)]) (is := [0]) (R' := []) (js := []) rfl rfl ?_
 refine G.next_ hK2 ?_
 refine G.seq fun K3 hK4 => ?_
 refine G.region ?_
 refine G.p rfl (V.assign rfl) ?_
 refine G.nil ?_
 refine G.norm (L' := [(0, eL (eL eS 1) 1 b0), (3, .val (.int .i64 0))]) (is := [0, 3]) (R' := []) (js := []) rfl rfl ?_
 refine G.next_ hK4 ?_
 refine G.seq fun K5 hK6 => ?_
 refine G.seq fun K7 hK8 => ?_
 refine G.region ?_
 refine G.p rfl (V.move rfl) ?_
 refine G.lenb (enc := (eL eS 1)) (xs := b0) (sz := 1) (x := .tmp 9) (.of rfl) fun hN9 => ?_
 refine G.p rfl (V.len_sl (enc := (eL eS 1)) (xs := b0) (sz := 1) (.of rfl) Try.runUnderlying74) ?_
 refine G.p rfl (V.move rfl) ?_
 refine G.nil ?_
 refine G.norm (L' := [(0, eL (eL eS 1) 1 b0), (3, .val (.int .i64 0)), (9, eL (eL eS 1) 1 b0), (10, .val (.int .i64 (b0.length : Int))), (11, .val (.int .i64 0))]) (is := [0, 3, 9, 10, 11]) (R' := []) (js := []) rfl rfl ?_
 refine G.next_ hK8 ?_
 refine G.join (E := fun b a w => Ass Gl B 36 [(0, eL (eL eS 1) 1 b0), (3, .val (.int .i64 b))] [] a w) ?_ ?_
 ·intro b hF16
  refine G.block ?_
  refine G.norm (L' := [(0, eL (eL eS 1) 1 b0), (3, .val (.int .i64 0)), (9, eL (eL eS 1) 1 b0), (10, .val (.int .i64 (b0.length : Int))), (11, .val (.int .i64 ((0 : Nat) : Int)))]) (is := [0, 3, 9, 10, 11]) (R' := []) (js := []) rfl rfl ?_
  refine G.loop (fun kq a w => ∃ (rest13 : List (List Str)) (i11 : Nat) (x10 : Int), kq = rest13.length ∧ slices_Concat_string_string.l1 rest13 x10 = some b ∧ b0.drop i11 = rest13 ∧ Ass Gl B 36 [(0, eL (eL eS 1) 1 b0), (3, .val (.int .i64 x10)), (9, eL (eL eS 1) 1 b0), (10, .val (.int .i64 (b0.length : Int))), (11, .val (.int .i64 (i11 : Int)))] [] a w) (b0.length) ?_ ?_
  ·intro hl37 a w hA
   exact ⟨b0, 0, 0, rfl, hl37, rfl, hA⟩
  ·rintro _ a w ⟨rest13, i11, x10, rfl, hl17, hd14, hA⟩
   rcases rest13 with _ | ⟨y12, rest13⟩
   ·rw [slices_Concat_string_string.l1_nil] at hl17
    refine G.use hl17 hA ?_
    refine G.seq fun K18 hK19 => ?_
    refine G.region ?_
    refine G.p rfl (V.bin (u := .int .i64 (i11 : Int)) (v := .int .i64 (b0.length : Int)) (r := .bool (decide ((i11 : Int) < (b0.length : Int)))) rfl rfl b_lss) ?_
    refine G.nil ?_
    refine G.norm (L' := [(0, eL (eL eS 1) 1 b0), (3, .val (.int .i64 x10)), (9, eL (eL eS 1) 1 b0), (10, .val (.int .i64 (b0.length : Int))), (11, .val (.int .i64 (i11 : Int))), (12, .val (.bool (decide ((i11 : Int) < (b0.length : Int)))))]) (is := [0, 3, 9, 10, 11, 12]) (R' := []) (js := []) rfl rfl ?_
    refine G.next_ hK19 ?_
    refine G.seq fun K20 hK21 => ?_
    refine G.no rfl (rng_end hd14) ?_
    refine G.exit ?_
    refine G.thn_exit ?_
    refine G.thn_exit ?_
    refine G.inB_eq ?_
    refine G.norm (L' := [(0, eL (eL eS 1) 1 b0), (3, .val (.int .i64 x10))]) (is := [0, 3]) (R' := []) (js := []) rfl rfl ?_
    exact G.finE fun hb a w hA => by subst hb; exact hA
   ·rw [slices_Concat_string_string.l1_cons] at hl17
    refine G.use hl17 hA ?_
    refine G.seq fun K22 hK23 => ?_
    refine G.region ?_
    refine G.p rfl (V.bin (u := .int .i64 (i11 : Int)) (v := .int .i64 (b0.length : Int)) (r := .bool (decide ((i11 : Int) < (b0.length : Int)))) rfl rfl b_lss) ?_
    refine G.nil ?_
    refine G.norm (L' := [(0, eL (eL eS 1) 1 b0), (3, .val (.int .i64 x10)), (9, eL (eL eS 1) 1 b0), (10, .val (.int .i64 (b0.length : Int))), (11, .val (.int .i64 (i11 : Int))), (12, .val (.bool (decide ((i11 : Int) < (b0.length : Int)))))]) (is := [0, 3, 9, 10, 11, 12]) (R' := []) (js := []) rfl rfl ?_
    refine G.next_ hK23 ?_
    refine G.seq fun K24 hK25 => ?_
    refine G.yes rfl (rng_more hd14) ?_
    refine G.skip ?_
    refine G.next_ hK25 ?_
    refine G.seq fun K26 hK27 => ?_
    refine G.block ?_
    refine G.seq fun K28 hK29 => ?_
    refine G.region ?_
    refine G.p rfl (V.at_sl (k := i11) rfl rfl Try.runUnderlying74 Try.sizeOf30 (map_at (rng_at hd14))) ?_
    refine G.q rfl (V.load_ptr (d := eL eS 1 y12) rfl Try.isAgg30 rfl) ?_
    refine G.p rfl (V.assign rfl) ?_
    refine G.nil ?_
    refine G.norm (L' := [(0, eL (eL eS 1) 1 b0), (3, .val (.int .i64 x10)), (5, eL eS 1 y12), (9, eL (eL eS 1) 1 b0), (10, .val (.int .i64 (b0.length : Int))), (11, .val (.int .i64 (i11 : Int)))]) (is := [0, 3, 5, 9, 10, 11]) (R' := []) (js := []) rfl rfl ?_
    refine G.next_ hK29 ?_
    refine G.seq fun K30 hK31 => ?_
    refine G.region ?_
    refine G.p rfl (V.move rfl) ?_
    refine G.p rfl (V.move rfl) ?_
    refine G.lenb (enc := eS) (xs := y12) (sz := 1) (x := .tmp 16) (.of rfl) fun hN32 => ?_
    refine G.p rfl (V.len_sl (enc := eS) (xs := y12) (sz := 1) (.of rfl) Try.runUnderlying30) ?_
    refine G.p rfl (V.bin (u := .int .i64 x10) (v := .int .i64 (y12.length : Int)) (r := .int .i64 (addI x10 (y12.length : Int))) rfl rfl b_add) ?_
    refine G.p rfl (V.assign rfl) ?_
    refine G.nil ?_
    refine G.norm (L' := [(0, eL (eL eS 1) 1 b0), (3, .val (.int .i64 (addI x10 (y12.length : Int)))), (9, eL (eL eS 1) 1 b0), (10, .val (.int .i64 (b0.length : Int))), (11, .val (.int .i64 (i11 : Int)))]) (is := [0, 3, 9, 10, 11]) (R' := []) (js := []) rfl rfl ?_
    refine G.next_ hK31 ?_
    refine G.seq fun K33 hK34 => ?_
    refine G.region ?_
    refine G.p rfl (V.move rfl) ?_
    refine G.p rfl (V.bin (u := .int .i64 (addI x10 (y12.length : Int))) (v := .int .i64 0) (r := .bool (decide ((addI x10 (y12.length : Int)) < 0))) rfl rfl b_lss) ?_
    refine G.nil ?_
    refine G.norm (L' := [(0, eL (eL eS 1) 1 b0), (3, .val (.int .i64 (addI x10 (y12.length : Int)))), (9, eL (eL eS 1) 1 b0), (10, .val (.int .i64 (b0.length : Int))), (11, .val (.int .i64 (i11 : Int))), (20, .val (.bool (decide ((addI x10 (y12.length : Int)) < 0))))]) (is := [0, 3, 9, 10, 11, 20]) (R' := []) (js := []) rfl rfl ?_
    refine G.next_ hK34 ?_
    refine G.cond (b := (decide ((addI x10 (y12.length : Int)) < 0))) rfl (fun hc35 => ?_) (fun hc35 => ?_)
    ·refine G.norm (L' := [(0, eL (eL eS 1) 1 b0), (3, .val (.int .i64 (addI x10 (y12.length : Int)))), (9, eL (eL eS 1) 1 b0), (10, .val (.int .i64 (b0.length : Int))), (11, .val (.int .i64 (i11 : Int)))]) (is := [0, 3, 9, 10, 11]) (R' := []) (js := []) rfl rfl ?_
     exact G.none_
    ·refine G.norm (L' := [(0, eL (eL eS 1) 1 b0), (3, .val (.int .i64 (addI x10 (y12.length : Int)))), (9, eL (eL eS 1) 1 b0), (10, .val (.int .i64 (b0.length : Int))), (11, .val (.int .i64 (i11 : Int)))]) (is := [0, 3, 9, 10, 11]) (R' := []) (js := []) rfl rfl ?_
     refine G.skip ?_
     refine G.inB ?_
     refine G.next_ hK27 ?_
     refine G.region ?_
     refine G.p rfl (V.incr (i := i11) (N := b0.length) rfl rfl (rng_lt hd14) (hN9)) ?_
     refine G.p rfl (V.move rfl) ?_
     refine G.nil ?_
     refine G.norm (L' := [(0, eL (eL eS 1) 1 b0), (3, .val (.int .i64 (addI x10 (y12.length : Int)))), (9, eL (eL eS 1) 1 b0), (10, .val (.int .i64 (b0.length : Int))), (11, .val (.int .i64 ((i11 + 1 : Nat) : Int)))]) (is := [0, 3, 9, 10, 11]) (R' := []) (js := []) rfl rfl ?_
     refine G.again ?_
     intro hl36 a w hA
     exact ⟨_, Nat.lt_succ_self _, rest13, i11 + 1, addI x10 (y12.length : Int), rfl, hl36, rng_next hd14, hA⟩
 ·rintro b38 hb a w hA hF39
  refine G.use hF39 hA ?_
  refine G.next_ hK6 ?_
  refine G.seq fun K40 hK41 => ?_
  refine G.region ?_
  refine G.p rfl (V.move rfl) ?_
  refine G.nilrow 9 1 none ?_
  refine G.bind fun r42 hr43 => ?_
  refine G.op rfl (O.call (xs := [_, .tmp 23]) (is := [0]) (Rp := [.row (.slice none 0 0) 9 1 (([] : List Str).map eS)]) (Rr := []) (slices_Grow_string_string_ok hr43) (.cons (.of rfl) (.cons (.of rfl) .nil)) Try.call43 rfl) fun x44 => ?_
  refine G.p rfl (V.assign rfl) ?_
  refine G.nil ?_
  refine G.norm (L' := [(0, eL (eL eS 1) 1 b0), (6, .val x44)]) (is := [0, 6]) (R' := [.row x44 9 1 (r42.map eS)]) (js := [0]) rfl rfl ?_
  refine G.next_ hK41 ?_
  refine G.seq fun K45 hK46 => ?_
  refine G.seq fun K47 hK48 => ?_
  refine G.region ?_
  refine G.p rfl (V.move rfl) ?_
  refine G.lenb (enc := (eL eS 1)) (xs := b0) (sz := 1) (x := .tmp 25) (.of rfl) fun hN49 => ?_
  refine G.p rfl (V.len_sl (enc := (eL eS 1)) (xs := b0) (sz := 1) (.of rfl) Try.runUnderlying74) ?_
  refine G.p rfl (V.move rfl) ?_
  refine G.nil ?_
  refine G.norm (L' := [(6, .val x44), (25, eL (eL eS 1) 1 b0), (26, .val (.int .i64 (b0.length : Int))), (27, .val (.int .i64 0))]) (is := [6, 25, 26, 27]) (R' := [.row x44 9 1 (r42.map eS)]) (js := [0]) rfl rfl ?_
  refine G.next_ hK48 ?_
  refine G.join (E := fun b a w => ∃ (g_0 : Value), Ass Gl B 36 [(6, .val g_0)] [.row g_0 9 1 (b.map eS)] a w) ?_ ?_
  ·intro b hF57
   refine G.block ?_
   refine G.norm (L' := [(6, .val x44), (25, eL (eL eS 1) 1 b0), (26, .val (.int .i64 (b0.length : Int))), (27, .val (.int .i64 ((0 : Nat) : Int)))]) (is := [6, 25, 26, 27]) (R' := [.row x44 9 1 (r42.map eS)]) (js := [0]) rfl rfl ?_
   refine G.loop (fun kq a w => ∃ (rest54 : List (List Str)) (i52 : Nat) (x50 : List Str), kq = rest54.length ∧ slices_Concat_string_string.l2 rest54 x50 = some b ∧ b0.drop i52 = rest54 ∧ ∃ (g_0 : Value), Ass Gl B 36 [(6, .val g_0), (25, eL (eL eS 1) 1 b0), (26, .val (.int .i64 (b0.length : Int))), (27, .val (.int .i64 (i52 : Int)))] [.row g_0 9 1 (x50.map eS)] a w) (b0.length) ?_ ?_
   ·intro hl75 a w hA
    exact ⟨b0, 0, r42, rfl, hl75, rfl, ⟨_, hA⟩⟩
   ·rintro _ a w ⟨rest54, i52, x50, rfl, hl58, hd55, ⟨g51, hA⟩⟩
    rcases rest54 with _ | ⟨y53, rest54⟩
    ·rw [slices_Concat_string_string.l2_nil] at hl58
     refine G.use hl58 hA ?_
     refine G.seq fun K59 hK60 => ?_
     refine G.region ?_
     refine G.p rfl (V.bin (u := .int .i64 (i52 : Int)) (v := .int .i64 (b0.length : Int)) (r := .bool (decide ((i52 : Int) < (b0.length : Int)))) rfl rfl b_lss) ?_
     refine G.nil ?_
     refine G.norm (L' := [(6, .val g51), (25, eL (eL eS 1) 1 b0), (26, .val (.int .i64 (b0.length : Int))), (27, .val (.int .i64 (i52 : Int))), (28, .val (.bool (decide ((i52 : Int) < (b0.length : Int)))))]) (is := [6, 25, 26, 27, 28]) (R' := [.row g51 9 1 (x50.map eS)]) (js := [0]) rfl rfl ?_
     refine G.next_ hK60 ?_
     refine G.seq fun K61 hK62 => ?_
     refine G.no rfl (rng_end hd55) ?_
     refine G.exit ?_
     refine G.thn_exit ?_
     refine G.thn_exit ?_
     refine G.inB_eq ?_
     refine G.norm (L' := [(6, .val g51)]) (is := [6]) (R' := [.row g51 9 1 (x50.map eS)]) (js := [0]) rfl rfl ?_
     exact G.finE fun hb a w hA => by subst hb; exact ⟨_, hA⟩
    ·rw [slices_Concat_string_string.l2_cons] at hl58
     refine G.use hl58 hA ?_
     refine G.seq fun K63 hK64 => ?_
     refine G.region ?_
     refine G.p rfl (V.bin (u := .int .i64 (i52 : Int)) (v := .int .i64 (b0.length : Int)) (r := .bool (decide ((i52 : Int) < (b0.length : Int)))) rfl rfl b_lss) ?_
     refine G.nil ?_
     refine G.norm (L' := [(6, .val g51), (25, eL (eL eS 1) 1 b0), (26, .val (.int .i64 (b0.length : Int))), (27, .val (.int .i64 (i52 : Int))), (28, .val (.bool (decide ((i52 : Int) < (b0.length : Int)))))]) (is := [6, 25, 26, 27, 28]) (R' := [.row g51 9 1 (x50.map eS)]) (js := [0]) rfl rfl ?_
     refine G.next_ hK64 ?_
     refine G.seq fun K65 hK66 => ?_
     refine G.yes rfl (rng_more hd55) ?_
     refine G.skip ?_
     refine G.next_ hK66 ?_
     refine G.seq fun K67 hK68 => ?_
     refine G.block ?_
     refine G.seq fun K69 hK70 => ?_
     refine G.region ?_
     refine G.p rfl (V.at_sl (k := i52) rfl rfl Try.runUnderlying74 Try.sizeOf30 (map_at (rng_at hd55))) ?_
     refine G.q rfl (V.load_ptr (d := eL eS 1 y53) rfl Try.isAgg30 rfl) ?_
     refine G.p rfl (V.assign rfl) ?_
     refine G.nil ?_
     refine G.norm (L' := [(6, .val g51), (8, eL eS 1 y53), (25, eL (eL eS 1) 1 b0), (26, .val (.int .i64 (b0.length : Int))), (27, .val (.int .i64 (i52 : Int)))]) (is := [6, 8, 25, 26, 27]) (R' := [.row g51 9 1 (x50.map eS)]) (js := [0]) rfl rfl ?_
     refine G.next_ hK70 ?_
     refine G.region ?_
     refine G.p rfl (V.move rfl) ?_
     refine G.p rfl (V.move rfl) ?_
     refine G.bind fun l71 hl72 => ?_
     refine G.op rfl (O.append (i := 0) (enc := eS) (xs := x50) (ys := y53) (lim := 8796093022208) elt30 rfl rfl (.of rfl) (by decide) (by decide) (fun _ => one_S) hl72) fun v73 => ?_
     refine G.p rfl (V.assign rfl) ?_
     refine G.nil ?_
     refine G.norm (L' := [(6, .val v73), (25, eL (eL eS 1) 1 b0), (26, .val (.int .i64 (b0.length : Int))), (27, .val (.int .i64 (i52 : Int)))]) (is := [6, 25, 26, 27]) (R' := [.row v73 9 1 (l71.map eS)]) (js := [0]) rfl rfl ?_
     refine G.inB ?_
     refine G.next_ hK68 ?_
     refine G.region ?_
     refine G.p rfl (V.incr (i := i52) (N := b0.length) rfl rfl (rng_lt hd55) (hN49)) ?_
     refine G.p rfl (V.move rfl) ?_
     refine G.nil ?_
     refine G.norm (L' := [(6, .val v73), (25, eL (eL eS 1) 1 b0), (26, .val (.int .i64 (b0.length : Int))), (27, .val (.int .i64 ((i52 + 1 : Nat) : Int)))]) (is := [6, 25, 26, 27]) (R' := [.row v73 9 1 (l71.map eS)]) (js := [0]) rfl rfl ?_
     refine G.again ?_
     intro hl74 a w hA
     exact ⟨_, Nat.lt_succ_self _, rest54, i52 + 1, l71, rfl, hl74, rng_next hd55, ⟨_, hA⟩⟩
  ·rintro b76 hb a w ⟨g77, hA⟩ hF78
   refine G.use hF78 hA ?_
   refine G.next_ hK46 ?_
   refine G.seq fun K79 hK80 => ?_
   refine G.region ?_
   refine G.p rfl (V.move rfl) ?_
   refine G.p rfl (V.assign rfl) ?_
   refine G.nil ?_
   refine G.norm (L' := [(2, .val g77)]) (is := [2]) (R' := [.row g77 9 1 (b76.map eS)]) (js := [0]) rfl rfl ?_
   refine G.next_ hK80 ?_
   refine G.ret ?_
   refine G.fin_ fun hF81 => ?_
   obtain rfl := Option.some.inj hF81
   exact G.ret1 Try.results37 g77 (is := [0]) (.of rfl) rfl
end Go.Proofs.Ythbgngdoihkodac.Hx
