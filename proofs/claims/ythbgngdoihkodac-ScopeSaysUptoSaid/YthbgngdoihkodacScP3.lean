/- roadstead: ScopeSays. This text: ScP3. Conditions: none beyond those that the statement itself names. -/
import Derived.Test.YthbgngdoihkodacScP2
namespace Go.Proofs.Ythbgngdoihkodac.Hx
open Go Go.Proofs.Ythbgngdoihkodac.Hx Go.RowKit Go.Proofs

/-! ### sizes of a program's parts -/
def T_Func.sz (f : T_Func) : Nat := f.fParams.length + f.fNames.length + f.fBody.sz + 1
def T_Data.sz (d : T_Data) : Nat := d.fParams.length + d.fMakes.length + 1
def T_Trait.sz (d : T_Trait) : Nat := (d.fFuncs.map T_Func.sz).sum + 1
def T_Impl.sz (d : T_Impl) : Nat := (d.fFuncs.map T_Func.sz).sum + 1
def T_Actor.sz (a : T_Actor) : Nat := a.fNames.length + a.fBody.sz + 1
def T_Program.sz (p : T_Program) : Nat := p.fUses.length + (p.fDatas.map T_Data.sz).sum + (p.fTraits.map T_Trait.sz).sum + (p.fImpls.map T_Impl.sz).sum + (p.fFuncs.map T_Func.sz).sum + (p.fActors.map T_Actor.sz).sum + 1
section
variable {α β : Type}
theorem sum_mem {f : α → Nat} : ∀ {l : List α} {y : α}, y ∈ l → f y ≤ (l.map f).sum
  | x :: l, y, h => by
    rcases List.mem_cons.1 h with rfl | h
    · simp
    · have := sum_mem (f := f) h; simp; omega
theorem flat_len {g : α → List β} {m : α → Nat} (h : ∀ y, (g y).length ≤ m y) : ∀ l : List α, (l.flatMap g).length ≤ (l.map m).sum
  | [] => by simp
  | x :: l => by
    have := flat_len h l; have := h x
    rw [List.flatMap_cons, List.length_append, List.map_cons, List.sum_cons]; omega
theorem len_sum {m : α → Nat} (h : ∀ y, 1 ≤ m y) : ∀ l : List α, l.length ≤ (l.map m).sum
  | [] => by simp
  | x :: l => by have := len_sum h l; have := h x; simp; omega
theorem fm1 {f : α → β} (l : List α) : (l.flatMap fun y => [f y]) = l.map f := by induction l with | nil => rfl | cons a l ih => simp [ih]
end
theorem T_Func.pos (f : T_Func) : 1 ≤ f.sz := by simp [T_Func.sz]
theorem T_Actor.pos (f : T_Actor) : 1 ≤ f.sz := by simp [T_Actor.sz]
theorem T_Data.pos (f : T_Data) : 1 ≤ f.sz := by simp [T_Data.sz]
theorem T_Trait.pos (f : T_Trait) : 1 ≤ f.sz := by simp [T_Trait.sz]

/-! ### a program's names -/
def makers (p : T_Program) : List Str := p.fDatas.flatMap fun d => d.fMakes.map T_Make.fName
def calls (p : T_Program) : List Str := (p.fTraits.flatMap fun t => t.fFuncs.map T_Func.fName) ++ p.fFuncs.map T_Func.fName
def actors (p : T_Program) : List Str := p.fActors.map T_Actor.fName
def funs (p : T_Program) : List T_Func := p.fImpls.flatMap T_Impl.fFuncs ++ p.fFuncs
def bodies (p : T_Program) : List T_Expr := (funs p).map T_Func.fBody ++ p.fActors.map T_Actor.fBody
theorem makers_len (p : T_Program) : (makers p).length ≤ p.sz := by
  have := flat_len (g := fun d : T_Data => d.fMakes.map T_Make.fName) (m := T_Data.sz) (fun y => by simp [T_Data.sz]; omega) p.fDatas
  simp only [makers, T_Program.sz]; omega
theorem funcs_len (fs : List T_Func) : fs.length ≤ (fs.map T_Func.sz).sum := len_sum T_Func.pos fs
theorem calls_len (p : T_Program) : (calls p).length ≤ p.sz := by
  have := flat_len (g := fun d : T_Trait => d.fFuncs.map T_Func.fName) (m := T_Trait.sz) (fun y => by have := funcs_len y.fFuncs; simp [T_Trait.sz]; omega) p.fTraits
  have := funcs_len p.fFuncs
  simp only [calls, T_Program.sz, List.length_append, List.length_map]; omega
theorem actors_len (p : T_Program) : (actors p).length ≤ p.sz := by
  have := len_sum T_Actor.pos p.fActors
  simp only [actors, T_Program.sz, List.length_map]; omega
theorem impls_len (p : T_Program) : (p.fImpls.flatMap T_Impl.fFuncs).length ≤ (p.fImpls.map T_Impl.sz).sum := flat_len (fun y => by have := funcs_len y.fFuncs; simp [T_Impl.sz]; omega) p.fImpls
theorem funs_len (p : T_Program) : (funs p).length + p.fActors.length ≤ p.sz := by
  have := impls_len p
  have := funcs_len p.fFuncs
  have := len_sum T_Actor.pos p.fActors
  simp only [funs, T_Program.sz, List.length_append]; omega
theorem sum_flat {α β : Type} {g : α → List β} {f : β → Nat} : ∀ l : List α, ((l.flatMap g).map f).sum = (l.map fun y => ((g y).map f).sum).sum
  | [] => rfl
  | x :: l => by simp [List.flatMap_cons, sum_flat l]
theorem sum_le_sum {α : Type} {f g : α → Nat} (h : ∀ y, f y ≤ g y) : ∀ l : List α, (l.map f).sum ≤ (l.map g).sum
  | [] => by simp
  | x :: l => by have := sum_le_sum h l; have := h x; simp; omega
theorem funs_sz (p : T_Program) : ((funs p).map T_Func.sz).sum + (p.fActors.map T_Actor.sz).sum ≤ p.sz := by
  have h1 : ((p.fImpls.flatMap T_Impl.fFuncs).map T_Func.sz).sum ≤ (p.fImpls.map T_Impl.sz).sum := by
    rw [sum_flat]; exact sum_le_sum (fun y => by simp [T_Impl.sz]) _
  simp only [funs, T_Program.sz, List.map_append, List.sum_append]; omega
theorem fun_sz {p : T_Program} {f : T_Func} (h : f ∈ funs p) : f.sz ≤ p.sz := by
  have := funs_sz p; have := sum_mem (f := T_Func.sz) h; omega
theorem actor_sz {p : T_Program} {f : T_Actor} (h : f ∈ p.fActors) : f.sz ≤ p.sz := by
  have := funs_sz p; have := sum_mem (f := T_Actor.sz) h; omega
theorem data_sz {p : T_Program} {f : T_Data} (h : f ∈ p.fDatas) : f.sz ≤ p.sz := by
  have := sum_mem (f := T_Data.sz) h; simp only [T_Program.sz]; omega
theorem trait_sz {p : T_Program} {f : T_Trait} (h : f ∈ p.fTraits) : f.sz ≤ p.sz := by
  have := sum_mem (f := T_Trait.sz) h; simp only [T_Program.sz]; omega
theorem body_sz {p : T_Program} {e : T_Expr} (h : e ∈ bodies p) : e.sz + 1 ≤ p.sz := by
  simp only [bodies, List.mem_append, List.mem_map] at h
  rcases h with ⟨f, hf, rfl⟩ | ⟨f, hf, rfl⟩
  · have := fun_sz hf; simp only [T_Func.sz] at this; omega
  · have := actor_sz hf; simp only [T_Actor.sz] at this; omega
section
variable {p : T_Program}
theorem scope_makers (hp : p.sz ≤ 1048576) : scope_Makers p = some (makers p) := by
  have h2 : ∀ ms x, x.length + (ms.map T_Make.fName).length ≤ 8796093022208 → scope_Makers.l2 ms x = some (x ++ ms.map T_Make.fName) := fun ms x h => by
    have := loop_app (lim := 8796093022208) (F := scope_Makers.l2) (I := fun y x => app 8796093022208 x [y.fName]) (g := fun y => [y.fName]) (fun _ => rfl) (fun _ _ _ => rfl) ms x (fun y _ x h => app_ok h) (by rw [fm1]; exact h)
    rwa [fm1] at this
  have h1 : scope_Makers.l1 p.fDatas [] = some ([] ++ makers p) := loop_app (lim := 8796093022208) (F := scope_Makers.l1) (I := fun y x => scope_Makers.l2 y.fMakes x) (fun _ => rfl) (fun _ _ _ => rfl) p.fDatas [] (fun y _ x h => h2 _ _ h) (by have := makers_len p; simp only [makers] at this; simp only [List.length_nil]; omega)
  unfold scope_Makers; rw [h1]; rfl
theorem ref_makers (hp : p.sz ≤ 1048576) : roadref2_makersOf p = some (makers p) := by
  have h2 : ∀ ms x, x.length + (ms.map T_Make.fName).length ≤ 8796093022208 → roadref2_makersOf.l2 ms x = some (x ++ ms.map T_Make.fName) := fun ms x h => by
    have := loop_app (lim := 8796093022208) (F := roadref2_makersOf.l2) (I := fun y x => app 8796093022208 x [y.fName]) (g := fun y => [y.fName]) (fun _ => rfl) (fun _ _ _ => rfl) ms x (fun y _ x h => app_ok h) (by rw [fm1]; exact h)
    rwa [fm1] at this
  have h1 : roadref2_makersOf.l1 p.fDatas [] = some ([] ++ makers p) := loop_app (lim := 8796093022208) (F := roadref2_makersOf.l1) (I := fun y x => roadref2_makersOf.l2 y.fMakes x) (fun _ => rfl) (fun _ _ _ => rfl) p.fDatas [] (fun y _ x h => h2 _ _ h) (by have := makers_len p; simp only [makers] at this; simp only [List.length_nil]; omega)
  unfold roadref2_makersOf; rw [h1]; rfl
theorem scope_calls (hp : p.sz ≤ 1048576) : scope_Callable p = some (calls p) := by
  have h2 : ∀ ms x, x.length + (ms.map T_Func.fName).length ≤ 8796093022208 → scope_Callable.l2 ms x = some (x ++ ms.map T_Func.fName) := fun ms x h => by
    have := loop_app (lim := 8796093022208) (F := scope_Callable.l2) (I := fun y x => app 8796093022208 x [y.fName]) (g := fun y => [y.fName]) (fun _ => rfl) (fun _ _ _ => rfl) ms x (fun y _ x h => app_ok h) (by rw [fm1]; exact h)
    rwa [fm1] at this
  have h3 : ∀ ms x, x.length + (ms.map T_Func.fName).length ≤ 8796093022208 → scope_Callable.l3 ms x = some (x ++ ms.map T_Func.fName) := fun ms x h => by
    have := loop_app (lim := 8796093022208) (F := scope_Callable.l3) (I := fun y x => app 8796093022208 x [y.fName]) (g := fun y => [y.fName]) (fun _ => rfl) (fun _ _ _ => rfl) ms x (fun y _ x h => app_ok h) (by rw [fm1]; exact h)
    rwa [fm1] at this
  have hl := calls_len p
  simp only [calls, List.length_append] at hl
  have h1 := loop_app (lim := 8796093022208) (F := scope_Callable.l1) (I := fun y x => scope_Callable.l2 y.fFuncs x) (g := fun t => t.fFuncs.map T_Func.fName) (fun _ => rfl) (fun _ _ _ => rfl) p.fTraits [] (fun y _ x h => h2 _ _ h) (by simp only [List.length_nil]; omega)
  unfold scope_Callable; rw [h1]; simp only [Option.bind_some, List.nil_append]; rw [h3 _ _ (by omega)]; rfl
theorem ref_calls (hp : p.sz ≤ 1048576) : roadref2_callsOf p = some (calls p) := by
  have h2 : ∀ ms x, x.length + (ms.map T_Func.fName).length ≤ 8796093022208 → roadref2_callsOf.l2 ms x = some (x ++ ms.map T_Func.fName) := fun ms x h => by
    have := loop_app (lim := 8796093022208) (F := roadref2_callsOf.l2) (I := fun y x => app 8796093022208 x [y.fName]) (g := fun y => [y.fName]) (fun _ => rfl) (fun _ _ _ => rfl) ms x (fun y _ x h => app_ok h) (by rw [fm1]; exact h)
    rwa [fm1] at this
  have h3 : ∀ ms x, x.length + (ms.map T_Func.fName).length ≤ 8796093022208 → roadref2_callsOf.l3 ms x = some (x ++ ms.map T_Func.fName) := fun ms x h => by
    have := loop_app (lim := 8796093022208) (F := roadref2_callsOf.l3) (I := fun y x => app 8796093022208 x [y.fName]) (g := fun y => [y.fName]) (fun _ => rfl) (fun _ _ _ => rfl) ms x (fun y _ x h => app_ok h) (by rw [fm1]; exact h)
    rwa [fm1] at this
  have hl := calls_len p
  simp only [calls, List.length_append] at hl
  have h1 := loop_app (lim := 8796093022208) (F := roadref2_callsOf.l1) (I := fun y x => roadref2_callsOf.l2 y.fFuncs x) (g := fun t => t.fFuncs.map T_Func.fName) (fun _ => rfl) (fun _ _ _ => rfl) p.fTraits [] (fun y _ x h => h2 _ _ h) (by simp only [List.length_nil]; omega)
  unfold roadref2_callsOf; rw [h1]; simp only [Option.bind_some, List.nil_append]; rw [h3 _ _ (by omega)]; rfl
theorem scope_actors (hp : p.sz ≤ 1048576) : scope_Actors p = some (actors p) := by
  have hl := actors_len p
  have h1 := loop_app (lim := 8796093022208) (F := scope_Actors.l1) (I := fun y x => app 8796093022208 x [y.fName]) (g := fun y => [y.fName]) (fun _ => rfl) (fun _ _ _ => rfl) p.fActors [] (fun y _ x h => app_ok h) (by rw [fm1]; simp only [actors] at hl; simp only [List.length_nil]; omega)
  rw [fm1] at h1
  unfold scope_Actors; rw [h1]; rfl
theorem ref_actors (hp : p.sz ≤ 1048576) : roadref2_actorsOf p = some (actors p) := by
  have hl := actors_len p
  have h1 := loop_app (lim := 8796093022208) (F := roadref2_actorsOf.l1) (I := fun y x => app 8796093022208 x [y.fName]) (g := fun y => [y.fName]) (fun _ => rfl) (fun _ _ _ => rfl) p.fActors [] (fun y _ x h => app_ok h) (by rw [fm1]; simp only [actors] at hl; simp only [List.length_nil]; omega)
  rw [fm1] at h1
  unfold roadref2_actorsOf; rw [h1]; rfl
theorem ref_funs (hp : p.sz ≤ 1048576) : roadref2_FunsOf p = some (funs p) := by
  have hl := funs_len p
  simp only [funs, List.length_append] at hl
  have h1 := loop_app (lim := 517417236600) (F := roadref2_FunsOf.l1) (I := fun y x => app 517417236600 x y.fFuncs) (g := T_Impl.fFuncs) (fun _ => rfl) (fun _ _ _ => rfl) p.fImpls [] (fun y _ x h => app_ok h) (by simp only [List.length_nil]; omega)
  unfold roadref2_FunsOf; rw [h1]; simp only [Option.bind_some, List.nil_append]; rw [app_ok (by omega)]; rfl
theorem ref_bodies (hp : p.sz ≤ 1048576) : roadref2_BodiesOf p = some (bodies p) := by
  have hl := funs_len p
  have h1 := loop_app (lim := 1034834473200) (F := roadref2_BodiesOf.l1) (I := fun y x => app 1034834473200 x [y.fBody]) (g := fun y => [y.fBody]) (fun _ => rfl) (fun _ _ _ => rfl) (funs p) [] (fun y _ x h => app_ok h) (by rw [fm1]; simp only [List.length_nil, List.length_map]; omega)
  have h2 := loop_app (lim := 1034834473200) (F := roadref2_BodiesOf.l2) (I := fun y x => app 1034834473200 x [y.fBody]) (g := fun y => [y.fBody]) (fun _ => rfl) (fun _ _ _ => rfl) p.fActors ((funs p).map T_Func.fBody) (fun y _ x h => app_ok h) (by rw [fm1]; simp only [List.length_map]; omega)
  rw [fm1] at h1 h2
  unfold roadref2_BodiesOf; rw [ref_funs hp]; simp only [Option.bind_some]; rw [h1]; simp only [Option.bind_some, List.nil_append]; rw [h2]; rfl
end

/-! ### all the expressions of an expression; only that the count ends -/
theorem take_snoc {α : Type} {l : List α} {j : Nat} (h : j < l.length) : l.take (j + 1) = l.take j ++ [l[j]] := by rw [List.take_add_one, List.getElem?_eq_getElem h]; rfl
theorem all_l2 (y : T_Expr) (hy : y.sz ≤ 1048576) : ∀ (kf j : Nat) (x : List T_Expr), j < kf → j ≤ y.fArms.length → x.length + j ≤ 1048576 → roadref2_All.l2 y kf x ((j : Int) - 1) = some (x ++ ((y.fArms.take j).map T_Arm.fBody).reverse)
  | kf + 1, 0, x, h, hj, hx => by rw [roadref2_All.l2]; simp
  | kf + 1, j + 1, x, h, hj, hx => by
    rw [roadref2_All.l2]
    have e : ((j + 1 : Nat) : Int) - 1 = (j : Int) := by omega
    rw [e, if_pos (by simp)]
    have e1 : nth y.fArms (j : Int) = some y.fArms[j] := by simp [nth, hj]
    rw [e1]; simp only [Option.bind_some]
    rw [app_ok (by simp; omega)]; simp only [Option.bind_some]
    rw [subI_eq (by omega) (by omega), all_l2 y hy kf j _ (by omega) (by omega) (by simp; omega)]
    rw [take_snoc hj]
    simp only [List.map_append, List.map_cons, List.map_nil, List.reverse_append, List.reverse_cons, List.reverse_nil, List.nil_append, List.append_assoc, List.cons_append]
theorem all_l3 (y : T_Expr) (hy : y.sz ≤ 1048576) : ∀ (kf j : Nat) (x : List T_Expr), j < kf → j ≤ y.fArgs.length → x.length + j ≤ 1048576 → roadref2_All.l3 y kf x ((j : Int) - 1) = some (x ++ (y.fArgs.take j).reverse)
  | kf + 1, 0, x, h, hj, hx => by rw [roadref2_All.l3]; simp
  | kf + 1, j + 1, x, h, hj, hx => by
    rw [roadref2_All.l3]
    have e : ((j + 1 : Nat) : Int) - 1 = (j : Int) := by omega
    rw [e, if_pos (by simp)]
    have e1 : nth y.fArgs (j : Int) = some y.fArgs[j] := by simp [nth, hj]
    rw [e1]; simp only [Option.bind_some]
    rw [app_ok (by simp; omega)]; simp only [Option.bind_some]
    rw [subI_eq (by omega) (by omega), all_l3 y hy kf j _ (by omega) (by omega) (by simp; omega)]
    rw [take_snoc hj]
    simp only [List.map_append, List.map_cons, List.map_nil, List.reverse_append, List.reverse_cons, List.reverse_nil, List.nil_append, List.append_assoc, List.cons_append]
theorem szEs_reverse : ∀ l, szEs l.reverse = szEs l
  | [] => rfl
  | x :: l => by rw [List.reverse_cons, szEs_append, szEs_reverse l]; simp [szEs]; omega
theorem szAs_bodies : ∀ l : List T_Arm, szEs (l.map T_Arm.fBody) ≤ szAs l
  | [] => by simp [szEs]
  | .mk p b :: l => by have := szAs_bodies l; simp [szEs, szAs, T_Arm.fBody, T_Arm.sz]; omega
theorem T_Expr.sz_eq (y : T_Expr) : y.sz = y.fNames.length + szEs y.fArgs + szAs y.fArms + 2 := by cases y; rfl
theorem all_l1 (k B : Nat) : ∀ (kf : Nat) (st out : List T_Expr), szEs st < kf → szEs st < k → szEs st + out.length ≤ 1048576 → (∀ y ∈ out, y.sz ≤ B) → (∀ y ∈ st, y.sz ≤ B) → ∃ r, roadref2_All.l1 k kf st out = some r ∧ r.length ≤ 1048576 ∧ ∀ y ∈ r, y.sz ≤ B
  | 0, st, out, h, _, _, _, _ => by omega
  | kf + 1, st, out, h, hk, hN, hB, hS => by
    rcases List.eq_nil_or_concat st with rfl | ⟨st, y, rfl⟩
    · exact ⟨out, by rw [roadref2_All.l1]; simp, by omega, hB⟩
    · rw [List.concat_eq_append] at *
      rw [szEs_append] at h hk hN
      simp only [szEs, Nat.add_zero] at h hk hN
      have hy := y.sz_eq
      have hy2 := y.sz_pos
      have ha := szEs_len y.fArgs
      have hm := szAs_len y.fArms
      have hst := szEs_len st
      have hbl := szAs_bodies y.fArms
      obtain ⟨r, h1, h2, h3⟩ := all_l1 k B kf (st ++ ((y.fArms.map T_Arm.fBody).reverse ++ y.fArgs.reverse)) (out ++ [y]) (by rw [szEs_append, szEs_append, szEs_reverse, szEs_reverse]; omega) (by rw [szEs_append, szEs_append, szEs_reverse, szEs_reverse]; omega) (by rw [szEs_append, szEs_append, szEs_reverse, szEs_reverse, List.length_append]; simp only [List.length_cons, List.length_nil]; omega)
        (fun z hz => by
          rcases List.mem_append.1 hz with hz | hz
          · exact hB z hz
          · rw [List.mem_singleton.1 hz]; exact hS y (by simp))
        (fun z hz => by
          have hyB := hS y (by simp)
          rcases List.mem_append.1 hz with hz | hz
          · exact hS z (by simp [hz])
          · rcases List.mem_append.1 hz with hz | hz
            · have := szEs_mem (List.mem_reverse.1 hz); omega
            · have := szEs_mem (List.mem_reverse.1 hz); omega)
      refine ⟨r, ?_, h2, h3⟩
      rw [roadref2_All.l1]
      have hlen : ((st ++ [y]).length : Int) = (st.length : Int) + 1 := by simp
      have e0 : subI ((st ++ [y]).length : Int) 1 = (st.length : Int) := by rw [hlen, subI_eq (by omega) (by omega)]; omega
      rw [e0, if_pos (by rw [hlen]; simp)]
      have e1 : nth (st ++ [y]) (st.length : Int) = some y := by simp [nth]
      have e2 : sub (st ++ [y]) 0 (st.length : Int) = some st := by simp [sub]; omega
      rw [e1, e2]; simp only [Option.bind_some]
      rw [app_ok (by simp; omega)]; simp only [Option.bind_some]
      rw [subI_eq (by omega) (by omega), all_l2 y (by omega) k _ st (by omega) (Nat.le_refl _) (by omega), List.take_length]
      simp only [Option.bind_some]
      rw [subI_eq (by omega) (by omega), all_l3 y (by omega) k _ _ (by omega) (Nat.le_refl _) (by simp; omega), List.take_length]
      simp only [Option.bind_some]
      rw [List.append_assoc, h1]
theorem sizeOf_some {k : Nat} {e : T_Expr} (hk : e.sz < k) (hN : e.sz ≤ 1048576) : ∃ n, roadref2_SizeOf k e = some n := by
  obtain ⟨r, h1, h2, h3⟩ := all_l1 k e.sz k [e] [] (by simpa [szEs] using hk) (by simpa [szEs] using hk) (by simpa [szEs] using hN) (by simp) (by simp)
  have l2 : ∀ (ms : List T_Arm) (acc : Int), szAs ms ≤ e.sz → ∃ n, roadref2_SizeOf.l2 k ms acc = some n := by
    intro ms
    induction ms with
    | nil => intro acc _; exact ⟨acc, rfl⟩
    | cons a ms ih =>
      intro acc h
      obtain ⟨p, b⟩ := a
      simp only [szAs, T_Arm.sz] at h
      obtain ⟨l, h4, _, _⟩ := pats (fun _ => true) (k := k) (p := p) (by omega) (by omega)
      rw [roadref2_SizeOf.l2]
      simp only [T_Arm.fPat, h4, Option.bind_some]
      exact ih _ (by omega)
  have l1 : ∀ (l : List T_Expr) (acc : Int), (∀ y ∈ l, y.sz ≤ e.sz) → ∃ n, roadref2_SizeOf.l1 k l acc = some n := by
    intro l
    induction l with
    | nil => intro acc _; exact ⟨acc, rfl⟩
    | cons y l ih =>
      intro acc h
      rw [roadref2_SizeOf.l1]
      have hy := h y (by simp)
      obtain ⟨n, h4⟩ := l2 y.fArms (addI acc 1) (by have := y.sz_eq; omega)
      simp only [h4, Option.bind_some]
      exact ih _ fun z hz => h z (by simp [hz])
  obtain ⟨n, h4⟩ := l1 r 0 h3
  refine ⟨n, ?_⟩
  unfold roadref2_SizeOf roadref2_All
  simp only [h1, Option.bind_some, h4]
theorem small_some {k : Nat} {p : T_Program} (hk : p.sz < k) (hN : p.sz ≤ 1048576) : ∃ b, roadlaw2_small k p = some b := by
  have l1 : ∀ (l : List T_Expr) (acc : Int), (∀ y ∈ l, y.sz ≤ p.sz) → ∃ n, roadlaw2_small.l1 k l acc = some n := by
    intro l
    induction l with
    | nil => intro acc _; exact ⟨acc, rfl⟩
    | cons y l ih =>
      intro acc h
      rw [roadlaw2_small.l1]
      have hy := h y (by simp)
      obtain ⟨n, h4⟩ := sizeOf_some (k := k) (e := y) (by omega) (by omega)
      simp only [h4, Option.bind_some]
      exact ih _ fun z hz => h z (by simp [hz])
  obtain ⟨n, h⟩ := l1 (bodies p) 0 fun y hy => by have := body_sz hy; omega
  exact ⟨_, by unfold roadlaw2_small; simp only [ref_bodies hN, Option.bind_some, h]; rfl⟩
end Go.Proofs.Ythbgngdoihkodac.Hx
