/- roadstead: ScopeSays. This text: HxU. Conditions: none beyond those that the statement itself names. -/
import Derived.Test.YthbgngdoihkodacHxS
import Derived.Test.YthbgngdoihkodacHxT
import Derived.Lib.AppendZeros
namespace Go.Proofs.Ythbgngdoihkodac.Hx
open Go.RowKit
section
variable {Γ L : List (Nat × D)} {P : Program} {n : Nat} {R : List Res} {dd : Option Nat} {ty : TypeId} {pos : String} {aft : Array Edge} {g : Option (Nat × Bool)} {β : Type} {Q : Exit → Act → World → Prop} {enc : β → D}
/-- the room of the nil slice -/
theorem V.cap0 {x : Operand} {t e : TypeId} (hx : ev Γ L x = some (.val (.slice none 0 0))) (hU : ∀ w, (underlying t).run P w = .ok (.slice e) w) :
    Qp Γ P n L ⟨dd, .call { callee := .builtin .cap, args := #[x], argTypes := #[t] }, ty, pos, aft, none⟩ (eI .i64 0) := fun S w a ha hg =>
  ⟨.int .i64 0, RdV.val.2 rfl, fun w' => by
    have h := ev_val ha hg hx
    simp [execOp, resolve, invoke, Go.builtin, Builtin.cap_, h, hU w', goInt, List.map_toArray]⟩
theorem V.slice0 {x : Operand} {lo hi : Option Operand} {t e sz : Nat} (hx : ev Γ L x = some (.val (.slice none 0 0))) (hU : ∀ w, (underlying t).run P w = .ok (.slice e) w) (hS : Sz P e sz)
    (hlo : Bd Γ L lo 0 0) (hhi : Bd Γ L hi 0 0) : Qp Γ P n L ⟨dd, .slice t x lo hi none, ty, pos, aft, g⟩ (.val (.slice none 0 0)) := fun S w a ha hg =>
  ⟨_, RdV.val.2 rfl, fun w' => run_slice (len := 0) (c := 0) (i := 0) (j := 0) (p := none) hU hS ha hg (by simpa using hlo) (by simpa using hhi) (Nat.le_refl _) (Nat.le_refl _) (Nat.le_refl _) (ev_val ha hg hx) w'⟩
theorem rep_at {z : List Value} (h1 : 0 < z.length) : ∀ (q j : Nat), j < q * z.length → (List.replicate q z).flatten[j]? = z[j % z.length]?
  | 0, j, hj => by simp at hj
  | q + 1, j, hj => by
    rw [List.replicate_succ, List.flatten_cons]
    by_cases hjs : j < z.length
    · rw [List.getElem?_append_left hjs, Nat.mod_eq_of_lt hjs]
    · rw [List.getElem?_append_right (by omega), rep_at h1 q (j - z.length) (by rw [Nat.succ_mul] at hj; omega)]
      congr 1
      rw [Nat.mod_eq_sub_mod (by omega : j ≥ z.length)]
theorem O.growz {t tn e sz bytes : Nat} {kn : IntKind} {z : List Value} {x y : Operand} {zz : β} {m : Nat} (E : Elt P t e sz bytes z) (htn : P.underlying tn = some (.int kn)) (hx : ev Γ L x = some (.val (.slice none 0 0))) (hy : ev Γ L y = some (.val (.int .i64 (m : Int)))) (h0 : 0 < m) (hz : ∀ S w, Rd S w (enc zz) z)
    (hb : m * bytes ≤ 140737488355328) (hl : m ≤ maxLen) :
    Op1 Γ P n L R ⟨dd, .call { callee := .builtin .append, args := #[x, y], argTypes := #[t, tn] }, ty, pos, aft, none⟩ Q (fun v : Value => .val v) (fun v => .row v e sz ((List.replicate m zz).map enc) :: R) := Op1.run fun B a S w ha hs => by
  obtain ⟨i, zv, hi, hzv, hs0, hb0, hzc⟩ := E.info
  have hpos := E.pos
  have hlz : zv.cells.size = sz := by rw [hzc]; simp [E.len]
  have hr := Lib.run_append_nil_zeros (P := P) w t tn ty e i zv .i64 kn E.sl htn hi hzv m h0 (by omega) (by simp only [maxLen] at hl; omega) (by rw [hb0]; omega)
  have hge := grownCap_ge w m 0 e
  have hcm : grownCap w m 0 e ≤ maxLen := grownCap_le_maxLen w m 0 e hl
  have hfl : ∀ q, (Builtin.zeroCells zv.cells q).toList = (List.replicate q z).flatten := fun q => by
    have h1 : 0 < z.length := by rw [E.len]; exact hpos
    apply List.ext_getElem?
    intro j
    by_cases hj : j < q * z.length
    · rw [rep_at h1 q j hj]
      have hj2 : j % z.length < z.length := Nat.mod_lt _ h1
      simp [Builtin.zeroCells, hzc, hj, hj2, List.getElem?_eq_getElem, Array.getElem!_eq_getD, Array.getD_eq_getD_getElem?]
    · rw [List.getElem?_eq_none (by simp [Builtin.zeroCells, hzc]; omega), List.getElem?_eq_none (by simp; omega)]
  have hle : Le [] w (w.drew.alloc (.cells (Builtin.zeroCells zv.cells m ++ Builtin.zeroCells zv.cells (grownCap w m 0 e - m)) e)) := (Le.drew w).trans0 (Le.alloc _ _)
  have hE : ∀ q, RdEach S w sz (List.replicate q (enc zz)) (List.replicate q z).flatten := by
    intro q
    induction q with
    | zero => simp [RdEach]
    | succ q ih =>
      rw [List.replicate_succ, List.replicate_succ, List.flatten_cons]
      simp only [RdEach]
      exact ⟨z, _, rfl, E.len, hz S w, ih⟩
  have hml : ((List.replicate m z).flatten).length = m * sz := by simp [E.len]
  refine ⟨.slice (some ⟨w.heap.size, 0, none⟩) m (grownCap w m 0 e), _, _, ?_, le_none hle, RdV.val.2 rfl, hs.add hle ⟨(List.replicate m z).flatten, ⟨by simp [E.len], some ⟨w.heap.size, 0, none⟩, _, by simp, by simpa using hge, hcm, .inr ⟨w.heap.size, 0, _, rfl, by omega, heap_alloc_new w.drew _, ?_, ?_⟩⟩, ?_⟩ (ob_nodup _) ?_⟩
  · have hx' := ev_val ha hs.glob hx
    have hy' := ev_val ha hs.glob hy
    simp only [execOp, resolve, invoke, builtin, Sem.run_bind, Sem.run_pure, Result.andThen_ok, List.map_toArray, List.map_cons, List.map_nil, hx', hy', hr]
  · simp only [Array.size_append, zeros_size (z := z) rfl, size_zeroCells, hlz, Nat.zero_add, ← Nat.add_mul]
    exact Nat.mul_le_mul_right _ (by omega)
  · simp only [List.drop_zero, Array.toList_append, hfl]
    exact List.take_left' (by rw [hml]; simp)
  · rw [List.map_replicate]
    exact (hE m).up (Up.of_le (W := []) hs.live (by simp) hle)
  · intro b hb
    simp only [Res.fp] at hb
    rw [ob_some (by omega)] at hb
    have : b = w.heap.size := by simpa using hb
    omega
/-! ### functions of the library, by their texts -/
section
variable {f : FuncId} {fn : Func} {t e sz bytes lim t3 t4 t20 : Nat} {z : List Value} {xs out : List β} {p0 p1 p2 p3 p4 p5 p6 p7 : String} {a0 a1 a2 a3 a4 a5 a6 a7 : Array Edge}
theorem clone_ct (hf : P.funcs[f]? = some fn) (hb : fn.body = some (.seq (.region 0 #[⟨some 2, .assign (.const (.slice none 0 0)), t, p0, a0, none⟩] false)
      (.seq (.seq (.region 1 #[⟨some 3, .move (.tmp 0), t, p1, a1, none⟩, ⟨some 4, .binOp .eql t (.tmp 3) (.const (.slice none 0 0)) t, t4, p2, a2, none⟩] false)
        (.cond (.tmp 4) (.seq (.region 2 #[⟨some 2, .assign (.const (.slice none 0 0)), t, p3, a3, none⟩] false) .ret) .skip))
       (.seq (.region 3 #[⟨some 5, .buildSlice t 0 #[], t, p4, a4, none⟩, ⟨some 6, .move (.tmp 0), t, p5, a5, none⟩, ⟨some 7, .call { callee := .builtin .append, args := #[.tmp 5, .tmp 6], argTypes := #[t, t] }, t, p6, a6, none⟩, ⟨some 2, .assign (.tmp 7), t, p7, a7, none⟩] false) .ret))))
    (hn : fn.ntmps = 8) (hres : fn.results = #[.tmp 2]) (E : Elt P t e sz bytes z) (hU : P.underlying t = some (.slice e)) (hlim : lim * bytes ≤ 140737488355328) (hlim2 : lim ≤ 9223372036854775807) (hOne : ∀ y : β, OneC [] (enc y))
    (h : cloneF lim xs = some out) : Ct Γ P f [eL enc sz xs] [] (fun x : Value => .val x) (fun x => [.row x e sz (out.map enc)]) := by
  refine ct_of_G (nt := 8) hf hb hn rfl (fun B => ?_) h
  unfold cloneF
  refine G.seq fun K1 hK1 => ?_
  refine G.region ?_
  refine G.p rfl (V.assign rfl) ?_
  refine G.nil ?_
  refine G.norm (L' := [(2, .val (.slice none 0 0)), (0, eL enc sz xs)]) (is := [2, 0]) (R' := []) (js := []) rfl rfl ?_
  refine G.next_ hK1 ?_
  refine G.seq fun K2 hK2 => ?_
  refine G.seq fun K3 hK3 => ?_
  refine G.region ?_
  refine G.p rfl (V.move rfl) ?_
  refine G.op rfl (O.eqnil (xs := xs) (enc := enc) (sz := sz) hU (.of rfl)) fun q => ?_
  refine G.nil ?_
  refine G.norm (L' := [(4, .val (.bool q.1)), (2, .val (.slice none 0 0)), (0, eL enc sz xs)]) (is := [4, 2, 0]) (R' := []) (js := []) rfl rfl ?_
  refine G.next_ hK3 ?_
  refine G.condF rfl (fun hb => ?_) (fun hb => ?_)
  · have hx := q.2 hb
    subst hx
    refine G.seq fun K4 hK4 => ?_
    refine G.region ?_
    refine G.p rfl (V.assign rfl) ?_
    refine G.nil ?_
    refine G.nilrow e sz none ?_
    refine G.norm (L' := [(2, .val (.slice none 0 0))]) (is := [2]) (R' := [.row (.slice none 0 0) e sz (([] : List β).map enc)]) (js := [0]) rfl rfl ?_
    refine G.next_ hK4 ?_
    refine G.ret ?_
    refine G.thn_ret ?_
    refine G.fin_ fun hF => ?_
    have ho : out = [] := by simp [app] at hF; exact hF
    subst ho
    exact G.ret1 hres (.slice none 0 0) (is := [0]) (.of rfl) rfl
  · refine G.skip ?_
    refine G.next_ hK2 ?_
    refine G.seq fun K4 hK4 => ?_
    refine G.region ?_
    refine G.op rfl (O.buildSlice (xs := []) (ds := ([] : List β).map enc) E rfl .nil rfl (by omega) (List.forall_mem_nil _) (List.forall_mem_nil _)) fun v5 => ?_
    refine G.p rfl (V.move rfl) ?_
    refine G.fin_ fun hF => ?_
    refine G.op rfl (O.append (i := 0) (enc := enc) (xs := []) (ys := xs) (lim := lim) E rfl rfl (.of rfl) hlim hlim2 hOne hF) fun v7 => ?_
    refine G.p rfl (V.assign rfl) ?_
    refine G.nil ?_
    refine G.norm (L' := [(2, .val v7)]) (is := [2]) (R' := [.row v7 e sz (out.map enc)]) (js := [0]) rfl rfl ?_
    refine G.next_ hK4 ?_
    refine G.ret ?_
    exact G.ret1 hres v7 (is := [0]) (.of rfl) rfl
end
def growF (lim : Nat) (xs : List β) (m : Int) : Option (List β) := if xs.length = 0 ∧ 0 ≤ m ∧ m ≤ (lim : Int) then some [] else none
section
variable {f : FuncId} {fn : Func} {t tn e sz bytes lim t3 t4 t20 : Nat} {z : List Value} {zz : β} {out : List β} {m : Int} {kn : IntKind} {C7 : Code} {p0 p1 p2 p3 p4 p5 p6 p7 p8 p9 p10 p11 p12 p13 p14 p15 p16 p17 p18 p19 p20 p21 p22 p23 p24 : String} {q0 q1 q2 q3 q4 q5 q6 q7 q8 q9 q10 q11 q12 q13 q14 q15 q16 q17 q18 q19 q20 q21 q22 q23 q24 : Array Edge}
theorem grow_ct (hf : P.funcs[f]? = some fn) (hb : fn.body = some (.seq (.region 0 #[⟨some 4, .assign (.const (.slice none 0 0)), t, p0, q0, none⟩] false)
   (.seq (.seq (.region 1 #[⟨some 5, .move (.tmp 1), tn, p1, q1, none⟩, ⟨some 6, .binOp .lss tn (.tmp 5) (.const (.int .i64 0)) tn, t4, p2, q2, none⟩] false) (.cond (.tmp 6) C7 .skip))
    (.seq (.seq (.region 3 #[⟨some 8, .move (.tmp 1), tn, p3, q3, none⟩, ⟨some 9, .move (.tmp 0), t, p4, q4, none⟩, ⟨some 10, .call { callee := .builtin .cap, args := #[.tmp 9], argTypes := #[t] }, tn, p5, q5, none⟩,
        ⟨some 11, .move (.tmp 0), t, p6, q6, none⟩, ⟨some 12, .call { callee := .builtin .len, args := #[.tmp 11], argTypes := #[t] }, tn, p7, q7, none⟩, ⟨some 13, .binOp .sub tn (.tmp 10) (.tmp 12) tn, tn, p8, q8, none⟩,
        ⟨some 14, .binOp .sub tn (.tmp 8) (.tmp 13) tn, tn, p9, q9, none⟩, ⟨some 1, .assign (.tmp 14), tn, p10, q10, none⟩] false)
      (.seq (.region 4 #[⟨some 15, .move (.tmp 1), tn, p11, q11, none⟩, ⟨some 16, .binOp .gtr tn (.tmp 15) (.const (.int .i64 0)) tn, t4, p12, q12, none⟩] false)
        (.cond (.tmp 16) (.region 5 #[⟨some 17, .move (.tmp 0), t, p13, q13, none⟩, ⟨some 18, .move (.tmp 0), t, p14, q14, none⟩, ⟨some 19, .call { callee := .builtin .cap, args := #[.tmp 18], argTypes := #[t] }, tn, p15, q15, none⟩,
          ⟨some 20, .slice t (.tmp 17) none (some (.tmp 19)) none, t, p16, q16, none⟩, ⟨some 21, .move (.tmp 1), tn, p17, q17, none⟩, ⟨some 22, .call { callee := .builtin .append, args := #[.tmp 20, .tmp 21], argTypes := #[t, tn] }, t, p18, q18, none⟩,
          ⟨some 23, .move (.tmp 0), t, p19, q19, none⟩, ⟨some 24, .call { callee := .builtin .len, args := #[.tmp 23], argTypes := #[t] }, tn, p20, q20, none⟩, ⟨some 25, .slice t (.tmp 22) none (some (.tmp 24)) none, t, p21, q21, none⟩, ⟨some 0, .assign (.tmp 25), t, p22, q22, none⟩] false) .skip)))
     (.seq (.region 6 #[⟨some 26, .move (.tmp 0), t, p23, q23, none⟩, ⟨some 4, .assign (.tmp 26), t, p24, q24, none⟩] false) .ret)))))
    (hn : fn.ntmps = 27) (hres : fn.results = #[.tmp 4]) (E : Elt P t e sz bytes z) (hU : ∀ w, (underlying t).run P w = .ok (.slice e) w) (hS : Sz P e sz) (htn : P.underlying tn = some (.int kn)) (hz : ∀ S w, Rd S w (enc zz) z) (hlim : lim * bytes ≤ 140737488355328) (hlim2 : lim ≤ maxLen)
    {xs : List β} (h : growF lim xs m = some out) : Ct Γ P f [.val (.slice none 0 0), eI .i64 m] [.row (.slice none 0 0) e sz (xs.map enc)] (fun x : Value => .val x) (fun x => [.row x e sz (out.map enc)]) := by
  unfold growF at h
  split at h
  · rename_i hc
    obtain ⟨hx, h0, hm⟩ := hc
    have hx : xs = [] := List.eq_nil_of_length_eq_zero hx
    subst hx
    simp only [Option.some.injEq] at h
    subst h
    obtain ⟨k, rfl⟩ := Int.eq_ofNat_of_zero_le h0
    have hk : k ≤ lim := by omega
    have hk2 : k ≤ maxLen := by omega
    have hw : subI (k : Int) (subI 0 0) = (k : Int) := by simp only [maxLen] at hk2; simp only [subI, IntKind.wrap_i64]; omega
    refine ct_of_G (F := some ()) (out := ()) (nt := 27) hf hb hn rfl (fun B => ?_) rfl
    refine G.seq fun K1 hK1 => ?_
    refine G.region ?_
    refine G.p rfl (V.assign rfl) ?_
    refine G.nil ?_
    refine G.norm (L' := [(0, .val (.slice none 0 0)), (1, eI .i64 k)]) (is := [0, 1]) (R' := [.row (.slice none 0 0) e sz (([] : List β).map enc)]) (js := [0]) rfl rfl ?_
    refine G.next_ hK1 ?_
    refine G.seq fun K2 hK2 => ?_
    refine G.seq fun K3 hK3 => ?_
    refine G.region ?_
    refine G.p rfl (V.move rfl) ?_
    refine G.p rfl (V.bin (u := .int .i64 k) (v := .int .i64 0) (r := .bool (decide ((k : Int) < 0))) rfl rfl b_lss) ?_
    refine G.nil ?_
    refine G.norm (L' := [(6, .val (.bool (decide ((k : Int) < 0)))), (0, .val (.slice none 0 0)), (1, eI .i64 k)]) (is := [6, 0, 1]) (R' := [.row (.slice none 0 0) e sz (([] : List β).map enc)]) (js := [0]) rfl rfl ?_
    refine G.next_ hK3 ?_
    refine G.no rfl (by simp) ?_
    refine G.skip ?_
    refine G.next_ hK2 ?_
    refine G.seq fun K4 hK4 => ?_
    refine G.seq fun K5 hK5 => ?_
    refine G.region ?_
    refine G.p rfl (V.move rfl) ?_
    refine G.p rfl (V.move rfl) ?_
    refine G.p rfl (V.cap0 rfl hU) ?_
    refine G.p rfl (V.move rfl) ?_
    refine G.p rfl (V.len_sl (enc := enc) (xs := []) (sz := sz) (.nil rfl) hU) ?_
    refine G.p rfl (V.bin (u := .int .i64 0) (v := .int .i64 ((0 : Nat) : Int)) (r := .int .i64 (subI 0 0)) rfl rfl b_sub) ?_
    refine G.p rfl (V.bin (u := .int .i64 k) (v := .int .i64 (subI 0 0)) (r := .int .i64 (subI k (subI 0 0))) rfl rfl b_sub) ?_
    refine G.view (dv' := eI .i64 k) (by rw [hw]; rfl) ?_
    refine G.p rfl (V.assign rfl) ?_
    refine G.nil ?_
    refine G.norm (L' := [(0, .val (.slice none 0 0)), (1, eI .i64 k)]) (is := [0, 1]) (R' := [.row (.slice none 0 0) e sz (([] : List β).map enc)]) (js := [0]) rfl rfl ?_
    refine G.next_ hK5 ?_
    refine G.cutc (fun a w => ∃ v, Ass Γ B 27 [(0, .val v)] [.row v e sz (([] : List β).map enc)] a w) ?_ ?_
    · refine G.seq fun K6 hK6 => ?_
      refine G.region ?_
      refine G.p rfl (V.move rfl) ?_
      refine G.p rfl (V.bin (u := .int .i64 k) (v := .int .i64 0) (r := .bool (decide ((k : Int) > 0))) rfl rfl b_gtr) ?_
      refine G.nil ?_
      refine G.norm (L' := [(16, .val (.bool (decide ((k : Int) > 0)))), (0, .val (.slice none 0 0)), (1, eI .i64 k)]) (is := [16, 0, 1]) (R' := [.row (.slice none 0 0) e sz (([] : List β).map enc)]) (js := [0]) rfl rfl ?_
      refine G.next_ hK6 ?_
      refine G.condF rfl (fun hpp => ?_) (fun hpp => ?_)
      · have hpos : 0 < k := by simpa using hpp
        refine G.region ?_
        refine G.p rfl (V.move rfl) ?_
        refine G.p rfl (V.move rfl) ?_
        refine G.p rfl (V.cap0 rfl hU) ?_
        refine G.p rfl (V.slice0 (lo := none) (hi := some (.tmp 19)) rfl hU hS rfl rfl) ?_
        refine G.p rfl (V.move rfl) ?_
        refine G.op rfl (O.growz (enc := enc) (zz := zz) E htn rfl rfl hpos hz (Nat.le_trans (Nat.mul_le_mul_right _ hk) hlim) hk2) fun v22 => ?_
        refine G.p rfl (V.move rfl) ?_
        refine G.p rfl (V.len_sl (enc := enc) (xs := []) (sz := sz) (.nil rfl) hU) ?_
        refine G.op rfl (O.sub_row (k := 0) (enc := enc) (xs := List.replicate k zz) (r := []) (l := 0) (h := 0) (lo := none) (hi := some (.tmp 24)) rfl rfl hU hS rfl rfl (by simp [sub])) fun v25 => ?_
        refine G.p rfl (V.assign rfl) ?_
        refine G.nil ?_
        refine G.norm (L' := [(0, .val v25)]) (is := [0]) (R' := [.row v25 e sz (([] : List β).map enc)]) (js := [0]) rfl rfl ?_
        exact G.again fun _ a w hA => ⟨_, hA⟩
      · refine G.skip ?_
        refine G.norm (L' := [(0, .val (.slice none 0 0))]) (is := [0]) (R' := [.row (.slice none 0 0) e sz (([] : List β).map enc)]) (js := [0]) rfl rfl ?_
        exact G.again fun _ a w hA => ⟨_, hA⟩
    · rintro a w ⟨v, hA⟩ hF
      refine G.use hF hA ?_
      refine G.next_ hK4 ?_
      refine G.seq fun K7 hK7 => ?_
      refine G.region ?_
      refine G.p rfl (V.move rfl) ?_
      refine G.p rfl (V.assign rfl) ?_
      refine G.nil ?_
      refine G.norm (L' := [(4, .val v)]) (is := [4]) (R' := [.row v e sz (([] : List β).map enc)]) (js := [0]) rfl rfl ?_
      refine G.next_ hK7 ?_
      refine G.ret ?_
      exact G.ret1 hres v (is := [0]) (.of rfl) rfl
  · cases h
end
end
end Go.Proofs.Ythbgngdoihkodac.Hx
