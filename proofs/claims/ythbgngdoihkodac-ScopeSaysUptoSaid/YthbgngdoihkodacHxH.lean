/- roadstead: ScopeSays. This text: HxH. Conditions: none beyond those that the statement itself names. -/
import Derived.Test.YthbgngdoihkodacHxG
import Derived.MapKept
import Derived.WideMake
namespace Go.Proofs.Ythbgngdoihkodac.Hx
open Go.RowKit
section
variable {Γ L : List (Nat × D)} {P : Program} {n : Nat} {R : List Res} {dd : Option Nat} {ty : TypeId} {pos : String} {aft : Array Edge} {g : Option (Nat × Bool)} {β : Type} {Q : Exit → Act → World → Prop}
/-! ### appending -/
/-- cells that are appended -/
def Src (S : Nat → Prop) (w : World) (sz : Nat) (v : Value) (ds : List D) : Prop :=
  (∃ p c, v = .slice p 0 c ∧ ds = []) ∨ ∃ b o c cs, v = .slice (some ⟨b, o, none⟩) ds.length c ∧ Cs w b o cs ∧ RdEach S w sz ds cs ∧ cs.length = ds.length * sz
theorem RdEach.split {S : Nat → Prop} {w : World} {sz : Nat} : ∀ {ds : List D} {cs : List Value}, RdEach S w sz ds cs → ∃ c1 c2, cs = c1 ++ c2 ∧ c1.length = ds.length * sz ∧ RdEach S w sz ds c1
  | [], cs, _ => ⟨[], cs, rfl, by simp, by simp only [RdEach]⟩
  | d :: ds, cs, h => by
    simp only [RdEach] at h
    obtain ⟨e1, e2, rfl, hs, h3, h4⟩ := h
    obtain ⟨f1, f2, rfl, hl, h5⟩ := RdEach.split h4
    refine ⟨e1 ++ f1, f2, by simp, by simp [hs, hl, Nat.add_mul]; omega, ?_⟩
    simp only [RdEach]
    exact ⟨e1, f1, rfl, hs, h3, h5⟩
theorem RdEach.append {S : Nat → Prop} {w : World} {sz : Nat} : ∀ {ds es : List D} {c1 c2 : List Value}, RdEach S w sz ds c1 → c1.length = ds.length * sz → RdEach S w sz es c2 → RdEach S w sz (ds ++ es) (c1 ++ c2)
  | [], es, c1, c2, h1, hl, h2 => by
    have : c1 = [] := List.eq_nil_of_length_eq_zero (by simpa using hl)
    subst this; simpa using h2
  | d :: ds, es, c1, c2, h1, hl, h2 => by
    simp only [RdEach, List.cons_append] at h1 ⊢
    obtain ⟨e1, e2, rfl, hs, h3, h4⟩ := h1
    refine ⟨e1, e2 ++ c2, by simp, hs, h3, RdEach.append h4 ?_ h2⟩
    simp only [List.length_append, List.length_cons, Nat.add_mul, hs] at hl; omega
theorem RdEach.one {S : Nat → Prop} {w : World} {sz : Nat} (hok : ∀ r ∈ R, r.ok S w) : ∀ {ds : List D} {cs : List Value}, (∀ d ∈ ds, OneC R d) → RdEach S w sz ds cs → cs.length = ds.length * sz → ∀ u ∈ cs, u.oneCell' = true
  | [], cs, _, _, hl, u, hu => by
    have : cs = [] := List.eq_nil_of_length_eq_zero (by simpa using hl)
    subst this; cases hu
  | d :: ds, cs, h, hr, hl, u, hu => by
    simp only [RdEach] at hr
    obtain ⟨c1, c2, rfl, hs, h1, h2⟩ := hr
    rcases List.mem_append.1 hu with h3 | h3
    · exact OneC.one hok (h d (by simp)) h1.cs u h3
    · exact RdEach.one hok (fun y hy => h y (by simp [hy])) h2 (by simp only [List.length_append, List.length_cons, Nat.add_mul, hs] at hl; omega) u h3
theorem Src.sl {S : Nat → Prop} {w : World} {sz : Nat} {v : Value} {ds : List D} (h : RdV S w (.sl sz ds) v) : Src S w sz v ds := by
  simp only [RdV, Rd] at h
  obtain ⟨p, c, h1, h2, h3, h4⟩ := h
  have h1 := List.singleton_inj.1 h1
  rcases h4 with rfl | ⟨b, o, cells, T, fr, rfl, hb, hw, he⟩
  · exact .inl ⟨p, c, by simpa using h1, rfl⟩
  · obtain ⟨c1, c2, hc, hl, he1⟩ := RdEach.split he
    exact .inr ⟨b, o, c, c1, h1, ⟨cells, T, fr, c2, hw, hc⟩, he1, hl⟩
theorem Src.row {S : Nat → Prop} {w : World} {e sz : Nat} {v : Value} {ds : List D} (h : Res.ok S w (.row v e sz ds)) : Src S w sz v ds := by
  obtain ⟨cs, ⟨h1, p, c, rfl, h2, h3, h4⟩, h5⟩ := h
  rcases h4 with h4 | ⟨b, o, cur, rfl, hc, hb, ho, ht⟩
  · have hn : ds = [] := List.eq_nil_of_length_eq_zero (by omega)
    subst hn
    exact .inl ⟨p, c, rfl, rfl⟩
  · exact .inr ⟨b, o, c, cs, rfl, ⟨cur, e, _, (cur.toList.drop o).drop (ds.length * sz), hb, by rw [← ht, List.take_append_drop]⟩, h5, h1⟩
theorem run_builtin {b : Builtin} {x y : Operand} {t1 t2 : TypeId} {u v r : Value} {a : Act} {w w' : World} (hx : a.eval x = u) (hy : a.eval y = v)
    (hr : ∀ cs, (Go.builtin b #[t1, t2] ty cs #[u, v]).run P w = .ok (.value r) w') : (execOp a.eval ⟨dd, .call { callee := .builtin b, args := #[x, y], argTypes := #[t1, t2] }, ty, pos, aft, g⟩).run P w = .ok (.value r) w' := by
  simp only [execOp, resolve, invoke, Sem.run_bind, Sem.run_pure, Result.andThen_ok, List.map_toArray, List.map_cons, List.map_nil, hx, hy, hr]
theorem O.append0 {t e sz bytes lim i : Nat} {z : List Value} {x y : Operand} {v : Value} {xs ys zs : List D} (E : Elt P t e sz bytes z) (hx : ev Γ L x = some (.val v)) (hi : R[i]? = some (.row v e sz xs)) (hy : ∀ B a S w, Fr n S w L a → Sep Γ B S w R → Src S w sz (a.eval y) ys) (hlim : lim * bytes ≤ 140737488355328) (hlim2 : lim ≤ 9223372036854775807) (hOne : ∀ y ∈ ys, OneC R y)
    (hz : app lim xs ys = some zs) : Op1 Γ P n L R ⟨dd, .call { callee := .builtin .append, args := #[x, y], argTypes := #[t, t] }, ty, pos, aft, none⟩ Q (fun v' : Value => .val v') (fun v' => R.set i (.row v' e sz zs)) :=
  Op1.run fun B a S w ha hs => by
    obtain ⟨hle, rfl⟩ := app_some hz
    have hm := List.mem_of_getElem? hi
    obtain ⟨cs, hrow, hE⟩ := hs.ok _ hm
    have hmax : xs.length + ys.length ≤ maxLen := by simp only [maxLen]; omega
    have hby : (xs.length + ys.length) * bytes ≤ 140737488355328 := Nat.le_trans (Nat.mul_le_mul_right _ hle) hlim
    have hxv : a.eval x = v := ev_val ha hs.glob hx
    rcases hy B a S w ha hs with ⟨p, c, hyv, rfl⟩ | ⟨b, o, c, news, hyv, hC, hY, hl⟩
    · obtain ⟨q, cap, rfl, hnc, _⟩ := hrow.form
      refine ⟨.slice q xs.length cap, _, w, run_builtin hxv hyv (fun cc => by simp [Go.builtin, run_append0 (ty := ty) E hnc p c]), Le.refl _ _, RdV.val.2 rfl, ?_⟩
      simp only [List.append_nil]
      exact hs.set (r' := .row (.slice q xs.length cap) e sz xs) hi (Le.refl _ _) ⟨cs, hrow, hE⟩ (ob_nodup _) (fun b hb => .inl hb)
    · obtain ⟨v', w', hr, hrow', hle', hob⟩ := run_append (P := P) (w := w) (ty := ty) E hrow (a := ⟨b, o, none⟩) (c := c) hl
        (fun j u hj => by rw [add_plain]; exact hC.cell hj) (RdEach.one hs.ok hOne hY hl) hby hmax
      have u : Up (ob v) S w S w' := Up.of_le hs.live (fun m hm2 => hs.apart m (mem_fps_of hm m hm2)) hle'
      exact ⟨v', _, w', run_builtin hxv hyv (fun cc => by simp [Go.builtin, hr]), le_sub hi hle', RdV.val.2 rfl, hs.set hi hle' ⟨_, by rw [List.length_append]; exact hrow', (hE.up u).append hrow.1 (hY.up u)⟩ (ob_nodup _) hob⟩
theorem app_map {enc : β → D} {lim : Nat} {xs ys zs : List β} (hz : app lim xs ys = some zs) : app lim (xs.map enc) (ys.map enc) = some (zs.map enc) := by
  obtain ⟨h1, rfl⟩ := app_some hz
  unfold app; simp [h1]
theorem O.append {enc : β → D} {t e sz bytes lim i : Nat} {z : List Value} {x y : Operand} {v : Value} {xs ys zs : List β} (E : Elt P t e sz bytes z) (hx : ev Γ L x = some (.val v)) (hi : R[i]? = some (.row v e sz (xs.map enc))) (hy : Ev Γ L y (eL enc sz ys)) (hlim : lim * bytes ≤ 140737488355328) (hlim2 : lim ≤ 9223372036854775807) (hOne : ∀ y : β, OneC [] (enc y))
    (hz : app lim xs ys = some zs) : Op1 Γ P n L R ⟨dd, .call { callee := .builtin .append, args := #[x, y], argTypes := #[t, t] }, ty, pos, aft, none⟩ Q (fun v' : Value => .val v') (fun v' => R.set i (.row v' e sz (zs.map enc))) :=
  O.append0 E hx hi (fun B a S w ha hs => Src.sl (hy.eval ha hs.glob)) hlim hlim2 (fun d hd => by obtain ⟨y, _, rfl⟩ := List.mem_map.1 hd; exact fun c hc => (hOne y c hc).mono) (app_map hz)
theorem O.append_row {enc : β → D} {t e e' sz bytes lim i j : Nat} {z : List Value} {x y : Operand} {v v2 : Value} {xs ys zs : List β} (E : Elt P t e sz bytes z) (hx : ev Γ L x = some (.val v)) (hi : R[i]? = some (.row v e sz (xs.map enc))) (hy : ev Γ L y = some (.val v2)) (hj : R[j]? = some (.row v2 e' sz (ys.map enc))) (hlim : lim * bytes ≤ 140737488355328) (hlim2 : lim ≤ 9223372036854775807) (hOne : ∀ y : β, OneC [] (enc y))
    (hz : app lim xs ys = some zs) : Op1 Γ P n L R ⟨dd, .call { callee := .builtin .append, args := #[x, y], argTypes := #[t, t] }, ty, pos, aft, none⟩ Q (fun v' : Value => .val v') (fun v' => R.set i (.row v' e sz (zs.map enc))) :=
  O.append0 E hx hi (fun B a S w ha hs => by rw [ev_val ha hs.glob hy]; exact Src.row (hs.ok _ (List.mem_of_getElem? hj))) hlim hlim2 (fun d hd => by obtain ⟨y, _, rfl⟩ := List.mem_map.1 hd; exact fun c hc => (hOne y c hc).mono) (app_map hz)

/-! ### parts of own rows -/
theorem O.sub_row {enc : β → D} {sz k : Nat} {xs r : List β} {x : Operand} {v : Value} {lo hi : Option Operand} {l h : Int} {t e e' : TypeId} (hx : ev Γ L x = some (.val v)) (hk : R[k]? = some (.row v e' sz (xs.map enc))) (hU : ∀ w, (underlying t).run P w = .ok (.slice e) w) (hS : Sz P e sz)
    (hlo : Bd Γ L lo 0 l) (hhi : Bd Γ L hi (xs.length : Int) h) (hr' : sub xs l h = some r) : Op1 Γ P n L R ⟨dd, .slice t x lo hi none, ty, pos, aft, none⟩ Q (fun v' : Value => .val v') (fun v' => R.set k (.row v' e' sz (r.map enc))) := Op1.run fun B a S w ha hs => by
    obtain ⟨h0, h1, h2, rfl⟩ := sub_some hr'
    obtain ⟨i, rfl⟩ := Int.eq_ofNat_of_zero_le h0
    obtain ⟨j, rfl⟩ := Int.eq_ofNat_of_zero_le (Int.le_trans h0 h1)
    have hij : i ≤ j := by omega
    have hj : j ≤ xs.length := by omega
    have hm := List.mem_of_getElem? hk
    obtain ⟨cs, ⟨hl, p, c, rfl, h3, h4, h5⟩, hE⟩ := hs.ok _ hm
    simp only [List.length_map] at *
    have hjc : j ≤ c := by omega
    have hv : a.eval x = .slice p xs.length c := by rw [ev_val ha hs.glob hx]
    refine ⟨.slice (if c = i then p else p.map (·.add (i * sz))) (j - i) (c - i), _, w, run_slice hU hS ha hs.glob hlo hhi hij hjc h3 hv w, Le.refl _ _, RdV.val.2 rfl, ?_⟩
    have hlen : (((xs.take j).drop i).map enc).length = j - i := by simp; omega
    have hE2 := RdEach.drop i (RdEach.take j hE)
    have hcut : RdEach S w sz (((xs.take j).drop i).map enc) ((cs.drop (i * sz)).take ((j - i) * sz)) := by
      obtain ⟨c1, c2, h6, h7, h8⟩ := hE2.split
      have h9 : c1 = (cs.drop (i * sz)).take ((j - i) * sz) := by
        rw [h6, List.take_left']
        rw [h7]; simp only [List.length_drop, List.length_take, List.length_map]; congr 1; omega
      rw [← h9]
      simpa [List.map_drop, List.map_take] using h8
    have hcl : ((cs.drop (i * sz)).take ((j - i) * sz)).length = (j - i) * sz := by
      have : (j - i) * sz + i * sz ≤ xs.length * sz := by rw [← Nat.add_mul]; exact Nat.mul_le_mul_right _ (by omega)
      simp only [List.length_take, List.length_drop, hl]; omega
    simp only [Int.toNat_natCast]
    refine hs.set hk (Le.refl _ _) ⟨_, ⟨by rw [hlen]; exact hcl, _, _, by rw [hlen], by rw [hlen]; omega, by omega, ?_⟩, hcut⟩ (ob_nodup _) ?_
    · rcases h5 with h5 | ⟨b, o, cur, rfl, hc, hb, ho, ht⟩
      · left; omega
      · by_cases hci : c = i
        · left; omega
        · right
          refine ⟨b, o + i * sz, cur, ?_, by omega, hb, ?_, ?_⟩
          · rw [if_neg hci]; simp [add_plain]
          · have : i * sz + (c - i) * sz = c * sz := by rw [← Nat.add_mul]; congr 1; omega
            omega
          · rw [hlen, ← List.drop_drop, ← ht]
            have hle2 : i * sz + (j - i) * sz ≤ xs.length * sz := by rw [← Nat.add_mul]; exact Nat.mul_le_mul_right _ (by omega)
            rw [List.drop_take, List.take_take, Nat.min_eq_left (by omega)]
    · intro b hb
      left
      simp only [Res.fp] at hb ⊢
      rcases h5 with h5 | ⟨b', o, cur, rfl, hc, hb', ho, ht⟩
      · have : c - i = 0 := by omega
        rw [this, ob_nil] at hb; cases hb
      · rw [ob_some hc]
        by_cases hci : c = i
        · have : c - i = 0 := by omega
          rw [this, ob_nil] at hb; cases hb
        · rw [if_neg hci] at hb
          simp only [Option.map_some, add_plain] at hb
          rw [ob_some (by omega)] at hb; exact hb
end
end Go.Proofs.Ythbgngdoihkodac.Hx
