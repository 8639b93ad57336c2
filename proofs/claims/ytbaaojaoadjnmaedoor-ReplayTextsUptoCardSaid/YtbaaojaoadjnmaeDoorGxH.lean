/- ReplayTexts: Text and Read of package replay give what the reference gives, for every list of choices and text of bulk at most 1048576. This text: loops and joins. Conditions: none beyond those that the statement itself names. -/
import Derived.Test.YtbaaojaoadjnmaeDoorGxG
namespace Go.Proofs.YtbaaojaoadjnmaeDoor.Gx
open Go.RowKit

def addI (a b : Int) : Int := IntKind.i64.wrap (a + b)
def subI (a b : Int) : Int := IntKind.i64.wrap (a - b)
def mulI (a b : Int) : Int := IntKind.i64.wrap (a * b)
theorem wrap_id {x : Int} (h0 : -9223372036854775808 ≤ x) (h1 : x ≤ 9223372036854775807) : IntKind.i64.wrap x = x := by rw [IntKind.wrap_i64]; omega
theorem addI_eq {a b : Int} (h0 : -9223372036854775808 ≤ a + b) (h1 : a + b ≤ 9223372036854775807) : addI a b = a + b := wrap_id h0 h1
theorem subI_eq {a b : Int} (h0 : -9223372036854775808 ≤ a - b) (h1 : a - b ≤ 9223372036854775807) : subI a b = a - b := wrap_id h0 h1
theorem mulI_eq {a b : Int} (h0 : -9223372036854775808 ≤ a * b) (h1 : a * b ≤ 9223372036854775807) : mulI a b = a * b := wrap_id h0 h1

/-- behind a part that may have returned -/
def retOr {R β : Type} (f : β → Option R) : R ⊕ β → Option R
  | .inl r => some r
  | .inr s => f s
def retOr2 {R β γ : Type} (f : β → Option (R ⊕ γ)) : R ⊕ β → Option (R ⊕ γ)
  | .inl r => some (.inl r)
  | .inr s => f s

section
variable {α β : Type} {out : α} {F : Option α} {n : Nat} {L : List (Nat × Value)} {w : World} {P : Program} {Q : Exit → Act → World → Prop} {S : Nat → Prop} {K : Act → World → Prop}
variable {ops : Array Oper} {rest : List Oper} {ty : TypeId} {pos : String} {aft : Array Edge} {d : Nat}

theorem G.use {C : Act → World → Prop} {a : Act} (hF : F = some out) (ha : Fr n L a) (h : G out F n L w C) : C a w := h hF a ha
theorem G.next_ {y : Code} {Q' : Exit → Act → World → Prop} (hK : ∀ a w, y.wp P Q' a w → K a w) (h : G out F n L w (y.wp P Q')) : G out F n L w (Exit.then K Q .normal) := fun hF a ha => hK _ _ (h hF a ha)
theorem G.inB {id : Nat} (h : G out F n L w (Q .normal)) : G out F n L w (Exit.inBlock id Q .normal) := h
theorem G.inB_ret {id : Nat} (h : G out F n L w (Q .ret)) : G out F n L w (Exit.inBlock id Q .ret) := h
theorem G.inB_eq {id : Nat} (h : G out F n L w (Q .normal)) : G out F n L w (Exit.inBlock id Q (.exit id)) := fun hF a ha => by
  have := h hF a ha
  simpa [Exit.inBlock] using this
theorem G.inB_ne {id id' : Nat} (he : Nat.beq id' id = false) (h : G out F n L w (Q (.exit id'))) : G out F n L w (Exit.inBlock id Q (.exit id')) := fun hF a ha => by
  have := h hF a ha
  have hne : ¬ id' = id := fun e => by subst e; simp at he
  simpa [Exit.inBlock, hne] using this
theorem G.thn_ret (h : G out F n L w (Q .ret)) : G out F n L w (Exit.then K Q .ret) := h
theorem G.thn_exit {id : Nat} (h : G out F n L w (Q (.exit id))) : G out F n L w (Exit.then K Q (.exit id)) := h
/-- a part comes to some b, of which E tells; on with what follows -/
theorem G.join {c : Code} {F1 : Option β} {F2 : β → Option α} (E : β → Act → World → Prop) (h1 : ∀ b, F2 b = some out → G b F1 n L w (c.wp P (Exit.then (E b) Q)))
    (h2 : ∀ b, F1 = some b → ∀ a w', E b a w' → F2 b = some out → Q .normal a w') : G out (F1.bind F2) n L w (c.wp P Q) := fun hF a ha => by
  cases hr : F1 with
  | none => rw [hr] at hF; cases hF
  | some b =>
    rw [hr] at hF
    refine wp_mono (h1 b hF hr a ha) fun e a' w' hq => ?_
    cases e with
    | normal => exact h2 b hr a' w' hq hF
    | exit id => exact hq
    | goto l => exact hq
    | ret => exact hq
    | panic c => exact hq
    | outgrown => exact hq
theorem G.finE {E : Act → World → Prop} {r : α} (h : r = out → ∀ a, Fr n L a → E a w) : G out (some r) n L w (Exit.then E Q .normal) := fun hF a ha => h (by simpa using hF) a ha
/-- a round's end -/
theorem G.again {E : Act → World → Prop} (h : F = some out → ∀ a, Fr n L a → E a w) : G out F n L w (Exit.then E Q .normal) := fun hF a ha => h hF a ha
theorem G.loop {c : Code} (J : Nat → Act → World → Prop) (k : Nat) (h0 : F = some out → ∀ a, Fr n L a → J k a w) (round : ∀ k a w, J k a w → c.wp P (Exit.then (fun a' w' => ∃ k', k' < k ∧ J k' a' w') Q) a w) :
    G out F n L w ((Code.loop c).wp P Q) := fun hF a ha => wp_loop_fuel J round (h0 hF a ha)
theorem G.yes {x : Operand} {c d : Code} {b : Bool} (hx : ev L x = some (.bool b)) (hb : b = true) (h : G out F n L w (c.wp P Q)) : G out F n L w ((Code.cond x c d).wp P Q) := by subst hb; exact G.cond_yes hx h
theorem G.no {x : Operand} {c d : Code} {b : Bool} (hx : ev L x = some (.bool b)) (hb : b = false) (h : G out F n L w (d.wp P Q)) : G out F n L w ((Code.cond x c d).wp P Q) := by subst hb; exact G.cond_no hx h
/-- the counter of a range -/
theorem G.incr {x y : Operand} {t t' : TypeId} {i N : Nat} (hd : Nat.blt d n = true) (hx : ev L x = some (.int .i64 (i : Int))) (hy : ev L y = some (.int .i64 1)) (hi : i < N) (hN : N ≤ 9223372036854775807) (h : G out F n ((d, .int .i64 ((i + 1 : Nat) : Int)) :: L) w (wpList P ops Q rest)) :
    G out F n L w (wpList P ops Q (⟨some d, .binOp .add t x y t', ty, pos, aft, none⟩ :: rest)) :=
  G.bin hd hx hy (fun w => by rw [b_add]; congr 2; rw [wrap_id (by omega) (by omega)]; simp) h
theorem G.done1n {fn : Func} {R : Value → World → Prop} {t : Nat} {v : Value} {r : α} (hres : fn.results = #[.tmp t]) (hx : look L t = some v) (h : r = out → R v w) : G out (some r) n L w (bodyPost P fn (Rets R) .normal) := G.done1 hres hx h
/-- the same of a result, whatever the part's own answer is -/
theorem G.ret1 {fn : Func} {R : Value → World → Prop} {t : Nat} {v : Value} (hres : fn.results = #[.tmp t]) (hx : look L t = some v) (h : F = some out → R v w) : G out F n L w (bodyPost P fn (Rets R) .ret) := fun hF a ha => by
  refine bodyPost_ret (results_tmp hres a.tmps P w) ha.defers ⟨_, rfl, ?_⟩
  have := ha.at_ _ _ hx
  simp only [Array.getD_eq_getD_getElem?, this, Option.getD_some]
  exact h hF
theorem G.ret2 {fn : Func} {R : Value → World → Prop} {t u : Nat} {v v' : Value} (hres : fn.results = #[.tmp t, .tmp u]) (hx : look L t = some v) (hy : look L u = some v') (h : F = some out → R (.tuple [v, v'].toArray) w) : G out F n L w (bodyPost P fn (Rets R) .ret) := fun hF a ha => by
  refine bodyPost_ret (results_tmp2 hres a.tmps P w) ha.defers ⟨_, rfl, ?_⟩
  have h1 := ha.at_ _ _ hx
  have h2 := ha.at_ _ _ hy
  simp only [Array.getD_eq_getD_getElem?, h1, h2, Option.getD_some]
  exact h hF
theorem G.ret3 {fn : Func} {R : Value → World → Prop} {t u s : Nat} {v v' v'' : Value} (hres : fn.results = #[.tmp t, .tmp u, .tmp s]) (hx : look L t = some v) (hy : look L u = some v') (hz : look L s = some v'') (h : F = some out → R (.tuple [v, v', v''].toArray) w) : G out F n L w (bodyPost P fn (Rets R) .ret) := fun hF a ha => by
  have h1 := ha.at_ _ _ hx
  have h2 := ha.at_ _ _ hy
  have h3 := ha.at_ _ _ hz
  refine bodyPost_ret (v := .tuple [v, v', v''].toArray) ?_ ha.defers ⟨_, rfl, h hF⟩
  simp [results, hres, h1, h2, h3, Array.getD_eq_getD_getElem?]
end
end Go.Proofs.YtbaaojaoadjnmaeDoor.Gx
