/- A set of numbers below 1000, kept as a map of the call's own from numbers to truths. -/
import Derived.Maps.Own
import Derived.Maps.OwnOps
import Derived.Maps.OwnSet
import Derived.Maps.Views
import Derived.WalkArith
import Derived.Test.YtjbhnfejpgjghaaMc
namespace Go.Proofs.Ytjbhnfejpgjghaa
open Go.RowKit Go.Maps
set_option linter.unusedSimpArgs false
set_option linter.unusedVariables false

theorem lawI : Keyed Try.prog 3 := int_keyed Try.underlying3
theorem zeroB (w : World) : (zeroValue 4).run Try.prog w = .ok (.bool false) w := by kernel_rfl
theorem plainElem_bool_inv {H : Type} {P : Program} {e : TypeId} (he : P.underlying e = some .bool) {v : Value} {z : DataW H × List MemPlace} (h : plainElem P e v = some z) : ∃ a, v = .bool a ∧ z = (.lit (.bool a), []) := by
  unfold plainElem at h
  rw [he] at h
  cases v <;> simp at h
  exact ⟨_, rfl, h.symm⟩
def kx (x : Nat) : Lit := .int .i64 (x : Int)
theorem kx_ne {x y : Nat} (h : x ≠ y) : kx x ≠ kx y := fun e => h (by unfold kx at e; injection e with _ e; omega)
theorem wfN {x : Nat} (h : x < 1000) : (Lit.int .i64 (x : Int)).wf = true := by
  exact WalkArith.wf_i64 (by omega)
theorem keyN {x : Nat} (h : x < 1000) : keyOf Try.prog 3 (.int .i64 (x : Int)) = some (kx x) := keyOf_int_mk Try.underlying3 (wfN h)

/-- the set of a map, and how many it has -/
def BS (w : World) (B k : Nat) (g : Nat → Bool) (c : Nat) : Prop :=
  ∃ D : DataW Unit, w.ownsMap Try.prog 3 (plainElem Try.prog 4) B k D ∧ Maps.size D = c ∧
    ∀ x : Nat, x < 1000 → Maps.has D (kx x) = g x ∧ D.atKey (kx x) (.lit (.bool false)) = .lit (.bool (g x))
section
variable {w w' : World} {B k c : Nat} {g : Nat → Bool}
theorem BS.blk (h : BS w B k g c) (e : w'.heap[B]? = w.heap[B]?) : BS w' B k g c := by
  obtain ⟨D, ⟨es, c, h1, h2⟩, h3⟩ := h
  exact ⟨D, ⟨es, c, e.trans h1, h2⟩, h3⟩
theorem BS.lt (h : BS w B k g c) : B < w.heap.size := by obtain ⟨D, h1, -⟩ := h; exact h1.lt
theorem BS.call (h : BS w B k g c) (hb : Below w.heap.size w w') : BS w' B k g c := h.blk (hb.block B h.lt)
theorem BS.new (w : World) : BS (w.alloc (.map #[] 0)) w.heap.size 0 (fun _ => false) 0 := ⟨.map [], World.ownsMap_made _ _ _ _, rfl, fun _ _ => ⟨rfl, rfl⟩⟩
theorem BS.look (h : BS w B k g c) {x : Nat} (hx : x < 1000) :
    (Instr.lookup 44 (.map (some B)) (.int .i64 (x : Int)) false).run Try.prog w = .ok (.bool (g x)) w := by
  obtain ⟨D, h1, -, h2⟩ := h
  obtain ⟨v, ps, hrun, hv⟩ := h1.lookup lawI Try.underlying44 (zeroB w) (plainElem_bool Try.underlying4 false) (keyN hx)
  obtain ⟨a, rfl, hz⟩ := plainElem_bool_inv Try.underlying4 hv
  rw [(h2 x hx).2] at hz
  simp only [Prod.mk.injEq, DataW.lit.injEq, Lit.bool.injEq, and_true] at hz
  rw [hrun, ← hz.1]
theorem BS.len (h : BS w B k g c) (ty : TypeId) : (Builtin.len_ #[44] ty #[.map (some B)]).run Try.prog w = .ok (.int .i64 (c : Int)) w := by
  obtain ⟨D, h1, h2, -⟩ := h
  rw [h1.len Try.underlying44 ty, h2]
end
theorem wpList_upS (w : World) {ops : Array Oper} {rest : List Oper} {o : Oper} {a : Act} {Q : Exit → Act → World → Prop}
    (hg : o.guard = none) (m x v : Operand) (hop : o.op = Op.mapUpdate 44 m x v) (B k : Nat) (g : Nat → Bool) (c : Nat) (hm : a.eval m = .map (some B)) (h : BS w B k g c) (hk : k < maxLen)
    (i : Nat) (hx : a.eval x = .int .i64 (i : Int)) (hv : a.eval v = .bool true) (hi : i < 1000)
    (hK : ∀ w', BS w' B (k + 1) (upd g i true) (if g i = true then c else c + 1) → w.grownBy w' (some B) → wpList Try.prog ops Q rest (a.put o.dst undef) w') :
    wpList Try.prog ops Q (o :: rest) a w := by
  obtain ⟨D, h1, h3, h2⟩ := h
  refine wpList_mapUpdate_own (H := Unit) w hg m x v _ hop _ _ lawI Try.underlying44 _ B k D hm h1 hk _ _ (kx i) hx hv (keyN hi) _ [] (plainElem_bool Try.underlying4 true) ?_
  intro w' h5 h4
  refine hK w' ⟨_, h5, ?_, fun y hy => ?_⟩ h4
  · rw [size_put (h1.tidy lawI), (h2 i hi).1, h3]
  · by_cases e : y = i
    · subst e
      rw [has_put_same h1.isMap (show WideAt.IsKeyLit (kx y) from trivial), atKey_put_same h1.isMap (show WideAt.IsKeyLit (kx y) from trivial)]
      simp [upd]
    · rw [has_put_other (kx_ne e), atKey_put_other (kx_ne e), (h2 y hy).1, (h2 y hy).2]
      simp [upd, e]

end Go.Proofs.Ytjbhnfejpgjghaa
