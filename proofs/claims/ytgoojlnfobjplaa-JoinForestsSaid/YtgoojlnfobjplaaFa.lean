/- Maps of the call's own: nodes to nodes, nodes to bools. -/
import Derived.Maps.Own
import Derived.Maps.OwnOps
import Derived.Maps.OwnSet
import Derived.WalkArith
import Derived.Test.YtgoojlnfobjplaaZr1
import Derived.Test.YtgoojlnfobjplaaZp
namespace Go.Proofs.Ytgoojlnfobjplaa
open Go.RowKit Go.Maps
set_option linter.unusedSimpArgs false
set_option linter.unusedVariables false

theorem lawI : Keyed Try.prog 3 := int_keyed Try.underlying3
theorem zeroI (w : World) : (zeroValue 3).run Try.prog w = .ok (.int .i64 0) w := by kernel_rfl
theorem zeroB (w : World) : (zeroValue 4).run Try.prog w = .ok (.bool false) w := by kernel_rfl

theorem plainElem_bool_inv {H : Type} {P : Program} {e : TypeId} (he : P.underlying e = some .bool) {v : Value} {z : DataW H × List MemPlace} (h : plainElem P e v = some z) : ∃ a, v = .bool a ∧ z = (.lit (.bool a), []) := by
  unfold plainElem at h
  rw [he] at h
  cases v <;> simp at h
  rename_i a
  exact ⟨a, rfl, h.symm⟩

def kx (x : Nat) : Lit := .int .i64 (x : Int)
theorem kx_ne {x y : Nat} (h : x ≠ y) : kx x ≠ kx y := by
  intro e
  unfold kx at e
  injection e with _ e
  omega
theorem wfN {x : Nat} (h : x < 1000) : (Lit.int .i64 (x : Int)).wf = true := by
  exact WalkArith.wf_i64 (by omega)
theorem keyN {x : Nat} (h : x < 1000) : keyOf Try.prog 3 (.int .i64 (x : Int)) = some (kx x) := keyOf_int_mk Try.underlying3 (wfN h)

def upd {α : Type} (f : Nat → α) (i : Nat) (v : α) : Nat → α := fun z => if z = i then v else f z

/-- a map of the call's own from nodes to nodes -/
def UM (w : World) (B k : Nat) (f : Nat → Option Nat) : Prop :=
  ∃ D : DataW Unit, w.ownsMap Try.prog 3 (plainElem Try.prog 3) B k D ∧
    ∀ x : Nat, x < 1000 → Maps.has D (kx x) = (f x).isSome ∧ D.atKey (kx x) (.lit (.int .i64 0)) = .lit (.int .i64 (((f x).getD 0 : Nat) : Int))

/-- a map of the call's own from nodes to bools -/
def BM (w : World) (B k : Nat) (g : Nat → Bool) : Prop :=
  ∃ D : DataW Unit, w.ownsMap Try.prog 3 (plainElem Try.prog 4) B k D ∧
    ∀ x : Nat, x < 1000 → D.atKey (kx x) (.lit (.bool false)) = .lit (.bool (g x))

section
variable {w w' : World} {B k : Nat} {f : Nat → Option Nat} {g : Nat → Bool}

theorem UM.blk (h : UM w B k f) (e : w'.heap[B]? = w.heap[B]?) : UM w' B k f := by
  obtain ⟨D, ⟨es, c, h1, h2⟩, h3⟩ := h
  exact ⟨D, ⟨es, c, e.trans h1, h2⟩, h3⟩
theorem BM.blk (h : BM w B k g) (e : w'.heap[B]? = w.heap[B]?) : BM w' B k g := by
  obtain ⟨D, ⟨es, c, h1, h2⟩, h3⟩ := h
  exact ⟨D, ⟨es, c, e.trans h1, h2⟩, h3⟩
theorem UM.lt (h : UM w B k f) : B < w.heap.size := by obtain ⟨D, h1, -⟩ := h; exact h1.lt
theorem BM.lt (h : BM w B k g) : B < w.heap.size := by obtain ⟨D, h1, -⟩ := h; exact h1.lt
theorem UM.below {C : Nat} (h : UM w B k f) (hb : Below C w w') (hC : B < C) : UM w' B k f := h.blk (hb.block B hC)
theorem BM.below {C : Nat} (h : BM w B k g) (hb : Below C w w') (hC : B < C) : BM w' B k g := h.blk (hb.block B hC)
theorem UM.call (h : UM w B k f) (hb : Below w.heap.size w w') : UM w' B k f := h.below hb h.lt
theorem BM.call (h : BM w B k g) (hb : Below w.heap.size w w') : BM w' B k g := h.below hb h.lt
theorem UM.drew (h : UM w B k f) : UM w.drew B k f := h
theorem BM.drew (h : BM w B k g) : BM w.drew B k g := h
theorem UM.grown {row : Option Nat} (h : UM w B k f) (hb : w.grownBy w' row) (hg : some B ≠ row) : UM w' B k f := h.blk (hb.block B h.lt hg)
theorem BM.grown {row : Option Nat} (h : BM w B k g) (hb : w.grownBy w' row) (hg : some B ≠ row) : BM w' B k g := h.blk (hb.block B h.lt hg)
theorem UM.new (w : World) : UM (w.alloc (.map #[] 0)) w.heap.size 0 (fun _ => none) := ⟨.map [], World.ownsMap_made _ _ _ _, fun _ _ => ⟨rfl, rfl⟩⟩
theorem BM.new (w : World) : BM (w.alloc (.map #[] 0)) w.heap.size 0 (fun _ => false) := ⟨.map [], World.ownsMap_made _ _ _ _, fun _ _ => rfl⟩

theorem UM.look (h : UM w B k f) {x : Nat} (hx : x < 1000) :
    (Instr.lookup 64 (.map (some B)) (.int .i64 (x : Int)) true).run Try.prog w = .ok (.tuple #[.int .i64 (((f x).getD 0 : Nat) : Int), .bool (f x).isSome]) w := by
  obtain ⟨D, h1, h2⟩ := h
  obtain ⟨v, ps, hrun, hv⟩ := h1.look_ok lawI Try.underlying64 (zeroI w) (plainElem_int Try.underlying3 (by decide)) (keyN hx)
  obtain ⟨a, rfl, hz, -⟩ := plainElem_int_inv Try.underlying3 hv
  obtain ⟨e1, e2⟩ := h2 x hx
  rw [e2] at hz
  simp only [Prod.mk.injEq, DataW.lit.injEq, Lit.int.injEq, true_and, and_true] at hz
  rw [hrun, e1, ← hz.1]

theorem BM.look (h : BM w B k g) {x : Nat} (hx : x < 1000) :
    (Instr.lookup 68 (.map (some B)) (.int .i64 (x : Int)) false).run Try.prog w = .ok (.bool (g x)) w := by
  obtain ⟨D, h1, h2⟩ := h
  obtain ⟨v, ps, hrun, hv⟩ := h1.lookup lawI Try.underlying68 (zeroB w) (plainElem_bool Try.underlying4 false) (keyN hx)
  obtain ⟨a, rfl, hz⟩ := plainElem_bool_inv Try.underlying4 hv
  rw [h2 x hx] at hz
  simp only [Prod.mk.injEq, DataW.lit.injEq, Lit.bool.injEq, and_true] at hz
  rw [hrun, ← hz.1]
end

theorem wpList_upU (w : World) {ops : Array Oper} {rest : List Oper} {o : Oper} {a : Act} {Q : Exit → Act → World → Prop}
    (hg : o.guard = none) (m x v : Operand) (hop : o.op = Op.mapUpdate 64 m x v) (B k : Nat) (f : Nat → Option Nat) (hm : a.eval m = .map (some B)) (h : UM w B k f) (hk : k < maxLen)
    (i j : Nat) (hx : a.eval x = .int .i64 (i : Int)) (hv : a.eval v = .int .i64 (j : Int)) (hi : i < 1000) (hj : j < 1000)
    (hK : ∀ w', UM w' B (k + 1) (upd f i (some j)) → w.grownBy w' (some B) → wpList Try.prog ops Q rest (a.put o.dst undef) w') :
    wpList Try.prog ops Q (o :: rest) a w := by
  obtain ⟨D, h1, h2⟩ := h
  refine wpList_mapUpdate_own (H := Unit) w hg m x v _ hop _ _ lawI Try.underlying64 _ B k D hm h1 hk _ _ (kx i) hx hv (keyN hi) _ [] (plainElem_int Try.underlying3 (wfN hj)) ?_
  intro w' h3 h4
  refine hK w' ⟨_, h3, fun y hy => ?_⟩ h4
  by_cases e : y = i
  · subst e
    rw [has_put_same h1.isMap (show WideAt.IsKeyLit (kx y) from trivial), atKey_put_same h1.isMap (show WideAt.IsKeyLit (kx y) from trivial)]
    simp [upd]
  · rw [has_put_other (kx_ne e), atKey_put_other (kx_ne e), (h2 y hy).1, (h2 y hy).2]
    simp [upd, e]

theorem wpList_upB (w : World) {ops : Array Oper} {rest : List Oper} {o : Oper} {a : Act} {Q : Exit → Act → World → Prop}
    (hg : o.guard = none) (m x v : Operand) (hop : o.op = Op.mapUpdate 68 m x v) (B k : Nat) (g : Nat → Bool) (hm : a.eval m = .map (some B)) (h : BM w B k g) (hk : k < maxLen)
    (i : Nat) (b : Bool) (hx : a.eval x = .int .i64 (i : Int)) (hv : a.eval v = .bool b) (hi : i < 1000)
    (hK : ∀ w', BM w' B (k + 1) (upd g i b) → w.grownBy w' (some B) → wpList Try.prog ops Q rest (a.put o.dst undef) w') :
    wpList Try.prog ops Q (o :: rest) a w := by
  obtain ⟨D, h1, h2⟩ := h
  refine wpList_mapUpdate_own (H := Unit) w hg m x v _ hop _ _ lawI Try.underlying68 _ B k D hm h1 hk _ _ (kx i) hx hv (keyN hi) _ [] (plainElem_bool Try.underlying4 b) ?_
  intro w' h3 h4
  refine hK w' ⟨_, h3, fun y hy => ?_⟩ h4
  by_cases e : y = i
  · subst e
    rw [atKey_put_same h1.isMap (show WideAt.IsKeyLit (kx y) from trivial)]
    simp [upd]
  · rw [atKey_put_other (kx_ne e), h2 y hy]
    simp [upd, e]

end Go.Proofs.Ytgoojlnfobjplaa
