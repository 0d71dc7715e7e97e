/- A map of the call's own from pairs of words (match.bits) to numbers. -/
import Derived.Maps.Own
import Derived.Maps.OwnOps
import Derived.Maps.OwnSet
import Derived.WalkArith
import Derived.DeepKeys4
import Derived.Test.YtjbhnfejpgjghaaMa
namespace Go.Proofs.Ytjbhnfejpgjghaa
open Go.RowKit Go.Maps
set_option linter.unusedSimpArgs false
set_option linter.unusedVariables false

theorem laidK : laidOutB Try.prog = true := by kernel_rfl
theorem lawK : Keyed Try.prog 55 := Keyed.of_law (deep_law_laid laidK (m := 2) (by omega) (of_decide_eq_true (by kernel_rfl)) (by kernel_rfl) (by rw [Try.underlying55]))
theorem zeroK (w : World) : (zeroValue 3).run Try.prog w = .ok (.int .i64 0) w := by kernel_rfl

def kv (s i : Nat) : Value := .agg #[.int .u64 (s : Int), .int .u64 (i : Int)]
def kb (s i : Nat) : Lit := .string (keyBytes [.int .u64 (s : Int), .int .u64 (i : Int)])
theorem cellsK : Try.prog.cellsOf 55 = 2 := by kernel_rfl
theorem cellsU : Try.prog.cellsOf 53 = 1 := by kernel_rfl
theorem keyK {s i : Nat} (hs : s < 18446744073709551616) (hi : i < 18446744073709551616) : keyOf Try.prog 55 (kv s i) = some (kb s i) := by
  unfold kv kb
  simp [keyOf, Try.underlying55, Value.formed, cellsK, Value.cells]
  refine ⟨by kernel_rfl, [.int .u64 (s : Int), .int .u64 (i : Int)], ?_, rfl⟩
  have h1 : (Lit.int .u64 (s : Int)).wf = true := WalkArith.wf_u64 (by omega)
  have h2 : (Lit.int .u64 (i : Int)).wf = true := WalkArith.wf_u64 (by omega)
  have hr : List.range 2 = [0, 1] := rfl
  have hg : ∀ d, Try.prog.keyLits (d + 1 + 1) 55 [.int .u64 (s : Int), .int .u64 (i : Int)] = some [.int .u64 (s : Int), .int .u64 (i : Int)] := by
    intro d
    simp [Program.keyLits, Try.underlying55, Try.underlying53, cellsK, cellsU, h1, h2, hr, List.mapM_cons]
  exact hg 126
theorem kb_inj {s i t j : Nat} (hs : s < 18446744073709551616) (hi : i < 18446744073709551616) (ht : t < 18446744073709551616) (hj : j < 18446744073709551616) (e : kb s i = kb t j) : s = t ∧ i = j := by
  have h1 := keyK hs hi
  rw [e] at h1
  have h := lawK.inj h1 (keyK ht hj)
  unfold kv at h
  simp at h
  omega

/-- the kept numbers -/
def MM (w : World) (B k : Nat) (f : Nat → Nat → Option Int) : Prop :=
  ∃ D : DataW Unit, w.ownsMap Try.prog 55 (plainElem Try.prog 3) B k D ∧
    ∀ s i : Nat, s < 18446744073709551616 → i < 18446744073709551616 → Maps.has D (kb s i) = (f s i).isSome ∧ D.atKey (kb s i) (.lit (.int .i64 0)) = .lit (.int .i64 ((f s i).getD 0))

section
variable {w w' : World} {B k : Nat} {f : Nat → Nat → Option Int}
theorem MM.blk (h : MM w B k f) (e : w'.heap[B]? = w.heap[B]?) : MM w' B k f := by
  obtain ⟨D, ⟨es, c, h1, h2⟩, h3⟩ := h
  exact ⟨D, ⟨es, c, e.trans h1, h2⟩, h3⟩
theorem MM.lt (h : MM w B k f) : B < w.heap.size := by obtain ⟨D, h1, -⟩ := h; exact h1.lt
theorem MM.below {C : Nat} (h : MM w B k f) (hb : Below C w w') (hC : B < C) : MM w' B k f := h.blk (hb.block B hC)
theorem MM.call (h : MM w B k f) (hb : Below w.heap.size w w') : MM w' B k f := h.below hb h.lt
theorem MM.drew (h : MM w B k f) : MM w.drew B k f := h
theorem MM.more (h : MM w B k f) (o : Obj) : MM (w.alloc o) B k f := h.call ((Below.refl _ _).alloc (Nat.le_refl _) _)
theorem MM.new (w : World) : MM (w.alloc (.map #[] 0)) w.heap.size 0 (fun _ _ => none) := ⟨.map [], World.ownsMap_made _ _ _ _, fun _ _ _ _ => ⟨rfl, rfl⟩⟩

theorem MM.look (h : MM w B k f) {s i : Nat} (hs : s < 18446744073709551616) (hi : i < 18446744073709551616) :
    (Instr.lookup 51 (.map (some B)) (.agg #[.int .u64 (s : Int), .int .u64 (i : Int)]) true).run Try.prog w = .ok (.tuple #[.int .i64 ((f s i).getD 0), .bool (f s i).isSome]) w := by
  obtain ⟨D, h1, h2⟩ := h
  obtain ⟨v, ps, hrun, hv⟩ := h1.look_ok lawK Try.underlying51 (zeroK w) (plainElem_int Try.underlying3 (by decide)) (keyK hs hi)
  obtain ⟨a, rfl, hz, -⟩ := plainElem_int_inv Try.underlying3 hv
  obtain ⟨e1, e2⟩ := h2 s i hs hi
  rw [e2] at hz
  simp only [Prod.mk.injEq, DataW.lit.injEq, Lit.int.injEq, true_and, and_true] at hz
  unfold kv at hrun
  rw [hrun, e1, ← hz.1]
end

def upd2 (f : Nat → Nat → Option Int) (s i : Nat) (v : Int) : Nat → Nat → Option Int := fun t j => if t = s ∧ j = i then some v else f t j

theorem wpList_upM (w : World) {ops : Array Oper} {rest : List Oper} {o : Oper} {a : Act} {Q : Exit → Act → World → Prop}
    (hg : o.guard = none) (m x v : Operand) (hop : o.op = Op.mapUpdate 51 m x v) (B k : Nat) (f : Nat → Nat → Option Int) (hm : a.eval m = .map (some B)) (h : MM w B k f) (hk : k < maxLen)
    (s i : Nat) (j : Int) (hx : a.eval x = .agg #[.int .u64 (s : Int), .int .u64 (i : Int)]) (hv : a.eval v = .int .i64 j) (hs : s < 18446744073709551616) (hi : i < 18446744073709551616) (hj : In64 j)
    (hK : ∀ w', MM w' B (k + 1) (upd2 f s i j) → w.grownBy w' (some B) → wpList Try.prog ops Q rest (a.put o.dst undef) w') :
    wpList Try.prog ops Q (o :: rest) a w := by
  obtain ⟨D, h1, h2⟩ := h
  refine wpList_mapUpdate_own (H := Unit) w hg m x v _ hop _ _ lawK Try.underlying51 _ B k D hm h1 hk _ _ (kb s i) hx hv (keyK hs hi) _ [] (plainElem_int Try.underlying3 (WalkArith.wf_i64 (by unfold In64 at hj; omega))) ?_
  intro w' h3 h4
  refine hK w' ⟨_, h3, fun t y ht hy => ?_⟩ h4
  by_cases e : t = s ∧ y = i
  · obtain ⟨rfl, rfl⟩ := e
    rw [has_put_same h1.isMap (show WideAt.IsKeyLit (kb t y) from trivial), atKey_put_same h1.isMap (show WideAt.IsKeyLit (kb t y) from trivial)]
    simp [upd2]
  · have hne : kb t y ≠ kb s i := fun hh => e (kb_inj ht hy hs hi hh)
    rw [has_put_other hne, atKey_put_other hne, (h2 t y ht hy).1, (h2 t y ht hy).2]
    simp [upd2, e]

end Go.Proofs.Ytjbhnfejpgjghaa
