/- Opening of an incidence that came in. -/
import Derived.Deep.Strs
import Derived.Test.YtjbhnfejpgjghaaOi
import Derived.Test.YtjbhnfejpgjghaaQj
namespace Go.Proofs.Ytjbhnfejpgjghaa.opens
open Go.ChangeShapes Go.WideShapes Go.ChangeAt Go.RowKit
open Go.Deep
set_option linter.unusedSimpArgs false
set_option linter.unusedVariables false

theorem cellsIn : Try.prog.cellsOf 3 = 1 := by kernel_rfl
theorem cellsSl : Try.prog.cellsOf 22 = 1 := by kernel_rfl
theorem cellsInc : Try.prog.cellsOf 33 = 3 := by kernel_rfl
theorem in64_of {a : Int} (h : (Lit.int .i64 a).wf = true) : In64 a := by
  simp [Lit.wf, IntKind.min, IntKind.max, IntKind.signed, IntKind.bits] at h
  unfold In64
  omega

theorem open_inc {H : Type} {enc : TypeId × Value → H} {W : World} {cs : Array Value} {d : DataW H} {p : List MemPlace} {ts : List TypeId} {ds : List (DataW H)} (hsz : (DataW.weightsEach Try.prog ts ds).all (· ≤ reachBytes) = true) {j : Nat} (ht : ts[j]? = some 33) (hd : ds[j]? = some d)
    (h : DataW.Trod enc Try.prog W 0 (fun _ => true) true 33 (.agg cs) d p) : ∃ (rows cols : Int) (A : Option Addr) (n c : Nat) (ls : List (List Int)), cs = #[.int .i64 rows, .int .i64 cols, .slice A n c] ∧ In64 rows ∧ In64 cols ∧ L2 W A n c ls := by
  obtain ⟨fuel, hf⟩ := h
  obtain ⟨y0, y1, y2, n, hx, hl, t0, t1, t2⟩ := trod_struct3 Try.underlying33 hf
  rw [cellsInc] at hl
  simp only [Prod.mk.injEq] at hx
  obtain ⟨l0, l1, l2, hcs⟩ : ∃ l0 l1 l2, (Value.agg cs).cells.toList = [l0, l1, l2] := by
    match (Value.agg cs).cells.toList, hl with
    | [a, b, c], _ => exact ⟨a, b, c, rfl⟩
  have hcs2 : cs = #[l0, l1, l2] := by
    have h1 : cs.toList = [l0, l1, l2] := hcs
    rw [← Array.toArray_toList (xs := cs), h1]
  rw [hcs] at t0 t1 t2
  simp only [cellsIn, cellsSl] at t0 t1 t2
  obtain ⟨r0, g0, x0, w0⟩ := DataW.trod_int Try.underlying3 t0
  obtain ⟨r1, g1, x1, w1⟩ := DataW.trod_int Try.underlying3 t1
  simp at g0 g1
  have hsz2 : (DataW.weightsEach Try.prog [3, 3, 22] [y0.1, y1.1, y2.1]).all (· ≤ reachBytes) = true := by
    refine List.all_eq_true.2 fun k hk => List.all_eq_true.1 hsz k (DataW.weights_mem_each ht hd k ?_)
    rw [hx.1]
    simp only [DataW.weights, Try.underlying33]
    exact hk
  have hs : ∃ A m c, l2 = .slice A m c := by
    simp at t2
    rcases open_int_rows Try.underlying22 Try.underlying23 Try.underlying3 (by kernel_rfl) (by kernel_rfl) t2 with ⟨hcs, _⟩ | ⟨x, l, c, A, L, C, Z, hcs, _⟩
    · simp at hcs
      exact ⟨_, _, _, hcs⟩
    · simp at hcs
      exact ⟨_, _, _, hcs⟩
  obtain ⟨A, m, c, rfl⟩ := hs
  obtain ⟨ls, hL⟩ := open_l2 (j := 2) (a := A) (len := m) (cap := c) (d := y2.1) (p := y2.2) hsz2 rfl rfl ⟨n, t2⟩
  exact ⟨r0, r1, A, m, c, ls, by rw [hcs2, g0, g1], in64_of w0, in64_of w1, hL⟩

end Go.Proofs.Ytjbhnfejpgjghaa.opens
