/- Slices of numbers that came in; the mean lies between the least and the greatest. -/
import Derived.Deep.SlicePairs
import Derived.ChangeArms
import Derived.Test.YtgoojlnfobjplaaRows
import Derived.WalkKit
import Derived.ProofKit
import Derived.OpenShut
import Derived.ShutString
import Derived.ChangeOld
import Derived.Below
import Derived.SizedLaws
import Derived.Deep.Matrix
import Derived.Test.YtgoojlnfobjplaaZx1
import Derived.Test.YtgoojlnfobjplaaRf
namespace Go.Proofs.Ytgoojlnfobjplaa.joinRats
open Go.ChangeShapes Go.WideShapes Go.ChangeAt Go.RowKit
open Go.Deep
set_option linter.unusedSimpArgs false
set_option linter.unusedVariables false

theorem own : ownKnob Try.prog.godebug = none := by kernel_rfl
theorem laidOut : laidOutB Try.prog = true := by kernel_rfl

theorem addr_add {w : World} {a : Addr} {v : Value} (h : w.cell? a = some v) : a = ⟨a.block, a.off, none⟩ ∧ a.block < w.heap.size := by
  unfold World.cell? at h
  split at h
  · rename_i c _ _ hb
    split at h
    · cases h
    · rename_i hs
      refine ⟨?_, (Array.getElem?_eq_some_iff.1 hb).1⟩
      obtain ⟨b, o, s⟩ := a
      cases s with
      | none => rfl
      | some s => simp at hs
  · cases h

theorem add_cell {w : World} {a : Addr} {j : Nat} {v : Value} (e : a = ⟨a.block, a.off, none⟩) (h : w.cell? (a.add j) = some v) : w.cell? ⟨a.block, a.off + j, none⟩ = some v := by
  rw [← h]
  congr 1
  unfold Addr.add
  split
  · rename_i h
    subst h
    exact e.symm
  · rfl

theorem bytesR : Try.prog.bytesOf 24 = 16 := by kernel_rfl

set_option maxRecDepth 100000 in
theorem addr_ok {W : World} {base : Nat} {a : Addr} {len cap : Nat} (h : Value.okWide Try.prog W .any base 22 (.slice (some a) len cap)) : a = ⟨a.block, a.off, none⟩ ∧ a.block < W.heap.size := by
  simp only [Value.okWide, Try.underlying22, Cell.okWide, Cell.ok] at h
  obtain ⟨-, -, -, hs, row, cells, hsh, -⟩ := h
  constructor
  · obtain ⟨b, o, s⟩ := a
    simp at hs
    subst hs
    rfl
  · unfold World.shape? at hsh
    cases hb : W.heap[a.block]? with
    | none => rw [hb] at hsh; simp at hsh
    | some o => exact (Array.getElem?_eq_some_iff.1 hb).1

set_option maxRecDepth 100000 in
/-- an argument of numbers, opened -/
theorem open_rats {H : Type} {enc : TypeId × Value → H} {W : World} {base : Nat} {a : Option Addr} {len cap : Nat} {d : DataW H} {p : List MemPlace} {ts : List TypeId} {ds : List (DataW H)} (hsz : (DataW.weightsEach Try.prog ts ds).all (· ≤ reachBytes) = true) {j : Nat} (ht : ts[j]? = some 22) (hd : ds[j]? = some d)
    (hval : Value.okWide Try.prog W .any base 22 (.slice a len cap))
    (h : DataW.Trod enc Try.prog W 0 (fun _ => true) true 22 (.slice a len cap) d p) : ∃ xs, Rats W a len cap xs := by
  obtain ⟨fuel, hf⟩ := h
  rcases open_slice_pairs Try.underlying22 Try.underlying24 (by kernel_rfl) rfl rfl (by kernel_rfl) (by kernel_rfl) hf with ⟨hcs, _⟩ | ⟨x, l, c, m, n, V0, V1, D0, D1, P0, P1, hcs, _, hl, hmx, hm, hx, hcell⟩
  · simp [Value.cells] at hcs
    obtain ⟨rfl, rfl, rfl⟩ := hcs
    exact ⟨[], rfl, by omega, by show (0 : Nat) ≤ _; omega, fun _ h => (by cases h), .inl ⟨rfl, rfl⟩⟩
  · simp [Value.cells] at hcs
    obtain ⟨rfl, rfl, rfl⟩ := hcs
    simp only [if_true] at hm
    subst hm
    simp only [Prod.mk.injEq] at hx
    have hd1 := hd
    rw [hx.1] at hd1
    have s1 := sized_slice hsz ht hd1 Try.underlying22
    rw [bytesR] at s1
    simp at s1
    have hr : reachBytes < 140737488355328 := reachBytes_lt
    obtain ⟨e1, e2⟩ := addr_ok hval
    have each : ∀ i, i < m → ∃ z : Int × Int, V0 i = .int .i64 z.1 ∧ V1 i = .int .i64 z.2 ∧ In64 z.1 ∧ In64 z.2 := fun i hi => by
      obtain ⟨-, -, h1, h2⟩ := hcell i hi
      obtain ⟨n1, g1, -, w1⟩ := DataW.trod_int Try.underlying3 h1
      obtain ⟨n2, g2, -, w2⟩ := DataW.trod_int Try.underlying3 h2
      refine ⟨(n1, n2), by injection g1, by injection g2, ?_, ?_⟩
      · simp [Lit.wf, IntKind.min, IntKind.max, IntKind.signed, IntKind.bits] at w1
        unfold In64
        omega
      · simp [Lit.wf, IntKind.min, IntKind.max, IntKind.signed, IntKind.bits] at w2
        unfold In64
        omega
    obtain ⟨z, hz⟩ := choose_lt each
    refine ⟨(List.range len).map z, by simp, hl, by show m ≤ _; omega, fun x hxm => ?_, .inr ⟨x.block, x.off, by rw [← e1], e2, fun j u hj => ?_⟩⟩
    · rw [List.mem_map] at hxm
      obtain ⟨i, hi, rfl⟩ := hxm
      have := hz i (by simp at hi; omega)
      exact ⟨this.2.2.1, this.2.2.2⟩
    · have hj2 := (List.getElem?_eq_some_iff.1 hj).1
      simp at hj2
      obtain rfl : z j = u := by simpa [hj2] using hj
      obtain ⟨c0, c1, -, -⟩ := hcell j (by omega)
      obtain ⟨g0, g1, -, -⟩ := hz j (by omega)
      rw [g0] at c0
      rw [g1] at c1
      exact ⟨add_cell e1 c0, by have := add_cell e1 c1; rwa [← Nat.add_assoc] at this⟩

end Go.Proofs.Ytgoojlnfobjplaa.joinRats
namespace Go.Proofs.Ytgoojlnfobjplaa
open Go.RowKit

/-- some value that flows in is at most the mean -/
def belowM (l : List ((Int × Int) × (Int × Int))) (v : Rat) : Bool := l.any fun p => decide (p.1.1 < 0) && decide (ratOf p.2 ≤ v)
/-- some value that flows in is at least the mean -/
def aboveM (l : List ((Int × Int) × (Int × Int))) (v : Rat) : Bool := l.any fun p => decide (p.1.1 < 0) && decide (v ≤ ratOf p.2)

end Go.Proofs.Ytgoojlnfobjplaa

/- The mean lies between the least and the greatest: plain laws. -/
namespace Go.Proofs.Ytgoojlnfobjplaa
open Go.RowKit
set_option linter.unusedSimpArgs false
set_option linter.unusedVariables false

/-- what is known where there is a mean -/
theorem mixed_ok {xs ys : List (Int × Int)} {p1 p2 : Int} (h : ((p1, p2), true, (0 : Int)) = mixed xs ys) : AllVR xs ∧ AllVR ys ∧ xs.length = ys.length ∧ xs.length ≤ 64 ∧ mixB (xs.zip ys) ≠ 0 ∧ ratOf (p1, p2) = mixS (xs.zip ys) / mixB (xs.zip ys) ∧ VR p1 p2 := by
  unfold mixed at h
  split at h
  · simp at h
  · rename_i h1
    split at h
    · simp at h
    · rename_i h2
      split at h
      · simp at h
      · rename_i h3
        split at h
        · simp at h
        · rename_i h4
          split at h
          · rename_i h5
            generalize hq : mixS (xs.zip ys) / mixB (xs.zip ys) = q at *
            obtain ⟨rfl, rfl⟩ : p1 = q.num ∧ p2 = (q.den : Int) := by simpa using h
            have h6 := Decidable.not_not.1 h1
            have hc := q.reduced
            refine ⟨h6.1, h6.2, by omega, by omega, h4, rat_self q, ?_⟩
            have := q.den_pos
            exact ⟨by omega, h5.2.2, h5.1, h5.2.1, hc⟩
          · simp at h

theorem neg_pos {x : Int × Int} (h : VR x.1 x.2) (hx : x.1 < 0) : 0 < -ratOf x := by
  refine Rat.not_le.1 fun h1 => ?_
  have h2 : 0 ≤ ratOf x := by grind
  rw [← Rat.num_nonneg, (ratOf_num h).1] at h2
  omega

theorem up_step {S B w v m : Rat} (hw : 0 < w) (hv : m < v) (h : m * B ≤ S) : m * (B + w) < S + w * v := by
  have h1 : 0 < w * (v - m) := Rat.mul_pos hw (by grind)
  grind
theorem dn_step {S B w v m : Rat} (hw : 0 < w) (hv : v < m) (h : S ≤ m * B) : S + w * v < m * (B + w) := by
  have h1 : 0 < w * (m - v) := Rat.mul_pos hw (by grind)
  grind

theorem mean_up {l : List ((Int × Int) × (Int × Int))} {m : Rat} (hv : ∀ p ∈ l, VR p.1.1 p.1.2) (hlt : ∀ p ∈ l, p.1.1 < 0 → m < ratOf p.2) : ∀ k, k ≤ l.length → m * mixB (l.take k) ≤ mixS (l.take k) ∧ (mixB (l.take k) = 0 ∨ m * mixB (l.take k) < mixS (l.take k))
  | 0, _ => by
    simp [mixB, mixS]
  | k + 1, hk => by
    obtain ⟨h1, h2⟩ := mean_up hv hlt k (by omega)
    have hp : l[k]? = some l[k] := List.getElem?_eq_getElem (by omega)
    have hm := List.mem_of_getElem? hp
    generalize l[k] = p at hp hm
    have e : l.take (k + 1) = l.take k ++ [p] := by rw [List.take_add_one, hp]; rfl
    rw [e, mixB_snoc, mixS_snoc]
    by_cases hneg : p.1.1 < 0
    · rw [if_pos hneg, if_pos hneg]
      have h3 := up_step (neg_pos (hv p hm) hneg) (hlt p hm hneg) h1
      exact ⟨Rat.le_of_lt h3, .inr h3⟩
    · rw [if_neg hneg, if_neg hneg]
      exact ⟨h1, h2⟩

theorem mean_dn {l : List ((Int × Int) × (Int × Int))} {m : Rat} (hv : ∀ p ∈ l, VR p.1.1 p.1.2) (hlt : ∀ p ∈ l, p.1.1 < 0 → ratOf p.2 < m) : ∀ k, k ≤ l.length → mixS (l.take k) ≤ m * mixB (l.take k) ∧ (mixB (l.take k) = 0 ∨ mixS (l.take k) < m * mixB (l.take k))
  | 0, _ => by
    simp [mixB, mixS]
  | k + 1, hk => by
    obtain ⟨h1, h2⟩ := mean_dn hv hlt k (by omega)
    have hp : l[k]? = some l[k] := List.getElem?_eq_getElem (by omega)
    have hm := List.mem_of_getElem? hp
    generalize l[k] = p at hp hm
    have e : l.take (k + 1) = l.take k ++ [p] := by rw [List.take_add_one, hp]; rfl
    rw [e, mixB_snoc, mixS_snoc]
    by_cases hneg : p.1.1 < 0
    · rw [if_pos hneg, if_pos hneg]
      have h3 := dn_step (neg_pos (hv p hm) hneg) (hlt p hm hneg) h1
      exact ⟨Rat.le_of_lt h3, .inr h3⟩
    · rw [if_neg hneg, if_neg hneg]
      exact ⟨h1, h2⟩

theorem mean_both {l : List ((Int × Int) × (Int × Int))} {m : Rat} (hv : ∀ p ∈ l, VR p.1.1 p.1.2) (hB : mixB l ≠ 0) (hm : m = mixS l / mixB l) : belowM l m = true ∧ aboveM l m = true := by
  have hmul : m * mixB l = mixS l := by rw [hm]; exact Rat.div_mul_cancel hB
  constructor
  · cases hb : belowM l m with
    | true => rfl
    | false =>
      exfalso
      have h1 : ∀ p ∈ l, p.1.1 < 0 → m < ratOf p.2 := fun p hp hn => by
        unfold belowM at hb
        rw [List.any_eq_false] at hb
        have h2 := hb p hp
        simp [hn] at h2
        exact Rat.not_le.1 h2
      have h3 := (mean_up hv h1 l.length (Nat.le_refl _)).2
      rw [List.take_length, hmul] at h3
      rcases h3 with h3 | h3
      · exact hB h3
      · exact Rat.lt_irrefl h3
  · cases hb : aboveM l m with
    | true => rfl
    | false =>
      exfalso
      have h1 : ∀ p ∈ l, p.1.1 < 0 → ratOf p.2 < m := fun p hp hn => by
        unfold aboveM at hb
        rw [List.any_eq_false] at hb
        have h2 := hb p hp
        simp [hn] at h2
        exact Rat.not_le.1 h2
      have h3 := (mean_dn hv h1 l.length (Nat.le_refl _)).2
      rw [List.take_length, hmul] at h3
      rcases h3 with h3 | h3
      · exact hB h3
      · exact Rat.lt_irrefl h3

theorem cmp_le (a b : Rat) : (cmpI (a.num * b.den) (b.num * a.den) ≤ 0 ↔ a ≤ b) ∧ (0 ≤ cmpI (a.num * b.den) (b.num * a.den) ↔ b ≤ a) := by
  rw [Rat.le_iff, Rat.le_iff]
  unfold cmpI
  constructor
  · split
    · constructor <;> intro <;> omega
    · split <;> constructor <;> intro <;> omega
  · split
    · constructor <;> intro <;> omega
    · split <;> constructor <;> intro <;> omega

end Go.Proofs.Ytgoojlnfobjplaa
