/- Opening of arguments: slices of numbers, slices of such slices. -/
import Derived.Test.YtjbhnfejpgjghaaRows
import Derived.WalkKit
import Derived.ProofKit
import Derived.OpenShut
import Derived.ShutString
import Derived.ChangeOld
import Derived.Below
import Derived.SizedLaws
import Derived.Deep.Matrix
import Derived.Test.YtjbhnfejpgjghaaMa
namespace Go.Proofs.Ytjbhnfejpgjghaa.opens
open Go.ChangeShapes Go.WideShapes Go.ChangeAt Go.RowKit
open Go.ChangeMaps (open_string shut_string)
open Go.Deep
set_option linter.unusedSimpArgs false
set_option linter.unusedVariables false

theorem own : ownKnob Try.prog.godebug = none := by kernel_rfl
theorem laidOut : laidOutB Try.prog = true := by kernel_rfl

theorem addr_add {w : World} {a : Addr} {v : Value} (h : w.cell? a = some v) : a = ⟨a.block, a.off, none⟩ ∧ a.block < w.heap.size := by
  unfold World.cell? at h
  split at h
  · rename_i c _ _ hb
    split at h
    · cases h
    · rename_i hs
      refine ⟨?_, (Array.getElem?_eq_some_iff.1 hb).1⟩
      obtain ⟨b, o, s⟩ := a
      cases s with
      | none => rfl
      | some s => simp at hs
  · cases h

theorem add_cell {w : World} {a : Addr} {j : Nat} {v : Value} (e : a = ⟨a.block, a.off, none⟩) (h : w.cell? (a.add j) = some v) : w.cell? ⟨a.block, a.off + j, none⟩ = some v := by
  rw [← h]
  congr 1
  unfold Addr.add
  split
  · rename_i h
    subst h
    exact e.symm
  · rfl

/-- a slice of numbers that came in -/
theorem l1_of {w : World} {a : Addr} {n c : Nat} {zs : List Int} (hl : n ≤ c) (hz : zs.length = c) (hb : n ≤ 17592186044416) (hcell : ∀ i, i < zs.length → w.cell? (a.add i) = some (.int .i64 (zs.getD i 0))) (hw : ∀ z ∈ zs, (Lit.int .i64 z).wf = true) : L1 w (some a) n c (zs.take n) := by
  refine ⟨by rw [List.length_take]; omega, hb, fun z h => ?_, ?_⟩
  · have := hw z (List.mem_of_mem_take h)
    simp [Lit.wf, IntKind.min, IntKind.max, IntKind.signed, IntKind.bits] at this
    unfold In64
    omega
  · rcases Nat.eq_zero_or_pos n with h0 | h0
    · exact .inl h0
    · have h1 := hcell 0 (by omega)
      rw [show a.add 0 = a by simp [Addr.add]] at h1
      obtain ⟨e1, e2⟩ := addr_add h1
      refine .inr ⟨a.block, a.off, by rw [← e1], e2, fun j z hj => ?_⟩
      have hj2 := (List.getElem?_eq_some_iff.1 hj).1
      rw [List.length_take] at hj2
      have h2 := hcell j (by omega)
      rw [List.getElem?_take_of_lt (by omega)] at hj
      rw [List.getD_eq_getElem?_getD, hj] at h2
      exact add_cell e1 h2

/-- a slice of slices of numbers that came in -/
theorem l2_of {w : World} {a : Addr} {n c : Nat} {A : Nat → Option Addr} {L C : Nat → Nat} {Z : Nat → List Int} (hl : n ≤ c) (hb : n ≤ 17592186044416) (hL : ∀ r, r < n → L r ≤ 17592186044416)
    (hrows : ∀ r, r < c → w.cell? (a.add r) = some (.slice (A r) (L r) (C r)) ∧ L r ≤ C r ∧ C r ≤ maxLen ∧ (Z r).length = C r ∧ (∀ n ∈ Z r, (Lit.int .i64 n).wf = true) ∧ (A r = none → C r = 0) ∧ ∀ a', A r = some a' → 0 ≤ a'.block ∧ ∀ k, k < C r → w.cell? (a'.add k) = some (.int .i64 ((Z r).getD k 0))) :
    L2 w (some a) n c ((List.range n).map fun r => (Z r).take (L r)) := by
  refine ⟨by simp, hb, ?_⟩
  rcases Nat.eq_zero_or_pos n with h0 | h0
  · exact .inl h0
  · have h1 := (hrows 0 (by omega)).1
    rw [show a.add 0 = a by simp [Addr.add]] at h1
    obtain ⟨e1, e2⟩ := addr_add h1
    refine .inr ⟨a.block, a.off, by rw [← e1], e2, fun j zs hj => ?_⟩
    have hj2 := (List.getElem?_eq_some_iff.1 hj).1
    simp at hj2
    obtain rfl : (Z j).take (L j) = zs := by simpa [hj2] using hj
    obtain ⟨c1, c2, c3, c4, c5, c6, c7⟩ := hrows j (by omega)
    refine ⟨A j, L j, C j, add_cell e1 c1, ?_⟩
    cases hA : A j with
    | none =>
      have h2 := c6 hA
      exact ⟨by rw [List.length_take]; omega, hL j hj2, fun z hz => by rw [show L j = 0 by omega] at hz; simp at hz, .inl (by omega)⟩
    | some a' => exact l1_of c2 c4 (hL j hj2) (fun i hi => (c7 a' hA).2 i (by rw [c4] at hi; exact hi)) c5

/-- the bytes that an argument may take bound a row inside a slice of slices -/
theorem weightsAll_mem {H : Type} {P : Program} {e : TypeId} {d : DataW H} : ∀ {l : List (DataW H)}, d ∈ l → ∀ n ∈ DataW.weights P e d, n ∈ DataW.weightsAll P e l
  | [], h, _, _ => by cases h
  | x :: l, hd, n, hn => by
    simp only [DataW.weightsAll, List.mem_append]
    rcases List.mem_cons.1 hd with rfl | h
    · exact Or.inl hn
    · exact Or.inr (weightsAll_mem h n hn)

theorem sized_inner {H : Type} {P : Program} {ts : List TypeId} {ds : List (DataW H)} (h : (DataW.weightsEach P ts ds).all (· ≤ reachBytes) = true) {j : Nat} {t e q : TypeId} {elems spare e' sp' : List (DataW H)}
    (ht : ts[j]? = some t) (hd : ds[j]? = some (.slice elems spare)) (hu : P.underlying t = some (.slice e)) (hu2 : P.underlying e = some (.slice q)) (hx : DataW.slice e' sp' ∈ elems) : (e'.length + sp'.length) * P.bytesOf q ≤ reachBytes := by
  refine of_decide_eq_true (List.all_eq_true.1 h _ (DataW.weights_mem_each ht hd _ ?_))
  simp only [DataW.weights, hu, List.mem_cons, List.mem_append]
  exact Or.inr (Or.inl (weightsAll_mem hx _ (by simp [DataW.weights, hu2])))

theorem bytesI : Try.prog.bytesOf 3 = 8 := by kernel_rfl
theorem bytesS : Try.prog.bytesOf 23 = 24 := by kernel_rfl

/-- an argument of slices of slices, opened -/
theorem open_l2 {H : Type} {enc : TypeId × Value → H} {W : World} {a : Option Addr} {len cap : Nat} {d : DataW H} {p : List MemPlace} {ts : List TypeId} {ds : List (DataW H)} (hsz : (DataW.weightsEach Try.prog ts ds).all (· ≤ reachBytes) = true) {j : Nat} (ht : ts[j]? = some 22) (hd : ds[j]? = some d)
    (h : DataW.Trod enc Try.prog W 0 (fun _ => true) true 22 (.slice a len cap) d p) : ∃ ls, L2 W a len cap ls := by
  obtain ⟨fuel, hf⟩ := h
  rcases open_int_rows Try.underlying22 Try.underlying23 Try.underlying3 (by kernel_rfl) (by kernel_rfl) hf with ⟨hcs, _⟩ | ⟨x, l, c, A, L, C, Z, hcs, _, hl, hm, hx, hrows⟩
  · simp [Value.cells] at hcs
    obtain ⟨rfl, rfl, rfl⟩ := hcs
    exact ⟨[], rfl, by omega, .inl rfl⟩
  · simp [Value.cells] at hcs
    obtain ⟨rfl, rfl, rfl⟩ := hcs
    simp only [Prod.mk.injEq] at hx
    have hd1 := hd
    rw [hx.1] at hd1
    have s1 := sized_slice hsz ht hd1 Try.underlying22
    rw [bytesS] at s1
    simp at s1
    have hr : reachBytes < 140737488355328 := reachBytes_lt
    refine ⟨_, l2_of hl (by omega) (fun r hr2 => ?_) hrows⟩
    obtain ⟨c1, c2, c3, c4, c5, c6, c7⟩ := hrows r (by omega)
    cases hA : A r with
    | none => have := c6 hA; omega
    | some a' =>
      have hmem : DataW.slice (lits .i64 ((Z r).take (L r))) (lits .i64 ((Z r).drop (L r))) ∈ (List.range len).map fun r => intRow (H := H) .i64 (A r) (L r) (Z r) := by
        rw [List.mem_map]
        exact ⟨r, by simpa using hr2, by rw [hA]; rfl⟩
      have s2 := sized_inner hsz ht hd1 Try.underlying22 Try.underlying23 hmem
      rw [bytesI] at s2
      simp [lits] at s2
      omega

/-- an argument of numbers, opened -/
theorem open_l1 {H : Type} {enc : TypeId × Value → H} {W : World} {a : Option Addr} {len cap : Nat} {d : DataW H} {p : List MemPlace} {ts : List TypeId} {ds : List (DataW H)} (hsz : (DataW.weightsEach Try.prog ts ds).all (· ≤ reachBytes) = true) {j : Nat} (ht : ts[j]? = some 23) (hd : ds[j]? = some d)
    (h : DataW.Trod enc Try.prog W 0 (fun _ => true) true 23 (.slice a len cap) d p) : ∃ zs, L1 W a len cap zs := by
  obtain ⟨fuel, hf⟩ := h
  rcases open_ints Try.underlying23 Try.underlying3 (by kernel_rfl) hf with ⟨hcs, _⟩ | ⟨x, l, c, zs, hcs, _, hl, hm, hz, hx, hcell, hwz⟩
  · simp [Value.cells] at hcs
    obtain ⟨rfl, rfl, rfl⟩ := hcs
    exact ⟨[], rfl, by omega, fun _ h => (by cases h), .inl rfl⟩
  · simp [Value.cells] at hcs
    obtain ⟨rfl, rfl, rfl⟩ := hcs
    simp only [Prod.mk.injEq] at hx
    have hd1 := hd
    rw [hx.1] at hd1
    have s1 := sized_slice hsz ht hd1 Try.underlying23
    rw [bytesI] at s1
    simp [lits] at s1
    have hr : reachBytes < 140737488355328 := reachBytes_lt
    have hz' : zs.length = cap := by simpa using hz
    exact ⟨_, l1_of hl hz' (by omega) hcell hwz⟩

end Go.Proofs.Ytjbhnfejpgjghaa.opens
