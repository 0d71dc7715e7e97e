/- Opening of arguments: texts, numbers, truths, moves, machines, charts, configurations. -/
import Derived.Test.YtgjmbmlmopomgaaRows
import Derived.WalkKit
import Derived.ProofKit
import Derived.OpenShut
import Derived.ShutString
import Derived.ChangeOld
import Derived.Below
import Derived.SizedLaws
import Derived.Deep.Slices
import Derived.ChangeArms
import Derived.Test.YtgjmbmlmopomgaaEa
namespace Go.Proofs.Ytgjmbmlmopomgaa.opens
open Go.ChangeShapes Go.WideShapes Go.ChangeAt Go.RowKit
open Go.Deep
set_option linter.unusedSimpArgs false
set_option linter.unusedVariables false

theorem own : ownKnob Try.prog.godebug = none := by kernel_rfl
theorem laidOut : laidOutB Try.prog = true := by kernel_rfl

theorem addr_plain {w : World} {a : Addr} {v : Value} (h : w.cell? a = some v) : a = ⟨a.block, a.off, none⟩ ∧ a.block < w.heap.size := by
  unfold World.cell? at h
  split at h
  · rename_i c _ _ hb
    split at h
    · cases h
    · rename_i hs
      refine ⟨?_, (Array.getElem?_eq_some_iff.1 hb).1⟩
      obtain ⟨b, o, s⟩ := a
      cases s with
      | none => rfl
      | some s => simp at hs
  · cases h
theorem plain_cell {w : World} {a : Addr} {j : Nat} {v : Value} (e : a = ⟨a.block, a.off, none⟩) (h : w.cell? (a.add j) = some v) : w.cell? ⟨a.block, a.off + j, none⟩ = some v := by
  rw [← h]
  congr 1
  unfold Addr.add
  split
  · rename_i h
    subst h
    exact e.symm
  · rfl
theorem addr_add0 (g o j : Nat) : (⟨g, o, none⟩ : Addr).add j = ⟨g, o + j, none⟩ := by
  unfold Addr.add
  by_cases h : j = 0
  · simp [h]
  · simp [h]
theorem collect {α : Type} {P : Nat → α → Prop} : ∀ n, (∀ i, i < n → ∃ x, P i x) → ∃ l : List α, l.length = n ∧ ∀ i x, l[i]? = some x → P i x := by
  intro n
  induction n with
  | zero => intro _; exact ⟨[], rfl, fun i x h => by simp at h⟩
  | succ n ih =>
    intro h
    obtain ⟨l, hl, hp⟩ := ih fun i hi => h i (by omega)
    obtain ⟨x, hx⟩ := h n (by omega)
    refine ⟨l ++ [x], by simp [hl], fun i y hy => ?_⟩
    rcases Nat.lt_or_ge i n with h1 | h1
    · rw [List.getElem?_append_left (by omega)] at hy
      exact hp i y hy
    · rw [List.getElem?_append_right (by omega)] at hy
      have : i - l.length = 0 := by
        have := (List.getElem?_eq_some_iff.1 hy).1
        simp at this
        omega
      rw [this] at hy
      simp at hy
      subst hy
      obtain rfl : i = n := by omega
      exact hx

section
variable {H : Type} {enc : TypeId × Value → H} {W : World}
/-- no slice inside is too long -/
def Sz (t : TypeId) (d : DataW H) : Prop := ∀ k ∈ DataW.weights Try.prog t d, k ≤ reachBytes
theorem weightsAll_mem {P : Program} {e : TypeId} {d : DataW H} : ∀ {l : List (DataW H)}, d ∈ l → ∀ n ∈ DataW.weights P e d, n ∈ DataW.weightsAll P e l
  | [], h, _, _ => by cases h
  | x :: l, hd, n, hn => by
    simp only [DataW.weightsAll, List.mem_append]
    rcases List.mem_cons.1 hd with rfl | h
    · exact Or.inl hn
    · exact Or.inr (weightsAll_mem h n hn)
theorem Sz.slice {t e : TypeId} {el sp : List (DataW H)} (hu : Try.prog.underlying t = some (.slice e)) (h : Sz t (.slice el sp)) : (el.length + sp.length) * Try.prog.bytesOf e ≤ reachBytes ∧ ∀ x ∈ el, Sz e x := by
  unfold Sz at h
  simp only [DataW.weights, hu, List.mem_cons, List.mem_append] at h
  exact ⟨h _ (.inl rfl), fun x hx k hk => h k (.inr (.inl (weightsAll_mem hx k hk)))⟩
theorem Sz.field {t : TypeId} {fs : Array Field} {ds : List (DataW H)} (hu : Try.prog.underlying t = some (.struct fs)) (h : Sz t (.agg ds)) {j : Nat} {f : Field} {d : DataW H} (hf : fs[j]? = some f) (hd : ds[j]? = some d) : Sz f.type d := by
  unfold Sz at h
  simp only [DataW.weights, hu] at h
  intro k hk
  refine h k (DataW.weights_mem_each (j := j) ?_ hd k hk)
  rw [List.getElem?_map, Array.getElem?_toList, hf]
  rfl
theorem sz_of {ts : List TypeId} {ds : List (DataW H)} (hsz : (DataW.weightsEach Try.prog ts ds).all (· ≤ reachBytes) = true) {j : Nat} {t : TypeId} {d : DataW H} (ht : ts[j]? = some t) (hd : ds[j]? = some d) : Sz t d :=
  fun k hk => of_decide_eq_true (List.all_eq_true.1 hsz k (DataW.weights_mem_each ht hd k hk))

/-- a slice of k-cell elements -/
theorem row_of {t e : TypeId} {fuel k b : Nat} {v : Value} {y : DataW H × List MemPlace} (ht : Try.prog.underlying t = some (.slice e)) (hc : Try.prog.cellsOf e = k) (hk : 0 < k) (hb : Try.prog.bytesOf e = b)
    (h : DataW.trod enc Try.prog W 0 (fun _ => true) true fuel t [v] = some y) (hz : Sz t y.1) :
    v = .slice none 0 0 ∨ ∃ (a : Addr) (len cap n : Nat) (D : Nat → DataW H) (Pl : Nat → List MemPlace), v = .slice (some a) len cap ∧ len ≤ cap ∧ len * b ≤ reachBytes ∧
      (0 < len → a = ⟨a.block, a.off, none⟩ ∧ a.block < W.heap.size) ∧
      ∀ i, i < len → ∃ cs : List Value, cs.length = k ∧ (∀ j u, cs[j]? = some u → W.cell? ⟨a.block, a.off + (i * k + j), none⟩ = some u) ∧ DataW.trod enc Try.prog W 0 (fun _ => true) true n e cs = some (D i, Pl i) ∧ Sz e (D i) := by
  rcases open_slice ht h with ⟨h1, -⟩ | ⟨a, len, cap, m, n, D, Pl, hcs, -, hl, -, hm, rfl, hi⟩
  · simp at h1
    exact .inl h1
  · simp at hcs
    simp only [if_true] at hm
    subst hm
    obtain ⟨hz1, hz2⟩ := Sz.slice ht hz
    have hplain : 0 < len → a = ⟨a.block, a.off, none⟩ ∧ a.block < W.heap.size := fun h0 => by
      obtain ⟨cs', c1, -⟩ := hi 0 (by omega)
      rw [hc] at c1
      obtain ⟨_, hcl, hat⟩ := World.cells?_some c1
      have h2 := hat 0 (by omega)
      have hv : cs'[0]? = some (cs'[0]'(by omega)) := List.getElem?_eq_getElem (by omega)
      rw [hv] at h2
      have h3 : (a.add (0 * k)).add 0 = a := by simp [Addr.add]
      rw [h3] at h2
      exact addr_plain h2
    refine .inr ⟨a, len, m, n, D, Pl, hcs, hl, ?_, hplain, fun i hil => ?_⟩
    · rw [hb] at hz1
      simp at hz1
      exact Nat.le_trans (Nat.mul_le_mul_right b (by omega)) hz1
    · obtain ⟨cs', c1, c2⟩ := hi i (by omega)
      rw [hc] at c1
      obtain ⟨_, hcl, hat⟩ := World.cells?_some c1
      obtain ⟨e1, e2⟩ := hplain (by omega)
      refine ⟨cs', hcl, fun j u hj => ?_, c2, hz2 _ (List.mem_map.2 ⟨i, List.mem_range.2 hil, rfl⟩)⟩
      have hjk : j < k := by rw [← hcl]; exact (List.getElem?_eq_some_iff.1 hj).1
      have h2 := hat j hjk
      rw [hj] at h2
      rw [show (a.add (i * k)).add j = a.add (i * k + j) from by
        rw [e1, addr_add0, addr_add0, addr_add0]; simp only [Nat.add_assoc]] at h2
      exact plain_cell e1 h2
end

end Go.Proofs.Ytgjmbmlmopomgaa.opens
