/- Rows of words of the call's own. -/
import Derived.Test.YtgoojlnfobjplaaZk6
namespace Go.Proofs.Ytgoojlnfobjplaa
open Go.RowKit
set_option linter.unusedSimpArgs false
set_option linter.unusedVariables false

/-- a row of words of the call's own, full length -/
def Rw (w : World) (g n : Nat) (L : List Nat) : Prop := w.ownsRow g 85 1 (.slice (some ⟨g, 0, none⟩) n n) n (vs L) ∧ Bd L

section
variable {w : World} {g n : Nat} {L : List Nat}
theorem Rw.len (h : Rw w g n L) : L.length = n := own_len h.1
theorem Rw.lt (h : Rw w g n L) : g < w.heap.size := (h.1.lt g rfl).2
theorem Rw.cell (h : Rw w g n L) {k : Nat} (hk : k < n) : ∃ t, L[k]? = some t ∧ t < 4294967296 ∧ w.cell? ⟨g, k, none⟩ = some (.int .u32 (t : Int)) := by
  obtain ⟨t, h1, h2⟩ := row_cell h.1 hk
  exact ⟨t, h1, h.2 _ (List.mem_of_getElem? h1), h2⟩
theorem Rw.frozen (h : Rw w g n L) (k : Nat) : w.frozen? ⟨g, k, none⟩ = false := h.1.frozenAt k
theorem Rw.set (h : Rw w g n L) (k t : Nat) (ht : t < 4294967296) {i : Int} (hi : (t : Int) = i) : Rw (w.setCell ⟨g, k, none⟩ (.int .u32 i)) g n (L.set k t) := ⟨row_set h.1 k t hi, Bd_set h.2 ht⟩
theorem Rw.other (h : Rw w g n L) {g' n' : Nat} {L' : List Nat} (h' : Rw w g' n' L') (hne : g ≠ g') (k : Nat) (u : Value) : Rw (w.setCell ⟨g', k, none⟩ u) g n L :=
  ⟨h.1.kept (h'.1.stored k u).2 (.inr (by simpa [Value.ownBlock] using hne)), h.2⟩
theorem Rw.grown (h : Rw w g n L) {w' : World} (hg : w.grownBy w' none) : Rw w' g n L := ⟨h.1.kept hg (.inr (by simp [Value.ownBlock])), h.2⟩
theorem Rw.drew (h : Rw w g n L) : Rw w.drew g n L := h
theorem Rw.drewN (h : Rw w g n L) (k : Nat) : Rw (w.drewN k) g n L := h
theorem Rw.new {w' : World} (h : w'.ownsRow g 85 1 (.slice (some ⟨g, 0, none⟩) n n) n (madeCells (Value.int .u32 0).cells (n * 1)).toList) : Rw w' g n (List.replicate n 0) := by
  rw [made_zeros] at h
  exact ⟨h, Bd_zeros _⟩
theorem Rw.u32 (h : Rw w g n L) : U32 w (some ⟨g, 0, none⟩) n n L := U32.own h.1 h.2
end

end Go.Proofs.Ytgoojlnfobjplaa
