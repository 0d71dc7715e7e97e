/- What a store into a block that holds no words leaves as it was. -/
import Derived.Test.YtgoojlnfobjplaaZa
namespace Go.Proofs.Ytgoojlnfobjplaa
open Go.RowKit
set_option linter.unusedSimpArgs false
set_option linter.unusedVariables false

theorem bcell {W w1 : World} (hb : Below W.heap.size W w1) : (∀ b o, b < W.heap.size → w1.cell? ⟨b, o, none⟩ = W.cell? ⟨b, o, none⟩) ∧ (∀ b o, b < W.heap.size → w1.frozen? ⟨b, o, none⟩ = W.frozen? ⟨b, o, none⟩) :=
  ⟨fun b o h => hb.cell (p := ⟨b, o, none⟩) h, fun b o h => hb.frozen (p := ⟨b, o, none⟩) h⟩

/-- only block g has been written -/
def SetB (g : Nat) (w w' : World) : Prop := w.heap.size ≤ w'.heap.size ∧ ∀ p : Addr, p.block ≠ g → w'.cell? p = w.cell? p
theorem SetB.refl (g : Nat) (w : World) : SetB g w w := ⟨Nat.le_refl _, fun _ _ => rfl⟩
theorem SetB.setCell {g : Nat} {w w' : World} (h : SetB g w w') {p : Addr} (hp : p.block = g) (u : Value) : SetB g w (w'.setCell p u) :=
  ⟨by simpa [World.setCell] using h.1, fun q hq => (World.cell?_setCell_other w' p q u (fun e => hq (by rw [← e, hp]))).trans (h.2 q hq)⟩
theorem SetB.set3 (w : World) (g : Nat) (a b c : Nat) (u v x : Value) : SetB g w (((w.setCell ⟨g, a, none⟩ u).setCell ⟨g, b, none⟩ v).setCell ⟨g, c, none⟩ x) :=
  (((SetB.refl g w).setCell rfl _).setCell rfl _).setCell rfl _

/-- a block without words -/
def NoW (w : World) (g : Nat) : Prop := ∀ i u, w.cell? ⟨g, i, none⟩ ≠ some (.int .u32 u)

theorem NoW.z {w : World} {g : Nat} {t : TypeId} {a : Int} {A : Option Addr} {l c : Nat} {s : Bool} (h : Blk w g t #[.int .i64 a, .slice A l c, .bool s]) : NoW w g := by
  intro i u
  rw [h.cell i]
  match i with
  | 0 => simp
  | 1 => simp
  | 2 => simp
  | (k + 3) => simp

theorem NoW.q {w : World} {g : Nat} {t : TypeId} {a a' : Int} {A A' : Option Addr} {l c l' c' : Nat} {s s' : Bool} (h : Blk w g t #[.int .i64 a, .slice A l c, .bool s, .int .i64 a', .slice A' l' c', .bool s']) : NoW w g := by
  intro i u
  rw [h.cell i]
  match i with
  | 0 => simp
  | 1 => simp
  | 2 => simp
  | 3 => simp
  | 4 => simp
  | 5 => simp
  | (k + 6) => simp

theorem U32.set {w w' : World} {A n c xs g} (h : U32 w A n c xs) (hN : NoW w g) (hs : SetB g w w') : U32 w' A n c xs := by
  obtain ⟨h1, h2, h3, h4, h5⟩ := h
  refine ⟨h1, h2, h3, h4, ?_⟩
  rcases h5 with h5 | ⟨g', o, rfl, hg, hc⟩
  · exact .inl h5
  · refine .inr ⟨g', o, rfl, Nat.lt_of_lt_of_le hg hs.1, fun j u hu => ?_⟩
    have h0 := hc j u hu
    rw [← h0]
    refine hs.2 ⟨g', o + j, none⟩ ?_
    rintro rfl
    exact hN _ _ h0

theorem ZR.set {w w' : World} {z n g} (h : ZR w z n) (hN : NoW w g) (hs : SetB g w w') : ZR w' z n := by
  rcases h with h | ⟨xs, h1, h2, h3⟩
  · exact .inl h
  · exact .inr ⟨xs, h1, h2.set hN hs, h3⟩

theorem QR.set {w w' : World} {q r g} (h : QR w q r) (hN : NoW w g) (hs : SetB g w w') : QR w' q r := ⟨h.1.set hN hs, h.2.set hN hs⟩

theorem blk3 {w : World} {g : Nat} {t : TypeId} {a b c : Value} (h : Blk w g t #[a, b, c]) : w.cell? ⟨g, 0, none⟩ = some a ∧ w.cell? ⟨g, 1, none⟩ = some b ∧ w.cell? ⟨g, 2, none⟩ = some c ∧ w.frozen? ⟨g, 0, none⟩ = false ∧ w.frozen? ⟨g, 1, none⟩ = false ∧ w.frozen? ⟨g, 2, none⟩ = false :=
  ⟨h.cell 0, h.cell 1, h.cell 2, h.frozen 0, h.frozen 1, h.frozen 2⟩
theorem blk6 {w : World} {g : Nat} {t : TypeId} {a b c d e f : Value} (h : Blk w g t #[a, b, c, d, e, f]) : (w.cell? ⟨g, 0, none⟩ = some a ∧ w.cell? ⟨g, 1, none⟩ = some b ∧ w.cell? ⟨g, 2, none⟩ = some c ∧ w.cell? ⟨g, 3, none⟩ = some d ∧ w.cell? ⟨g, 4, none⟩ = some e ∧ w.cell? ⟨g, 5, none⟩ = some f) ∧ (w.frozen? ⟨g, 0, none⟩ = false ∧ w.frozen? ⟨g, 1, none⟩ = false ∧ w.frozen? ⟨g, 2, none⟩ = false ∧ w.frozen? ⟨g, 3, none⟩ = false ∧ w.frozen? ⟨g, 4, none⟩ = false ∧ w.frozen? ⟨g, 5, none⟩ = false) :=
  ⟨⟨h.cell 0, h.cell 1, h.cell 2, h.cell 3, h.cell 4, h.cell 5⟩, h.frozen 0, h.frozen 1, h.frozen 2, h.frozen 3, h.frozen 4, h.frozen 5⟩

theorem len_le_of_val {xs ys : List Nat} (hx : Bd xs) (hy : Tr ys) (h : val ys ≤ val xs) : ys.length ≤ xs.length := by
  rcases Nat.lt_or_ge xs.length ys.length with h1 | h1
  · have := Tr.lt_of_len hx hy h1; omega
  · exact h1

end Go.Proofs.Ytgoojlnfobjplaa
