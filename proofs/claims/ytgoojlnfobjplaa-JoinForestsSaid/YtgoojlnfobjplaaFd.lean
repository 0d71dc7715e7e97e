/- Lists of lists of numbers as they come in; what a node is. -/
import Derived.Test.YtgoojlnfobjplaaFc
namespace Go.Proofs.Ytgoojlnfobjplaa
open Go.RowKit Go.Maps
set_option linter.unusedSimpArgs false
set_option linter.unusedVariables false

/-- a slice that reads as these numbers -/
def L1 (w : World) (A : Option Addr) (n c : Nat) (zs : List Int) : Prop :=
  zs.length = n ∧ n ≤ 17592186044416 ∧ (∀ z ∈ zs, In64 z) ∧ (n = 0 ∨ ∃ g o, A = some ⟨g, o, none⟩ ∧ g < w.heap.size ∧ ∀ j z, zs[j]? = some z → w.cell? ⟨g, o + j, none⟩ = some (.int .i64 z))

/-- a slice of such slices -/
def L2 (w : World) (A : Option Addr) (n c : Nat) (ls : List (List Int)) : Prop :=
  ls.length = n ∧ n ≤ 17592186044416 ∧ (n = 0 ∨ ∃ g o, A = some ⟨g, o, none⟩ ∧ g < w.heap.size ∧ ∀ j zs, ls[j]? = some zs → ∃ A' n' c', w.cell? ⟨g, o + j, none⟩ = some (.slice A' n' c') ∧ L1 w A' n' c' zs)

theorem L1.below {w w' : World} {A n c zs B} (h : L1 w A n c zs) (hb : Below B w w') (hB : w.heap.size ≤ B) : L1 w' A n c zs := by
  obtain ⟨h1, h2, h3, h4⟩ := h
  refine ⟨h1, h2, h3, ?_⟩
  rcases h4 with h4 | ⟨g, o, rfl, hg, hc⟩
  · exact .inl h4
  · refine .inr ⟨g, o, rfl, Nat.lt_of_lt_of_le hg hb.size, fun j z hj => ?_⟩
    exact (hb.cell (p := ⟨g, o + j, none⟩) (Nat.lt_of_lt_of_le hg hB)).trans (hc j z hj)

theorem L2.below {w w' : World} {A n c ls B} (h : L2 w A n c ls) (hb : Below B w w') (hB : w.heap.size ≤ B) : L2 w' A n c ls := by
  obtain ⟨h1, h2, h4⟩ := h
  refine ⟨h1, h2, ?_⟩
  rcases h4 with h4 | ⟨g, o, rfl, hg, hc⟩
  · exact .inl h4
  · refine .inr ⟨g, o, rfl, Nat.lt_of_lt_of_le hg hb.size, fun j zs hj => ?_⟩
    obtain ⟨A', n', c', h5, h6⟩ := hc j zs hj
    exact ⟨A', n', c', (hb.cell (p := ⟨g, o + j, none⟩) (Nat.lt_of_lt_of_le hg hB)).trans h5, h6.below hb hB⟩

theorem L1.cell {w : World} {A n c zs} (h : L1 w A n c zs) {j : Nat} (hj : j < n) : ∃ g o z, A = some ⟨g, o, none⟩ ∧ g < w.heap.size ∧ zs[j]? = some z ∧ In64 z ∧ w.cell? ⟨g, o + j, none⟩ = some (.int .i64 z) := by
  obtain ⟨h1, h2, h3, h4⟩ := h
  rcases h4 with h4 | ⟨g, o, rfl, hg, hc⟩
  · omega
  · have e : zs[j]? = some zs[j] := List.getElem?_eq_getElem (by omega)
    exact ⟨g, o, _, rfl, hg, e, h3 _ (List.mem_of_getElem? e), hc j _ e⟩

theorem L2.cell {w : World} {A n c ls} (h : L2 w A n c ls) {j : Nat} (hj : j < n) : ∃ g o zs A' n' c', A = some ⟨g, o, none⟩ ∧ g < w.heap.size ∧ ls[j]? = some zs ∧ w.cell? ⟨g, o + j, none⟩ = some (.slice A' n' c') ∧ L1 w A' n' c' zs := by
  obtain ⟨h1, h2, h4⟩ := h
  rcases h4 with h4 | ⟨g, o, rfl, hg, hc⟩
  · omega
  · have e : ls[j]? = some ls[j] := List.getElem?_eq_getElem (by omega)
    obtain ⟨A', n', c', h5, h6⟩ := hc j _ e
    exact ⟨g, o, _, A', n', c', rfl, hg, e, h5, h6⟩

/-- whether a number is a node -/
def isN (n z : Int) : Bool := decide (0 ≤ z) && decide (z < n)

/-- whether an arc is one -/
def isA (n : Int) (zs : List Int) : Bool :=
  match zs with
  | [x, y] => isN n x && isN n y
  | _ => false

theorem isA_nodes {N : Nat} {zs : List Int} (h : isA (N : Int) zs = true) : ∃ x y : Nat, zs = [(x : Int), (y : Int)] ∧ x < N ∧ y < N := by
  unfold isA at h
  split at h
  · rename_i x y
    simp [isN] at h
    exact ⟨x.toNat, y.toNat, by rw [show ((x.toNat : Nat) : Int) = x by omega, show ((y.toNat : Nat) : Int) = y by omega], by omega, by omega⟩
  · cases h

theorem isN_node {N : Nat} {z : Int} (h : isN (N : Int) z = true) : ∃ x : Nat, z = (x : Int) ∧ x < N := by
  simp [isN] at h
  exact ⟨z.toNat, by omega, by omega⟩

/-- the trees under way: the number's box, the box of the trees, their map -/
def FT (w : World) (gj B : Nat) (n : Int) (k : Nat) (f : Nat → Option Nat) (wr : World) : Prop :=
  Own w [(3, #[.int .i64 n])] wr ∧ Blk wr gj 66 #[.map (some B)] ∧ UM wr B k f

section
variable {w : World} {gj B k : Nat} {n : Int} {f : Nat → Option Nat} {wr wr' : World}
theorem Own.grownB {bs : List (TypeId × Array Value)} {w1 w2 : World} {row : Option Nat} (h : Own w bs w1) (hg : w1.grownBy w2 row) (hr : ∀ b, row = some b → w.heap.size + bs.length ≤ b) : Own w bs w2 := by
  refine ⟨h.1.grown hg (by have := h.2.1; omega) (fun b hb => by have := hr b hb; omega), Nat.le_trans h.2.1 hg.size, fun i t cs hi => (h.2.2 i t cs hi).grown hg (fun e => ?_)⟩
  have := hr _ e.symm
  have := (List.getElem?_eq_some_iff.1 hi).1
  omega
theorem FT.call (h : FT w gj B n k f wr) (hb : Below wr.heap.size wr wr') : FT w gj B n k f wr' := ⟨h.1.call hb, h.2.1.below hb h.2.1.lt, h.2.2.call hb⟩
theorem FT.row (h : FT w gj B n k f wr) {row : Option Nat} (hg : wr.grownBy wr' row) (hr : ∀ b, row = some b → w.heap.size + 1 ≤ b ∧ b ≠ gj ∧ b ≠ B) : FT w gj B n k f wr' :=
  ⟨h.1.grownB hg (fun b hb => (hr b hb).1), h.2.1.grown hg (fun e => (hr _ e.symm).2.1 rfl), h.2.2.grown hg (fun e => (hr _ e.symm).2.2 rfl)⟩
theorem FT.join (h : FT w gj B n k f wr) {k' : Nat} {f' : Nat → Option Nat} (hg : wr.grownBy wr' (some B)) (hB : w.heap.size + 1 ≤ B) (hj : gj ≠ B) (hU : UM wr' B k' f') : FT w gj B n k' f' wr' :=
  ⟨h.1.grownB hg (fun b hb => by injection hb with hb; subst hb; exact hB), h.2.1.grown hg (fun e => hj (by injection e)), hU⟩
theorem FT.keep (h : FT w gj B n k f wr) (hg : wr.grownBy wr' (some B)) (hB : w.heap.size + 1 ≤ B) (hj : gj ≠ B) : Below w.heap.size w wr' ∧ wr'.cell? ⟨gj, 0, none⟩ = some (.map (some B)) :=
  ⟨(h.1.grownB hg (fun b hb => by injection hb with hb; subst hb; exact hB)).1, (h.2.1.grown hg (fun e => hj (by injection e))).cell 0⟩
theorem FT.cell (h : FT w gj B n k f wr) : wr.cell? ⟨gj, 0, none⟩ = some (.map (some B)) := h.2.1.cell 0
theorem FT.num (h : FT w gj B n k f wr) : wr.cell? ⟨w.heap.size, 0, none⟩ = some (.int .i64 n) := h.1.b0.cell 0
theorem FT.drew (h : FT w gj B n k f wr) : FT w gj B n k f wr.drew := ⟨h.1.drew, h.2.1.drew, h.2.2.drew⟩
end

/-- the roots under way -/
def R5 (w : World) (B N n3 k Bg : Nat) (f : Nat → Option Nat) (R : Nat → Nat) (v128 : Value) (wr : World) : Prop :=
  ∃ (i kg ki : Nat) (G I : Nat → Bool), i ≤ n3 ∧ kg ≤ i ∧ ki ≤ i ∧ v128 = .int .i64 i ∧ Hid (FT w (B + 1) B N k f wr) ∧ Hid (BM wr Bg kg G) ∧ Hid (BM wr (Bg + 1) ki I) ∧ Hid (RT N R G I)

/-- the loose arcs under way -/
def R6 (w : World) (B N n1 n2 n3 Bg ki : Nat) (I : Nat → Bool) (v26 v149 : Value) (wr : World) : Prop :=
  ∃ (i k kg nb : Nat) (f : Nat → Option Nat) (R : Nat → Nat) (G : Nat → Bool) (xs : List Value), i ≤ n2 ∧ k ≤ n1 + i ∧ kg ≤ n3 + i ∧ nb ≤ i ∧ v149 = .int .i64 i ∧ Hid (FT w (B + 1) B N k f wr) ∧ Hid (BM wr Bg kg G) ∧ Hid (BM wr (Bg + 1) ki I) ∧ Hid (RT N R G I) ∧ Hid (UF N f R) ∧ Hid (trees N R + n1 + i = N + nb) ∧ Hid (wr.ownsRow (Bg + 2) 3 1 v26 nb xs)

/-- the nodes under way -/
def R7 (w : World) (B N k kg ki Bg Bt : Nat) (f : Nat → Option Nat) (R : Nat → Nat) (G I : Nat → Bool) (v27 v201 : Value) (wr : World) : Prop :=
  ∃ (i kt no : Nat) (T : Nat → Bool) (xs : List Value), i ≤ N ∧ kt ≤ i ∧ no ≤ i ∧ v201 = .int .i64 i ∧ Hid (FT w (B + 1) B N k f wr) ∧ Hid (BM wr Bg kg G) ∧ Hid (BM wr (Bg + 1) ki I) ∧ Hid (BM wr Bt kt T) ∧ Hid (TL N R G T i) ∧ Hid (no = cnt (told R G I) i) ∧ Hid (wr.ownsRow (Bt + 1) 3 1 v27 no xs)

theorem infoI : (Try.prog.info? 3).map (fun i => (i.zero, i.size, i.bytes)) = some (some (.int .i64 0), 1, 8) := by kernel_rfl

theorem _root_.Go.World.ownsRow.call6 {w w' : World} {base n : Nat} {e : TypeId} {v : Value} {xs : List Value} (h : w.ownsRow base e 1 v n xs) (hb : Below w.heap.size w w') : w'.ownsRow base e 1 v n xs := h.kept (gb_below hb none) (by cases v.ownBlock <;> simp)

theorem own_ge {w : World} {base n : Nat} {e : TypeId} {v : Value} {xs : List Value} (h : w.ownsRow base e 1 v n xs) : ∀ b, v.ownBlock = some b → base ≤ b := by
  intro b hb
  rcases h.2 with ⟨rfl, -⟩ | ⟨g, cap, cur, rfl, hg, -⟩
  · cases hb
  · injection hb with hb
    subst hb
    exact hg
theorem own_ne {w : World} {base n X : Nat} {e : TypeId} {v : Value} {xs : List Value} (h : w.ownsRow base e 1 v n xs) (hX : X < base) : v.ownBlock = none ∨ v.ownBlock ≠ some X := by
  cases hq : v.ownBlock with
  | none => exact .inl rfl
  | some b => exact .inr (fun e => by injection e with e; have := own_ge h b hq; omega)
theorem own_slice {w : World} {base n : Nat} {e : TypeId} {v : Value} {xs : List Value} (h : w.ownsRow base e 1 v n xs) : ∃ A c, v = .slice A n c := by
  rcases h.2 with ⟨rfl, rfl⟩ | ⟨g, cap, cur, rfl, hg, -⟩
  · exact ⟨none, 0, rfl⟩
  · exact ⟨some ⟨g, 0, none⟩, cap, rfl⟩

theorem join_isNode (g : Nat) (n z : Int) (w : World) (hc : w.cell? ⟨g, 0, none⟩ = some (.int .i64 n)) :
    Calls Try.prog 36 #[.int .i64 z, .pointer (some ⟨g, 0, none⟩)] w fun e w' => e = .returned (.bool (isN n z)) ∧ w = w' := by
  go_enter Try.func36, Try.ntmps36
  by_cases h0 : 0 ≤ z
  · have h0' : decide (0 ≤ z) = true := by simpa using h0
    go_wp2_with fail
    go_ret
    simp [isN, h0]
  · have h0' : decide (0 ≤ z) = false := by simpa using h0
    go_wp2_with fail
    go_ret
    simp [isN]
    intro h
    omega

end Go.Proofs.Ytgoojlnfobjplaa
