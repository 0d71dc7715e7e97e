/- Base of the walks over matchings: what a slice of ints reads as, blocks and rows of the call's own. -/
import Derived.Test.YtgjmbmlmopomgaaProg
import Derived.WalkKit
import Derived.KernelRfl
import Derived.Deep.LoopGhost
import Derived.Deep.QuietTactic
import Derived.BigQuiet
import Derived.WalkSpells
import Derived.Lib.Hide
import Derived.Deep.DeepCutAuto
import Derived.Deep.CutBlock
import Derived.Laws.MakeOwn
import Derived.Deep.RegionHeld3
import Derived.StillTailTactics
import Derived.WalkLawsBesides
import Derived.Deep.CutRange
namespace Go.Proofs.Ytgjmbmlmopomgaa
open Go.RowKit
set_option linter.unusedSimpArgs false
set_option linter.unusedVariables false

def In64 (n : Int) : Prop := -9223372036854775808 ≤ n ∧ n ≤ 9223372036854775807

theorem bdN {B : Nat} {a w : World} (h : Below B a w) (n : Nat) : Below B a (w.drewN n) := ⟨h.os, h.tape, h.output, h.size, h.block⟩

def Blk (w : World) (g : Nat) (t : TypeId) (cs : Array Value) : Prop := w.heap[g]? = some (.cells cs t (0, 0))
section
variable {w w' : World} {g : Nat} {t : TypeId} {cs : Array Value}
theorem Blk.lt (h : Blk w g t cs) : g < w.heap.size := (Array.getElem?_eq_some_iff.1 h).1
theorem Blk.cell (h : Blk w g t cs) (i : Nat) : w.cell? ⟨g, i, none⟩ = cs[i]? := cell_of_row w g i cs t (0, 0) h
theorem Blk.frozen (h : Blk w g t cs) (i : Nat) : w.frozen? ⟨g, i, none⟩ = false := by
  unfold Blk at h
  simp [World.frozen?, h]
theorem Blk.new (w : World) (t : TypeId) (cs : Array Value) : Blk (w.alloc (.cells cs t)) w.heap.size t cs := heap_alloc_new w _
theorem Blk.drew (h : Blk w g t cs) : Blk w.drew g t cs := h
theorem Blk.drewN (h : Blk w g t cs) (n : Nat) : Blk (w.drewN n) g t cs := h
theorem Blk.alloc (h : Blk w g t cs) (o : Obj) : Blk (w.alloc o) g t cs := (Below.heap_alloc w o g h.lt).trans h
theorem Blk.far (h : Blk w g t cs) {p : Addr} (hp : g ≠ p.block) (u : Value) : Blk (w.setCell p u) g t cs := (Below.heap_setCell w p u g hp).trans h
theorem Blk.below {B : Nat} (h : Blk w g t cs) (hb : Below B w w') (hg : g < B) : Blk w' g t cs := (hb.block g hg).trans h
theorem Blk.grown {row : Option Nat} (h : Blk w g t cs) (hb : w.grownBy w' row) (hg : some g ≠ row) : Blk w' g t cs := (hb.block g h.lt hg).trans h
end

/-- below the world w the call has changed nothing; its own blocks, from w's end on, are bs -/
def Own (w : World) (bs : List (TypeId × Array Value)) (w1 : World) : Prop :=
  Below w.heap.size w w1 ∧ w.heap.size + bs.length ≤ w1.heap.size ∧ ∀ i t cs, bs[i]? = some (t, cs) → Blk w1 (w.heap.size + i) t cs

section
variable {w w1 w2 : World} {bs : List (TypeId × Array Value)}
theorem Own.nil (w : World) : Own w [] w := ⟨Below.refl _ _, Nat.le_refl _, fun i t cs h => by simp at h⟩
theorem Own.drew (h : Own w bs w1) : Own w bs w1.drew := ⟨h.1.drew, h.2.1, fun i t cs hi => (h.2.2 i t cs hi).drew⟩
theorem Own.drewN (h : Own w bs w1) (n : Nat) : Own w bs (w1.drewN n) := ⟨bdN h.1 n, h.2.1, fun i t cs hi => (h.2.2 i t cs hi).drewN n⟩
theorem Own.call (h : Own w bs w1) (hb : Below w1.heap.size w1 w2) : Own w bs w2 :=
  ⟨h.1.trans (hb.mono (by have := h.2.1; omega)), Nat.le_trans h.2.1 hb.size, fun i t cs hi => (h.2.2 i t cs hi).below hb (h.2.2 i t cs hi).lt⟩
theorem Own.alloc (h : Own w bs w1) (hs : w1.heap.size = w.heap.size + bs.length) (t : TypeId) (cs : Array Value) : Own w (bs ++ [(t, cs)]) (w1.alloc (.cells cs t)) := by
  refine ⟨h.1.alloc (by omega) _, by simp; omega, fun i t' cs' hi => ?_⟩
  rcases Nat.lt_or_ge i bs.length with hlt | hge
  · rw [List.getElem?_append_left hlt] at hi
    exact (h.2.2 i t' cs' hi).alloc _
  · rw [List.getElem?_append_right hge] at hi
    have : i = bs.length := by
      have := (List.getElem?_eq_some_iff.1 hi).1
      simp at this
      omega
    subst this
    simp at hi
    obtain ⟨rfl, rfl⟩ := hi
    rw [← hs]
    exact Blk.new _ _ _
theorem Own.more (h : Own w bs w1) (o : Obj) : Own w bs (w1.alloc o) := h.call ((Below.refl _ _).alloc (Nat.le_refl _) _)
theorem Own.one (w : World) (t : TypeId) (cs : Array Value) : Own w [(t, cs)] (w.alloc (.cells cs t)) := (Own.nil w).alloc rfl t cs
theorem Own.two (w : World) (t t' : TypeId) (cs cs' : Array Value) : Own w [(t, cs), (t', cs')] ((w.alloc (.cells cs t)).alloc (.cells cs' t')) := (Own.one w t cs).alloc (by simp) t' cs'
theorem Own.three (w : World) (t t' t'' : TypeId) (cs cs' cs'' : Array Value) : Own w [(t, cs), (t', cs'), (t'', cs'')] (((w.alloc (.cells cs t)).alloc (.cells cs' t')).alloc (.cells cs'' t'')) := (Own.two w t t' cs cs').alloc (by simp) t'' cs''
theorem Own.blk (h : Own w bs w1) (i : Nat) {t : TypeId} {cs : Array Value} (hi : bs[i]? = some (t, cs)) : Blk w1 (w.heap.size + i) t cs := h.2.2 i t cs hi
theorem Own.b0 {t : TypeId} {cs : Array Value} {r : List (TypeId × Array Value)} (h : Own w ((t, cs) :: r) w1) : Blk w1 w.heap.size t cs := h.2.2 0 t cs rfl
theorem Own.b1 {x : TypeId × Array Value} {t : TypeId} {cs : Array Value} {r : List (TypeId × Array Value)} (h : Own w (x :: (t, cs) :: r) w1) : Blk w1 (w.heap.size + 1) t cs := h.2.2 1 t cs rfl
theorem Own.b2 {x y : TypeId × Array Value} {t : TypeId} {cs : Array Value} {r : List (TypeId × Array Value)} (h : Own w (x :: y :: (t, cs) :: r) w1) : Blk w1 (w.heap.size + 2) t cs := h.2.2 2 t cs rfl
/-- the result's block is written, then the call returns -/
theorem Own.set3 (h : Own w bs w1) (i a b c : Nat) (u v x : Value) : Below w.heap.size w (((w1.setCell ⟨w.heap.size + i, a, none⟩ u).setCell ⟨w.heap.size + i, b, none⟩ v).setCell ⟨w.heap.size + i, c, none⟩ x) :=
  ((h.1.setCell (p := ⟨w.heap.size + i, a, none⟩) (Nat.le_add_right _ _) _).setCell (p := ⟨w.heap.size + i, b, none⟩) (Nat.le_add_right _ _) _).setCell (p := ⟨w.heap.size + i, c, none⟩) (Nat.le_add_right _ _) _
end

/-- cells and marks of a block of three -/
theorem cells3 {w : World} {g : Nat} {t : TypeId} {a b c : Value} (h : Blk w g t #[a, b, c]) : w.cell? ⟨g, 0, none⟩ = some a ∧ w.cell? ⟨g, 1, none⟩ = some b ∧ w.cell? ⟨g, 2, none⟩ = some c := ⟨h.cell 0, h.cell 1, h.cell 2⟩

/-- a slice that reads as these numbers -/
def L1 (w : World) (A : Option Addr) (n c : Nat) (zs : List Int) : Prop :=
  zs.length = n ∧ n ≤ 17592186044416 ∧ (∀ z ∈ zs, In64 z) ∧ (n = 0 ∨ ∃ g o, A = some ⟨g, o, none⟩ ∧ g < w.heap.size ∧ ∀ j z, zs[j]? = some z → w.cell? ⟨g, o + j, none⟩ = some (.int .i64 z))

/-- a slice of such slices -/
def L2 (w : World) (A : Option Addr) (n c : Nat) (ls : List (List Int)) : Prop :=
  ls.length = n ∧ n ≤ 17592186044416 ∧ (n = 0 ∨ ∃ g o, A = some ⟨g, o, none⟩ ∧ g < w.heap.size ∧ ∀ j zs, ls[j]? = some zs → ∃ A' n' c', w.cell? ⟨g, o + j, none⟩ = some (.slice A' n' c') ∧ L1 w A' n' c' zs)

theorem L1.below {w w' : World} {A n c zs B} (h : L1 w A n c zs) (hb : Below B w w') (hB : w.heap.size ≤ B) : L1 w' A n c zs := by
  obtain ⟨h1, h2, h3, h4⟩ := h
  refine ⟨h1, h2, h3, ?_⟩
  rcases h4 with h4 | ⟨g, o, rfl, hg, hc⟩
  · exact .inl h4
  · refine .inr ⟨g, o, rfl, Nat.lt_of_lt_of_le hg hb.size, fun j z hj => ?_⟩
    exact (hb.cell (p := ⟨g, o + j, none⟩) (Nat.lt_of_lt_of_le hg hB)).trans (hc j z hj)

theorem L2.below {w w' : World} {A n c ls B} (h : L2 w A n c ls) (hb : Below B w w') (hB : w.heap.size ≤ B) : L2 w' A n c ls := by
  obtain ⟨h1, h2, h4⟩ := h
  refine ⟨h1, h2, ?_⟩
  rcases h4 with h4 | ⟨g, o, rfl, hg, hc⟩
  · exact .inl h4
  · refine .inr ⟨g, o, rfl, Nat.lt_of_lt_of_le hg hb.size, fun j zs hj => ?_⟩
    obtain ⟨A', n', c', h5, h6⟩ := hc j zs hj
    exact ⟨A', n', c', (hb.cell (p := ⟨g, o + j, none⟩) (Nat.lt_of_lt_of_le hg hB)).trans h5, h6.below hb hB⟩

theorem L1.cell {w : World} {A n c zs} (h : L1 w A n c zs) {j : Nat} (hj : j < n) : ∃ g o z, A = some ⟨g, o, none⟩ ∧ g < w.heap.size ∧ zs[j]? = some z ∧ In64 z ∧ w.cell? ⟨g, o + j, none⟩ = some (.int .i64 z) := by
  obtain ⟨h1, h2, h3, h4⟩ := h
  rcases h4 with h4 | ⟨g, o, rfl, hg, hc⟩
  · omega
  · have e : zs[j]? = some zs[j] := List.getElem?_eq_getElem (by omega)
    exact ⟨g, o, _, rfl, hg, e, h3 _ (List.mem_of_getElem? e), hc j _ e⟩

theorem L2.cell {w : World} {A n c ls} (h : L2 w A n c ls) {j : Nat} (hj : j < n) : ∃ g o zs A' n' c', A = some ⟨g, o, none⟩ ∧ g < w.heap.size ∧ ls[j]? = some zs ∧ w.cell? ⟨g, o + j, none⟩ = some (.slice A' n' c') ∧ L1 w A' n' c' zs := by
  obtain ⟨h1, h2, h4⟩ := h
  rcases h4 with h4 | ⟨g, o, rfl, hg, hc⟩
  · omega
  · have e : ls[j]? = some ls[j] := List.getElem?_eq_getElem (by omega)
    obtain ⟨A', n', c', h5, h6⟩ := hc j _ e
    exact ⟨g, o, _, A', n', c', rfl, hg, e, h5, h6⟩

theorem gbs {a w : World} {g : Nat} (h : a.grownBy w (some g)) (i : Nat) (u : Value) : a.grownBy (w.setCell ⟨g, i, none⟩ u) (some g) :=
  ⟨h.os, h.tape, h.output, by simpa [World.setCell] using h.size, fun j hj hne => (Below.heap_setCell w ⟨g, i, none⟩ u j (by rintro rfl; exact hne rfl)).trans (h.block j hj hne)⟩
theorem gbd {a w : World} {row : Option Nat} (h : a.grownBy w row) (n : Nat) : a.grownBy (w.drewN n) row := ⟨h.os, h.tape, h.output, h.size, h.block⟩
theorem gbr (w : World) (row : Option Nat) : w.grownBy w row := ⟨rfl, rfl, rfl, Nat.le_refl _, fun _ _ _ => rfl⟩
theorem gcell {w w' : World} {g g' k : Nat} {v : Value} (h : w.grownBy w' (some g)) (hl : g' < w.heap.size) (hne : g' ≠ g) (hc : w.cell? ⟨g', k, none⟩ = some v) : w'.cell? ⟨g', k, none⟩ = some v := by
  rw [← hc]
  unfold World.cell?
  rw [h.block g' hl (fun e => hne (by injection e))]

theorem gblt {w w' : World} {g B : Nat} (h : w.grownBy w' (some g)) (hg : B ≤ g) (hs : B ≤ w.heap.size) : Below B w w' := (Below.refl _ _).grown h hs (fun b hb => by injection hb with hb; omega)

theorem infoI : (Try.prog.info? 3).map (fun i => (i.zero, i.size, i.bytes)) = some (some (.int .i64 0), 1, 8) := by kernel_rfl

/-- ints as values -/
def vz (l : List Int) : List Value := l.map fun x => .int .i64 x
theorem vz_len (l : List Int) : (vz l).length = l.length := by simp [vz]
theorem vz_snoc (l : List Int) (x : Int) : vz (l ++ [x]) = vz l ++ [.int .i64 x] := by simp [vz]
theorem vz_get (l : List Int) (j : Nat) (u : Int) (h : l[j]? = some u) : (vz l)[j]? = some (.int .i64 u) := by simp [vz, h]
theorem vz_set (l : List Int) (i : Nat) (v : Int) : (vz l).set i (.int .i64 v) = vz (l.set i v) := by simp [vz, List.map_set]
theorem made_zerosI (N : Nat) : (madeCells (Value.int .i64 0).cells (N * 1)).toList = vz (List.replicate N 0) := by
  rw [Nat.mul_one]
  show (madeCells #[Value.int .i64 0] N).toList = _
  rw [toList_madeCells_one]
  simp [vz]

/-- a row of ints of the call's own, full length -/
def RI (w : World) (g N : Nat) (l : List Int) : Prop := w.ownsRow g 3 1 (.slice (some ⟨g, 0, none⟩) N N) N (vz l)
section
variable {w w' : World} {g N : Nat} {l : List Int}
theorem RI.len (h : RI w g N l) : l.length = N := by have := h.1; rw [vz_len] at this; omega
theorem RI.lt (h : RI w g N l) : g < w.heap.size := (World.ownsRow.lt h g rfl).2
theorem RI.cell (h : RI w g N l) {i : Nat} (hi : i < N) : ∃ x, l[i]? = some x ∧ w.cell? ⟨g, i, none⟩ = some (.int .i64 x) := by
  have hil : i < l.length := by rw [h.len]; exact hi
  have e : l[i]? = some l[i] := List.getElem?_eq_getElem hil
  refine ⟨_, e, ?_⟩
  rw [World.ownsRow.cellAt h i (by omega)]
  exact vz_get _ _ _ e
theorem RI.frozen (h : RI w g N l) (i : Nat) : w.frozen? ⟨g, i, none⟩ = false := World.ownsRow.frozenAt h i
theorem RI.gb {g' : Nat} (h : RI w g N l) (hb : w.grownBy w' (some g')) (hne : g ≠ g') : RI w' g N l := World.ownsRow.kept h hb (.inr (by simpa [Value.ownBlock] using hne))
theorem RI.grown (h : RI w g N l) (hb : w.grownBy w' none) : RI w' g N l := World.ownsRow.kept h hb (.inr (by simp [Value.ownBlock]))
theorem RI.below {C : Nat} (h : RI w g N l) (hb : Below C w w') (hC : g < C) : RI w' g N l := by
  obtain ⟨h1, h2⟩ := h
  refine ⟨h1, ?_⟩
  rcases h2 with ⟨e, -⟩ | ⟨g', cap, cur, e, h3, h4, h5⟩
  · cases e
  · have e2 : g = g' := by injection e with e _ _; injection e with e; injection e
    exact .inr ⟨g', cap, cur, e, h3, (hb.block g' (by omega)).trans h4, h5⟩
theorem RI.call (h : RI w g N l) (hb : Below w.heap.size w w') : RI w' g N l := h.below hb h.lt
theorem RI.drew (h : RI w g N l) : RI w.drew g N l := h
theorem RI.drewN (h : RI w g N l) (k : Nat) : RI (w.drewN k) g N l := h
theorem RI.set (h : RI w g N l) (i : Nat) (v : Int) : RI (w.setCell ⟨g, i, none⟩ (.int .i64 v)) g N (l.set i v) := by
  have h1 := (World.ownsRow.stored h i (.int .i64 v)).1
  rw [vz_set] at h1
  exact h1
theorem RI.other {g' : Nat} (h : RI w g N l) (hne : g ≠ g') (i : Nat) (u : Value) : RI (w.setCell ⟨g', i, none⟩ u) g N l := h.gb (gbs (gbr w (some g')) i u) hne
end
theorem Blk.call {w w' : World} {g : Nat} {t : TypeId} {cs : Array Value} (h : Blk w g t cs) (hb : Below w.heap.size w w') : Blk w' g t cs := h.below hb h.lt

end Go.Proofs.Ytgjmbmlmopomgaa
