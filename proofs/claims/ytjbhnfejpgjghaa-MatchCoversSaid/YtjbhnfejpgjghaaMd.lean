/- The search for a way, as the program has it: a closure that calls itself. -/
import Derived.Test.YtjbhnfejpgjghaaMb
import Derived.Test.YtjbhnfejpgjghaaMc
namespace Go.Proofs.Ytjbhnfejpgjghaa
open Go.RowKit
set_option linter.unusedSimpArgs false
set_option linter.unusedVariables false

/-- where the search has its variables, and what does not change -/
structure GT where
  gM : Nat
  gS : Nat
  gC : Nat
  gP : Nat
  gT : Nat
  gRow : Nat
  gCol : Nat
  gU : Nat
  oU : Obj
  B : Nat
  AE : Option Addr
  nE : Nat
  cE : Nat
  fC : FuncId
  capC : Array Value
  R : Nat
  C : Nat
  E : List (List Nat)
  ok : Nat → Bool

def GT.caps (z : GT) : Array Value := #[.pointer (some ⟨z.gM, 0, none⟩), .pointer (some ⟨z.gS, 0, none⟩), .pointer (some ⟨z.gC, 0, none⟩), .pointer (some ⟨z.gP, 0, none⟩), .pointer (some ⟨z.gT, 0, none⟩)]

/-- what holds of them once and for all -/
def GT.Fine (z : GT) : Prop :=
  (z.R ≤ 64 ∧ z.C ≤ 64 ∧ z.nE = z.R ∧ ∀ l ∈ z.E, ∀ k ∈ l, k < z.C) ∧
  (z.B ≤ z.gS ∧ z.B ≤ z.gRow ∧ z.B ≤ z.gCol) ∧
  (z.gS ≠ z.gRow ∧ z.gS ≠ z.gCol ∧ z.gRow ≠ z.gCol) ∧
  (∀ g ∈ [z.gM, z.gC, z.gP, z.gT, z.gU], g ∉ [z.gS, z.gRow, z.gCol]) ∧
  (∀ (args : Array Value) (w : World), (callFunc z.fC args).run Try.prog w = .ok (.enter z.fC args) w) ∧
  (∀ (w : World) (k : Nat), w.heap[z.gU]? = some z.oU → k < z.C → Calls Try.prog z.fC (#[.int .i64 (k : Int)] ++ z.capC) w fun e w' => e = .returned (.bool (z.ok k)) ∧ Below w.heap.size w w')

/-- the world holds this state of the search -/
def GS (z : GT) (st : MS) (w : World) : Prop :=
  Blk w z.gM 33 #[.int .i64 (z.R : Int), .int .i64 (z.C : Int), .slice z.AE z.nE z.cE] ∧
  Blk w z.gC 56 #[.func (.func z.fC) #[] z.capC] ∧
  Blk w z.gP 62 #[.slice (some ⟨z.gRow, 0, none⟩) z.R z.R, .slice (some ⟨z.gCol, 0, none⟩) z.C z.C] ∧
  Blk w z.gT 56 #[.func (.func 68) #[] z.caps] ∧
  w.heap[z.gU]? = some z.oU ∧ z.gU < w.heap.size ∧ z.B ≤ w.heap.size ∧
  N2 z.B w z.AE z.nE z.cE z.E ∧
  RF w z.gRow z.R st.row ∧ RF w z.gCol z.C st.col ∧ z.gS < w.heap.size ∧
  ∃ s s1 : Nat, s < 18446744073709551616 ∧ Blk w z.gS 55 #[.int .u64 (s : Int), .int .u64 (s1 : Int)] ∧ ∀ k, k < 64 → s.testBit k = st.seen k

def GT.xs (z : GT) : List Nat := [z.gS, z.gRow, z.gCol]

theorem GS.call {z : GT} {st : MS} {w w' : World} (h : GS z st w) (hb : Below w.heap.size w w') : GS z st w' := by
  obtain ⟨h1, h2, h3, h4, h5, h6, h7, h8, h9, h10, h11, s, s1, h12, h13, h14⟩ := h
  exact ⟨h1.call hb, h2.call hb, h3.call hb, h4.call hb, (hb.block _ h6).trans h5, Nat.lt_of_lt_of_le h6 hb.size, Nat.le_trans h7 hb.size, h8.below (hb.mono h7), h9.call hb, h10.call hb, Nat.lt_of_lt_of_le h11 hb.size, s, s1, h12, h13.call hb, h14⟩
theorem GS.drew {z : GT} {st : MS} {w : World} (h : GS z st w) : GS z st w.drew := h.call (Below.refl _ _).drew

theorem GS.drewN {z : GT} {st : MS} {w : World} (h : GS z st w) (n : Nat) : GS z st (w.drewN n) := h.call (bdN (Below.refl _ _) n)

/-- what the search leaves unchanged -/
theorem GS.keep {z : GT} (hz : z.Fine) {st st' : MS} {w w' : World} (h : GS z st w) (hf : Fr z.xs w w')
    (hr : RF w' z.gRow z.R st'.row) (hc : RF w' z.gCol z.C st'.col)
    (hs : ∃ s s1 : Nat, s < 18446744073709551616 ∧ Blk w' z.gS 55 #[.int .u64 (s : Int), .int .u64 (s1 : Int)] ∧ ∀ k, k < 64 → s.testBit k = st'.seen k) : GS z st' w' := by
  obtain ⟨h1, h2, h3, h4, h5, h6, h7, h8, h9, h10, h11, -⟩ := h
  obtain ⟨-, ⟨b1, b2, b3⟩, -, hn, -, -⟩ := hz
  have hB : Below z.B w w' := hf.below h7 (by simp [GT.xs]; omega)
  refine ⟨hf.blk h1 (hn _ (by simp)), hf.blk h2 (hn _ (by simp)), hf.blk h3 (hn _ (by simp)), hf.blk h4 (hn _ (by simp)), (hf.block _ h6 (hn _ (by simp))).trans h5, Nat.lt_of_lt_of_le h6 hf.size, Nat.le_trans h7 hf.size, h8.below hB, hr, hc, Nat.lt_of_lt_of_le h11 hf.size, hs⟩

theorem testBit_or {s k j : Nat} : (s ||| 2 ^ k).testBit j = (if j = k then true else s.testBit j) := by
  rw [Nat.testBit_or, Nat.testBit_two_pow]
  by_cases e : k = j
  · simp [e]
  · simp [e, Ne.symm e]

/-- the mark is stored -/
theorem GS.marked {z : GT} (hz : z.Fine) {st : MS} {w : World} {k s s1 : Nat} (h : GS z st w) (hk : k < 64) (hs : s < 18446744073709551616)
    (hb : Blk w z.gS 55 #[.int .u64 (s : Int), .int .u64 (s1 : Int)]) (ht : ∀ k, k < 64 → s.testBit k = st.seen k) :
    GS z (st.mark k) ((w.setCell ⟨z.gS, 0, none⟩ (.int .u64 ((s ||| 2 ^ k : Nat) : Int))).setCell ⟨z.gS, 1, none⟩ (.int .u64 (s1 : Int))) ∧
    Fr z.xs w ((w.setCell ⟨z.gS, 0, none⟩ (.int .u64 ((s ||| 2 ^ k : Nat) : Int))).setCell ⟨z.gS, 1, none⟩ (.int .u64 (s1 : Int))) := by
  have hf : Fr z.xs w ((w.setCell ⟨z.gS, 0, none⟩ (.int .u64 ((s ||| 2 ^ k : Nat) : Int))).setCell ⟨z.gS, 1, none⟩ (.int .u64 (s1 : Int))) := ((Fr.refl _ _).set (by simp [GT.xs]) _).set (by simp [GT.xs]) _
  refine ⟨GS.keep hz h hf ?_ ?_ ⟨s ||| 2 ^ k, s1, or_bit hs hk, ?_, ?_⟩, hf⟩
  · exact (h.2.2.2.2.2.2.2.2.1.other hz.2.2.1.1.symm _ _).other hz.2.2.1.1.symm _ _
  · exact (h.2.2.2.2.2.2.2.2.2.1.other hz.2.2.1.2.1.symm _ _).other hz.2.2.1.2.1.symm _ _
  · simpa using (hb.set 0 (.int .u64 ((s ||| 2 ^ k : Nat) : Int))).set 1 (.int .u64 (s1 : Int))
  · intro j hj
    rw [testBit_or]
    show _ = upd st.seen k true j
    unfold upd
    rw [ht j hj]

/-- the pair is stored -/
theorem GS.paired {z : GT} (hz : z.Fine) {st : MS} {w : World} {i k : Nat} (h : GS z st w) :
    GS z (st.pair i k) ((w.setCell ⟨z.gRow, i, none⟩ (.int .i64 (k : Int))).setCell ⟨z.gCol, k, none⟩ (.int .i64 (i : Int))) ∧
    Fr z.xs w ((w.setCell ⟨z.gRow, i, none⟩ (.int .i64 (k : Int))).setCell ⟨z.gCol, k, none⟩ (.int .i64 (i : Int))) := by
  have hf : Fr z.xs w ((w.setCell ⟨z.gRow, i, none⟩ (.int .i64 (k : Int))).setCell ⟨z.gCol, k, none⟩ (.int .i64 (i : Int))) := ((Fr.refl _ _).set (by simp [GT.xs]) _).set (by simp [GT.xs]) _
  obtain ⟨s, s1, h12, h13, h14⟩ := h.2.2.2.2.2.2.2.2.2.2.2
  refine ⟨GS.keep hz h hf ?_ ?_ ⟨s, s1, h12, ?_, h14⟩, hf⟩
  · exact (h.2.2.2.2.2.2.2.2.1.set i (k : Int)).other hz.2.2.1.2.2 _ _
  · exact (h.2.2.2.2.2.2.2.2.2.1.other hz.2.2.1.2.2.symm _ _).set k (i : Int)
  · exact (h13.far hz.2.2.1.1 _).far hz.2.2.1.2.1 _


end Go.Proofs.Ytjbhnfejpgjghaa
