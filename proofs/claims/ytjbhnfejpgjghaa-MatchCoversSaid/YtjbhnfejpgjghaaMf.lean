/- One row is matched: (pairs).grow. -/
import Derived.Laws.EntriesVeiled
import Derived.Test.YtjbhnfejpgjghaaMe
namespace Go.Proofs.Ytjbhnfejpgjghaa
open Go.RowKit
set_option linter.unusedSimpArgs false
set_option linter.unusedVariables false

structure MT where
  gRow : Nat
  gCol : Nat
  gU : Nat
  oU : Obj
  B : Nat
  AE : Option Addr
  nE : Nat
  cE : Nat
  fC : FuncId
  capC : Array Value
  R : Nat
  C : Nat
  E : List (List Nat)
  ok : Nat → Bool

def MT.gt (m : MT) (n : Nat) : GT := ⟨n + 1, n + 3, n + 2, n, n + 4, m.gRow, m.gCol, m.gU, m.oU, m.B, m.AE, m.nE, m.cE, m.fC, m.capC, m.R, m.C, m.E, m.ok⟩

def MT.Fine (z : MT) : Prop :=
  (z.R ≤ 64 ∧ z.C ≤ 64 ∧ z.nE = z.R ∧ ∀ l ∈ z.E, ∀ k ∈ l, k < z.C) ∧
  (z.B ≤ z.gRow ∧ z.B ≤ z.gCol) ∧ z.gRow ≠ z.gCol ∧ (z.gU ≠ z.gRow ∧ z.gU ≠ z.gCol) ∧
  (∀ (args : Array Value) (w : World), (callFunc z.fC args).run Try.prog w = .ok (.enter z.fC args) w) ∧
  (∀ (w : World) (k : Nat), w.heap[z.gU]? = some z.oU → k < z.C → Calls Try.prog z.fC (#[.int .i64 (k : Int)] ++ z.capC) w fun e w' => e = .returned (.bool (z.ok k)) ∧ Below w.heap.size w w')

def MW (z : MT) (row col : Nat → Int) (w : World) : Prop :=
  w.heap[z.gU]? = some z.oU ∧ z.gU < w.heap.size ∧ z.B ≤ w.heap.size ∧ N2 z.B w z.AE z.nE z.cE z.E ∧ RF w z.gRow z.R row ∧ RF w z.gCol z.C col

theorem MW.call {z : MT} {row col : Nat → Int} {w w' : World} (h : MW z row col w) (hb : Below w.heap.size w w') : MW z row col w' := by
  obtain ⟨h1, h2, h3, h4, h5, h6⟩ := h
  exact ⟨(hb.block _ h2).trans h1, Nat.lt_of_lt_of_le h2 hb.size, Nat.le_trans h3 hb.size, h4.below (hb.mono h3), h5.call hb, h6.call hb⟩

theorem MT.gt_fine {z : MT} (hz : z.Fine) {n : Nat} (h1 : z.gRow < n) (h2 : z.gCol < n) (h3 : z.gU < n) (h4 : z.B ≤ n) : (z.gt n).Fine := by
  obtain ⟨a, b, c, d, e, f⟩ := hz
  refine ⟨a, ⟨by show z.B ≤ n + 3; omega, b.1, b.2⟩, ⟨by show n + 3 ≠ z.gRow; omega, by show n + 3 ≠ z.gCol; omega, c⟩, ?_, e, f⟩
  intro g hg
  have hg' : g = n + 1 ∨ g = n + 2 ∨ g = n ∨ g = n + 4 ∨ g = z.gU := by simpa [MT.gt] using hg
  show g ∉ [n + 3, z.gRow, z.gCol]
  simp
  omega

def MS0 (row col : Nat → Int) : MS := ⟨row, col, fun _ => false⟩

def PG (z : MT) (w : World) (r : Bool × MS) (e : Ending) (w' : World) : Prop := e = .returned (.bool r.1) ∧ MW z r.2.row r.2.col w' ∧ ColOk z.R z.C r.2 ∧ Fr [z.gRow, z.gCol] w w'

theorem Own.b3 {w w1 : World} {x y u : TypeId × Array Value} {t : TypeId} {cs : Array Value} {r : List (TypeId × Array Value)} (h : Own w (x :: y :: u :: (t, cs) :: r) w1) : Blk w1 (w.heap.size + 3) t cs := h.2.2 3 t cs rfl
theorem Own.b4 {w w1 : World} {x y u v : TypeId × Array Value} {t : TypeId} {cs : Array Value} {r : List (TypeId × Array Value)} (h : Own w (x :: y :: u :: v :: (t, cs) :: r) w1) : Blk w1 (w.heap.size + 4) t cs := h.2.2 4 t cs rfl

theorem GS.start (z : MT) (hz : z.Fine) (row col : Nat → Int) (w w1 : World) (hm : MW z row col w)
    (hO : Own w [(62, #[.slice (some ⟨z.gRow, 0, none⟩) z.R z.R, .slice (some ⟨z.gCol, 0, none⟩) z.C z.C]), (33, #[.int .i64 (z.R : Int), .int .i64 (z.C : Int), .slice z.AE z.nE z.cE]), (56, #[.func (.func z.fC) #[] z.capC]), (55, #[.int .u64 0, .int .u64 0]), (56, #[.func (.func 68) #[] (z.gt w.heap.size).caps])] w1) :
    GS (z.gt w.heap.size) (MS0 row col) w1 := by
  have hm1 := hm.call hO.1
  obtain ⟨k1, k2, k3, k4, k5, k6⟩ := hm1
  exact ⟨hO.b1, hO.b2, hO.b0, hO.b4, k1, k2, k3, k4, k5, k6, hO.b3.lt, 0, 0, by omega, hO.b3, fun k _ => by simp [MS0]⟩

set_option maxRecDepth 100000 in
set_option maxHeartbeats 1000000 in
theorem go_grow (z : MT) (hz : z.Fine) (row col : Nat → Int) (i : Nat) (w : World) (hi : i < z.R) (hco : ColOk z.R z.C (MS0 row col)) (hm : MW z row col w) :
    Calls Try.prog 58 #[.agg #[.slice (some ⟨z.gRow, 0, none⟩) z.R z.R, .slice (some ⟨z.gCol, 0, none⟩) z.C z.C], .agg #[.int .i64 (z.R : Int), .int .i64 (z.C : Int), .slice z.AE z.nE z.cE], .int .i64 (i : Int), .func (.func z.fC) #[] z.capC] w
      (PG z w (tries z.E z.ok (z.C + 1) i (MS0 row col))) := by
  have hu := Try.underlying55
  have hmf : ∀ (fn : Fn) (first cap : Array Value) (w : World), (Instr.makeFunc fn first cap).run Try.prog w = .ok (.func fn first cap) w := fun _ _ _ _ => rfl
  have hO : Own w [(62, #[.slice (some ⟨z.gRow, 0, none⟩) z.R z.R, .slice (some ⟨z.gCol, 0, none⟩) z.C z.C]), (33, #[.int .i64 (z.R : Int), .int .i64 (z.C : Int), .slice z.AE z.nE z.cE]), (56, #[.func (.func z.fC) #[] z.capC]), (55, #[.int .u64 0, .int .u64 0]), (56, #[(.func (.func 68) #[] #[.pointer (some ⟨w.heap.size + 1, 0, none⟩), .pointer (some ⟨w.heap.size + 1 + 1 + 1, 0, none⟩), .pointer (some ⟨w.heap.size + 1 + 1, 0, none⟩), .pointer (some ⟨w.heap.size, 0, none⟩), .pointer (some ⟨w.heap.size + 1 + 1 + 1 + 1, 0, none⟩)])])] (((((w.alloc (.cells #[.slice (some ⟨z.gRow, 0, none⟩) z.R z.R, .slice (some ⟨z.gCol, 0, none⟩) z.C z.C] 62)).alloc (.cells #[.int .i64 (z.R : Int), .int .i64 (z.C : Int), .slice z.AE z.nE z.cE] 33)).alloc (.cells #[.func (.func z.fC) #[] z.capC] 56)).alloc (.cells #[.int .u64 0, .int .u64 0] 55)).alloc (.cells #[(.func (.func 68) #[] #[.pointer (some ⟨w.heap.size + 1, 0, none⟩), .pointer (some ⟨w.heap.size + 1 + 1 + 1, 0, none⟩), .pointer (some ⟨w.heap.size + 1 + 1, 0, none⟩), .pointer (some ⟨w.heap.size, 0, none⟩), .pointer (some ⟨w.heap.size + 1 + 1 + 1 + 1, 0, none⟩)])] 56)) := ((Own.three w _ _ _ _ _ _).alloc (by simp) _ _).alloc (by simp) _ _
  have hG : GS (z.gt w.heap.size) (MS0 row col) (((((w.alloc (.cells #[.slice (some ⟨z.gRow, 0, none⟩) z.R z.R, .slice (some ⟨z.gCol, 0, none⟩) z.C z.C] 62)).alloc (.cells #[.int .i64 (z.R : Int), .int .i64 (z.C : Int), .slice z.AE z.nE z.cE] 33)).alloc (.cells #[.func (.func z.fC) #[] z.capC] 56)).alloc (.cells #[.int .u64 0, .int .u64 0] 55)).alloc (.cells #[(.func (.func 68) #[] #[.pointer (some ⟨w.heap.size + 1, 0, none⟩), .pointer (some ⟨w.heap.size + 1 + 1 + 1, 0, none⟩), .pointer (some ⟨w.heap.size + 1 + 1, 0, none⟩), .pointer (some ⟨w.heap.size, 0, none⟩), .pointer (some ⟨w.heap.size + 1 + 1 + 1 + 1, 0, none⟩)])] 56)) := GS.start z hz row col w _ hm hO
  have hzf := MT.gt_fine hz (n := w.heap.size) hm.2.2.2.2.1.lt hm.2.2.2.2.2.lt hm.2.1 hm.2.2.1
  have hO' := Lib.hid hO
  have hG' := Lib.hid hG
  clear hO hG
  go_enter Try.func58, Try.ntmps58
  go_wp2_with (first
    | (go_at_call 68; refine (go_tries (z.gt w.heap.size) hzf (z.C + 1) i (MS0 row col) _ hi hco ?_ hG'.out).mono ?_; (focus exact Nat.lt_succ_of_le (uns_all _ _)); rintro e w7 ⟨rfl, hg7, hco7, hf7⟩))
  go_ret
  have h7 := hf7
  have hb5 := hO'.out.1
  obtain ⟨f1, f2, f3, f4, f5⟩ := hf7
  obtain ⟨-, -, -, -, g5, g6, g7, g8, g9, g10, -⟩ := hg7
  refine ⟨rfl, ⟨g5, g6, g7, g8, g9, g10⟩, hco7, ⟨f1.trans hb5.os, f2.trans hb5.tape, f3.trans hb5.output, Nat.le_trans hb5.size f4, fun j hj hx => (f5 j (Nat.lt_of_lt_of_le hj hb5.size) ?_).trans (hb5.block j hj)⟩⟩
  show j ∉ [w.heap.size + 3, z.gRow, z.gCol]
  simp at hx ⊢
  omega

end Go.Proofs.Ytjbhnfejpgjghaa
