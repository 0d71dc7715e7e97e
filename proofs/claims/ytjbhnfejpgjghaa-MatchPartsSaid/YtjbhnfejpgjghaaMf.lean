/- One row is matched: (pairs).grow. -/
import Derived.Laws.EntriesVeiled
import Derived.Test.YtjbhnfejpgjghaaMe
namespace Go.Proofs.Ytjbhnfejpgjghaa
open Go.RowKit
set_option linter.unusedSimpArgs false
set_option linter.unusedVariables false

structure MT where
  gRow : Nat
  gCol : Nat
  gU : Nat
  oU : Obj
  B : Nat
  AE : Option Addr
  nE : Nat
  cE : Nat
  fC : FuncId
  capC : Array Value
  R : Nat
  C : Nat
  E : List (List Nat)
  ok : Nat → Bool

def MT.gt (m : MT) (n : Nat) : GT := ⟨n + 1, n + 3, n + 2, n, n + 4, m.gRow, m.gCol, m.gU, m.oU, m.B, m.AE, m.nE, m.cE, m.fC, m.capC, m.R, m.C, m.E, m.ok⟩

def MT.Fine (z : MT) : Prop :=
  (z.R ≤ 64 ∧ z.C ≤ 64 ∧ z.nE = z.R ∧ ∀ l ∈ z.E, ∀ k ∈ l, k < z.C) ∧
  (z.B ≤ z.gRow ∧ z.B ≤ z.gCol) ∧ z.gRow ≠ z.gCol ∧ (z.gU ≠ z.gRow ∧ z.gU ≠ z.gCol) ∧
  (∀ (args : Array Value) (w : World), (callFunc z.fC args).run Try.prog w = .ok (.enter z.fC args) w) ∧
  (∀ (w : World) (k : Nat), w.heap[z.gU]? = some z.oU → k < z.C → Calls Try.prog z.fC (#[.int .i64 (k : Int)] ++ z.capC) w fun e w' => e = .returned (.bool (z.ok k)) ∧ Below w.heap.size w w')

def MW (z : MT) (row col : Nat → Int) (w : World) : Prop :=
  w.heap[z.gU]? = some z.oU ∧ z.gU < w.heap.size ∧ z.B ≤ w.heap.size ∧ N2 z.B w z.AE z.nE z.cE z.E ∧ RF w z.gRow z.R row ∧ RF w z.gCol z.C col

theorem MW.call {z : MT} {row col : Nat → Int} {w w' : World} (h : MW z row col w) (hb : Below w.heap.size w w') : MW z row col w' := by
  obtain ⟨h1, h2, h3, h4, h5, h6⟩ := h
  exact ⟨(hb.block _ h2).trans h1, Nat.lt_of_lt_of_le h2 hb.size, Nat.le_trans h3 hb.size, h4.below (hb.mono h3), h5.call hb, h6.call hb⟩

theorem MT.gt_fine {z : MT} (hz : z.Fine) {n : Nat} (h1 : z.gRow < n) (h2 : z.gCol < n) (h3 : z.gU < n) (h4 : z.B ≤ n) : (z.gt n).Fine := by
  obtain ⟨a, b, c, d, e, f⟩ := hz
  refine ⟨a, ⟨by show z.B ≤ n + 3; omega, b.1, b.2⟩, ⟨by show n + 3 ≠ z.gRow; omega, by show n + 3 ≠ z.gCol; omega, c⟩, ?_, e, f⟩
  intro g hg
  have hg' : g = n + 1 ∨ g = n + 2 ∨ g = n ∨ g = n + 4 ∨ g = z.gU := by simpa [MT.gt] using hg
  show g ∉ [n + 3, z.gRow, z.gCol]
  simp
  omega

def MS0 (row col : Nat → Int) : MS := ⟨row, col, fun _ => false⟩

def PG (z : MT) (w : World) (r : Bool × MS) (e : Ending) (w' : World) : Prop := e = .returned (.bool r.1) ∧ MW z r.2.row r.2.col w' ∧ ColOk z.R z.C r.2 ∧ Fr [z.gRow, z.gCol] w w'

theorem Own.b3 {w w1 : World} {x y u : TypeId × Array Value} {t : TypeId} {cs : Array Value} {r : List (TypeId × Array Value)} (h : Own w (x :: y :: u :: (t, cs) :: r) w1) : Blk w1 (w.heap.size + 3) t cs := h.2.2 3 t cs rfl
theorem Own.b4 {w w1 : World} {x y u v : TypeId × Array Value} {t : TypeId} {cs : Array Value} {r : List (TypeId × Array Value)} (h : Own w (x :: y :: u :: v :: (t, cs) :: r) w1) : Blk w1 (w.heap.size + 4) t cs := h.2.2 4 t cs rfl

theorem GS.start (z : MT) (hz : z.Fine) (row col : Nat → Int) (w w1 : World) (hm : MW z row col w)
    (hO : Own w [(62, #[.slice (some ⟨z.gRow, 0, none⟩) z.R z.R, .slice (some ⟨z.gCol, 0, none⟩) z.C z.C]), (33, #[.int .i64 (z.R : Int), .int .i64 (z.C : Int), .slice z.AE z.nE z.cE]), (56, #[.func (.func z.fC) #[] z.capC]), (55, #[.int .u64 0, .int .u64 0]), (56, #[.func (.func 68) #[] (z.gt w.heap.size).caps])] w1) :
    GS (z.gt w.heap.size) (MS0 row col) w1 := by
  have hm1 := hm.call hO.1
  obtain ⟨k1, k2, k3, k4, k5, k6⟩ := hm1
  exact ⟨hO.b1, hO.b2, hO.b0, hO.b4, k1, k2, k3, k4, k5, k6, hO.b3.lt, 0, 0, by omega, hO.b3, fun k _ => by simp [MS0]⟩

set_option maxRecDepth 100000 in
set_option maxHeartbeats 1000000 in
theorem go_grow (z : MT) (hz : z.Fine) (row col : Nat → Int) (i : Nat) (w : World) (hi : i < z.R) (hco : ColOk z.R z.C (MS0 row col)) (hm : MW z row col w) :
    Calls Try.prog 58 #[.agg #[.slice (some ⟨z.gRow, 0, none⟩) z.R z.R, .slice (some ⟨z.gCol, 0, none⟩) z.C z.C], .agg #[.int .i64 (z.R : Int), .int .i64 (z.C : Int), .slice z.AE z.nE z.cE], .int .i64 (i : Int), .func (.func z.fC) #[] z.capC] w
      (PG z w (tries z.E z.ok (z.C + 1) i (MS0 row col))) := by
  have hu := Try.underlying55
  have hmf : ∀ (fn : Fn) (first cap : Array Value) (w : World), (Instr.makeFunc fn first cap).run Try.prog w = .ok (.func fn first cap) w := fun _ _ _ _ => rfl
  have hO : Own w [(62, #[.slice (some ⟨z.gRow, 0, none⟩) z.R z.R, .slice (some ⟨z.gCol, 0, none⟩) z.C z.C]), (33, #[.int .i64 (z.R : Int), .int .i64 (z.C : Int), .slice z.AE z.nE z.cE]), (56, #[.func (.func z.fC) #[] z.capC]), (55, #[.int .u64 0, .int .u64 0]), (56, #[(.func (.func 68) #[] #[.pointer (some ⟨w.heap.size + 1, 0, none⟩), .pointer (some ⟨w.heap.size + 1 + 1 + 1, 0, none⟩), .pointer (some ⟨w.heap.size + 1 + 1, 0, none⟩), .pointer (some ⟨w.heap.size, 0, none⟩), .pointer (some ⟨w.heap.size + 1 + 1 + 1 + 1, 0, none⟩)])])] (((((w.alloc (.cells #[.slice (some ⟨z.gRow, 0, none⟩) z.R z.R, .slice (some ⟨z.gCol, 0, none⟩) z.C z.C] 62)).alloc (.cells #[.int .i64 (z.R : Int), .int .i64 (z.C : Int), .slice z.AE z.nE z.cE] 33)).alloc (.cells #[.func (.func z.fC) #[] z.capC] 56)).alloc (.cells #[.int .u64 0, .int .u64 0] 55)).alloc (.cells #[(.func (.func 68) #[] #[.pointer (some ⟨w.heap.size + 1, 0, none⟩), .pointer (some ⟨w.heap.size + 1 + 1 + 1, 0, none⟩), .pointer (some ⟨w.heap.size + 1 + 1, 0, none⟩), .pointer (some ⟨w.heap.size, 0, none⟩), .pointer (some ⟨w.heap.size + 1 + 1 + 1 + 1, 0, none⟩)])] 56)) := ((Own.three w _ _ _ _ _ _).alloc (by simp) _ _).alloc (by simp) _ _
  have hG : GS (z.gt w.heap.size) (MS0 row col) (((((w.alloc (.cells #[.slice (some ⟨z.gRow, 0, none⟩) z.R z.R, .slice (some ⟨z.gCol, 0, none⟩) z.C z.C] 62)).alloc (.cells #[.int .i64 (z.R : Int), .int .i64 (z.C : Int), .slice z.AE z.nE z.cE] 33)).alloc (.cells #[.func (.func z.fC) #[] z.capC] 56)).alloc (.cells #[.int .u64 0, .int .u64 0] 55)).alloc (.cells #[(.func (.func 68) #[] #[.pointer (some ⟨w.heap.size + 1, 0, none⟩), .pointer (some ⟨w.heap.size + 1 + 1 + 1, 0, none⟩), .pointer (some ⟨w.heap.size + 1 + 1, 0, none⟩), .pointer (some ⟨w.heap.size, 0, none⟩), .pointer (some ⟨w.heap.size + 1 + 1 + 1 + 1, 0, none⟩)])] 56)) := GS.start z hz row col w _ hm hO
  have hzf := MT.gt_fine hz (n := w.heap.size) hm.2.2.2.2.1.lt hm.2.2.2.2.2.lt hm.2.1 hm.2.2.1
  have hO' := Lib.hid hO
  have hG' := Lib.hid hG
  clear hO hG
  go_enter Try.func58, Try.ntmps58
  go_wp2_with (first
    | (go_at_call 68; refine (go_tries (z.gt w.heap.size) hzf (z.C + 1) i (MS0 row col) _ hi hco ?_ hG'.out).mono ?_; (focus exact Nat.lt_succ_of_le (uns_all _ _)); rintro e w7 ⟨rfl, hg7, hco7, hf7⟩))
  go_ret
  have h7 := hf7
  have hb5 := hO'.out.1
  obtain ⟨f1, f2, f3, f4, f5⟩ := hf7
  obtain ⟨-, -, -, -, g5, g6, g7, g8, g9, g10, -⟩ := hg7
  refine ⟨rfl, ⟨g5, g6, g7, g8, g9, g10⟩, hco7, ⟨f1.trans hb5.os, f2.trans hb5.tape, f3.trans hb5.output, Nat.le_trans hb5.size f4, fun j hj hx => (f5 j (Nat.lt_of_lt_of_le hj hb5.size) ?_).trans (hb5.block j hj)⟩⟩
  show j ∉ [w.heap.size + 3, z.gRow, z.gCol]
  simp at hx ⊢
  omega

end Go.Proofs.Ytjbhnfejpgjghaa

/- none, every, size. -/
namespace Go.Proofs.Ytjbhnfejpgjghaa
open Go.RowKit
set_option linter.unusedSimpArgs false
set_option linter.unusedVariables false

theorem m_info : ∃ i0, Try.prog.info? 3 = some i0 ∧ i0.zero = some (.int .i64 0) ∧ i0.size = 1 ∧ i0.bytes = 8 := by
  have h := infoI
  match hi : Try.prog.info? 3 with
  | none => rw [hi] at h; cases h
  | some i0 =>
    rw [hi] at h
    simp at h
    exact ⟨i0, rfl, h.1, h.2.1, h.2.2⟩

set_option maxRecDepth 100000 in
theorem m_every (k : Int) (w : World) : Calls Try.prog 43 #[.int .i64 k] w fun e w' => e = .returned (.bool true) ∧ Below w.heap.size w w' := by
  go_enter Try.func43, Try.ntmps43
  go_wp2_with fail
  go_ret
  exact ⟨rfl, Below.refl _ _⟩

def PN (w : World) (n : Nat) (e : Ending) (w' : World) : Prop := ∃ g, w.heap.size ≤ g ∧ e = .returned (.slice (some ⟨g, 0, none⟩) n n) ∧ RF w' g n (fun _ => -1) ∧ Below w.heap.size w w'

theorem RF.congr {w : World} {g N : Nat} {f f' : Nat → Int} (h : RF w g N f) (e : ∀ i, i < N → f i = f' i) : RF w g N f' := by
  unfold RF at *
  have : (List.range N).map f' = (List.range N).map f := by
    apply List.map_congr_left
    intro i hi
    exact (e i (List.mem_range.1 hi)).symm
  rw [this]
  exact h

set_option maxRecDepth 100000 in
theorem m_none (n : Nat) (hn : n ≤ 1000) (w : World) : Calls Try.prog 57 #[.int .i64 (n : Int)] w (PN w n) := by
  obtain ⟨i0, hi0, hz0, hz1, hz2⟩ := m_info
  go_enter Try.func57, Try.ntmps57
  go_wp2_with (at_make; refine wpList_make_full _ rfl _ _ 23 rfl w.heap.size 3 i0 (.int .i64 0) 1 Try.underlying23 hi0 hz0 hz1 .i64 .i64 _ _ n rfl rfl ?c1 ?c1' ?c2 ?c3 ?c4 ?_; rotate_left 5; intro w2 hown hg1)
  case c1 => rfl
  case c1' => rfl
  case c2 => rw [hz2]; omega
  case c3 => simp [maxLen]; omega
  case c4 => exact Nat.le_refl _
  rw [made_zerosI] at hown
  have hT0 : Hid (RF w2 w.heap.size n (fun z => if z < 0 then -1 else 0)) := by
    show RI _ _ _ _
    have : (List.range n).map (fun z => if z < 0 then (-1 : Int) else 0) = List.replicate n 0 := by
      rw [List.eq_replicate_iff]
      simp
    rw [this]
    unfold RI
    simpa using hown
  have hb2' : Hid (Below w.heap.size w w2) := (Below.refl _ _).grown hg1 (Nat.le_refl _) (by intro k hk; cases hk)
  clear hg1 hown
  obtain ⟨g, hg⟩ : ∃ g, g = w.heap.size := ⟨_, rfl⟩
  have hgl : w.heap.size ≤ g := by omega
  rw [← hg] at hT0 ⊢
  have hg' := Lib.hid hg
  clear hg
  go_loopw [9] (fun v9 wr => ∃ i : Nat, i ≤ n ∧ v9 = .int .i64 i ∧ Hid (RF wr g n (fun z => if z < i then -1 else 0)) ∧ Hid (Below w.heap.size w wr)) (fun i _ => n - (intOf i).toNat)
  case atStart => exact ⟨0, by omega, rfl, hT0, hb2'⟩
  case round =>
    clear hT0 hb2'
    obtain ⟨i, hi, rfl, hT, hb⟩ := hrel
    by_cases hlt : i < n
    · have hci := hT.out.cell hlt
      rw [if_neg (Nat.lt_irrefl i)] at hci
      have hfi := hT.out.frozen i
      have hset : Hid (RF (wr.setCell ⟨g, i, none⟩ (.int .i64 (-1))) g n (fun z => if z < i + 1 then -1 else 0)) := by
        refine RF.congr (hT.out.set i (-1)) (fun j hj => ?_)
        unfold upd
        by_cases e : j = i
        · rw [if_pos e, if_pos (by omega)]
        · rw [if_neg e]
          show (if j < i then (-1 : Int) else 0) = _
          by_cases e2 : j < i
          · rw [if_pos e2, if_pos (by omega)]
          · rw [if_neg e2, if_neg (by omega)]
      have hbs : Hid (Below w.heap.size w (wr.setCell ⟨g, i, none⟩ (.int .i64 (-1)))) := hb.out.setCell hgl _
      go_wp2_with fail
      exact round_next hlt ⟨hset, hbs⟩
    · have hin : i = n := by omega
      subst hin
      have hres : Hid (RF wr g i (fun _ => -1)) := RF.congr hT.out (fun j hj => if_pos hj)
      go_wp2_with fail
      go_ret
      exact ⟨g, hgl, rfl, hres.out, hb.out⟩

/-- how many rows have a column -/
def cnt (row : Nat → Int) : Nat → Nat
  | 0 => 0
  | n + 1 => cnt row n + (if 0 ≤ row n then 1 else 0)
theorem cnt_le (row : Nat → Int) : ∀ n, cnt row n ≤ n := by
  intro n
  induction n with
  | zero => exact Nat.le_refl _
  | succ n ih => unfold cnt; split <;> omega

set_option maxRecDepth 100000 in
theorem m_size (gRow gCol R C : Nat) (row : Nat → Int) (hR : R ≤ 1000) (w : World) (hr : RF w gRow R row) :
    Calls Try.prog 42 #[.agg #[.slice (some ⟨gRow, 0, none⟩) R R, .slice (some ⟨gCol, 0, none⟩) C C]] w fun e w' => e = .returned (.int .i64 (cnt row R : Int)) ∧ Below w.heap.size w w' := by
  obtain ⟨w1, hw1⟩ : ∃ w1, w1 = w.alloc (.cells #[.slice (some ⟨gRow, 0, none⟩) R R, .slice (some ⟨gCol, 0, none⟩) C C] 62) := ⟨_, rfl⟩
  have hb1 : Below w.heap.size w w1 := by rw [hw1]; exact (Below.refl _ _).alloc (Nat.le_refl _) _
  have hr1 := hr.call hb1
  have hb1' := Lib.hid hb1
  have hr1' := Lib.hid hr1
  clear hb1 hr1
  go_enter Try.func42, Try.ntmps42
  go_wp2_with fail
  rw [← hw1]
  clear hw1
  go_loopw [3, 9] (fun v3 v9 wr => w1 = wr ∧ ∃ i : Nat, i ≤ R ∧ v9 = .int .i64 i ∧ v3 = .int .i64 (cnt row i : Int)) (fun _ i _ => R - (intOf i).toNat)
  case atStart => exact ⟨rfl, 0, by omega, rfl, rfl⟩
  case round =>
    obtain ⟨rfl, i, hi, rfl, rfl⟩ := hrel
    by_cases hlt : i < R
    · have hci := hr1'.out.cell hlt
      have hcl := cnt_le row i
      have hcs : cnt row (i + 1) = cnt row i + (if 0 ≤ row i then 1 else 0) := rfl
      by_cases h0 : 0 ≤ row i
      · have h0' : decide (0 ≤ row i) = true := by simpa using h0
        rw [if_pos h0] at hcs
        have hcs' := Lib.hid hcs
        clear hcs
        go_wp2_with fail
        go_roundw
        case rel => exact ⟨trivial, i + 1, by omega, by go_num, by rw [hcs'.out]; go_num⟩
        case measure => simp [intOf]; omega
      · have h0' : decide (0 ≤ row i) = false := by simpa using h0
        rw [if_neg h0] at hcs
        have hcs' := Lib.hid hcs
        clear hcs
        go_wp2_with fail
        go_roundw
        case rel => exact ⟨trivial, i + 1, by omega, by go_num, by rw [hcs'.out]; go_num⟩
        case measure => simp [intOf]; omega
    · have hin : i = R := by omega
      subst hin
      go_wp2_with fail
      go_ret
      exact ⟨rfl, hb1'.out⟩

end Go.Proofs.Ytjbhnfejpgjghaa
