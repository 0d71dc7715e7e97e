/- The least maximum matching: closures, what is computed. -/
import Derived.Shelf.Abstract
import Derived.Test.YtjbhnfejpgjghaaMh
namespace Go.Proofs.Ytjbhnfejpgjghaa
open Go.RowKit
set_option linter.unusedSimpArgs false
set_option linter.unusedVariables false

set_option maxRecDepth 100000 in
theorem least_1 (g i r : Nat) (w : World) (hi : i < 1000) (hr : r < 1000) (hb : Blk w g 3 #[.int .i64 (i : Int)]) :
    Calls Try.prog 64 #[.int .i64 (r : Int), .pointer (some ⟨g, 0, none⟩)] w fun e w' => e = .returned (.bool (decide (i < r))) ∧ Below w.heap.size w w' := by
  have hc : w.cell? ⟨g, 0, none⟩ = some (.int .i64 (i : Int)) := hb.cell 0
  have hd : decide ((i : Int) < (r : Int)) = decide (i < r) := by
    rw [decide_eq_decide]; omega
  obtain ⟨d, hd'⟩ : ∃ d, d = decide (i < r) := ⟨_, rfl⟩
  rw [← hd'] at hd ⊢
  have hd2 := Lib.hid hd'
  clear hd'
  go_enter Try.func64, Try.ntmps64
  go_wp2_with fail
  go_ret
  refine ⟨?_, Below.refl _ _⟩
  first | rfl | (simp; exact hd2.out.symm) | (rw [← hd]; rfl)

set_option maxRecDepth 100000 in
theorem least_2 (g s s1 k : Nat) (w : World) (hk : k < 64) (hs : s < 18446744073709551616) (hb : Blk w g 55 #[.int .u64 (s : Int), .int .u64 (s1 : Int)]) :
    Calls Try.prog 65 #[.int .i64 (k : Int), .pointer (some ⟨g, 0, none⟩)] w fun e w' => e = .returned (.bool (!s.testBit k)) ∧ Below w.heap.size w w' := by
  have hu := Try.underlying55
  have hc0 : w.cell? ⟨g, 0, none⟩ = some (.int .u64 (s : Int)) := hb.cell 0
  have hc1 : w.cell? ⟨g, 1, none⟩ = some (.int .u64 (s1 : Int)) := hb.cell 1
  go_enter Try.func65, Try.ntmps65
  go_wp2_with (go_at_call 33; refine (m_has s s1 k _ hk hs).mono ?_; rintro e w2 ⟨rfl, hb2⟩)
  go_ret
  exact ⟨rfl, hb2⟩

theorem enters_every (args : Array Value) (w : World) : (callFunc 43 args).run Try.prog w = .ok (.enter 43 args) w := enters_of Try.func43 (by kernel_rfl) rfl args w
theorem enters_least1 (args : Array Value) (w : World) : (callFunc 64 args).run Try.prog w = .ok (.enter 64 args) w := enters_of Try.func64 (by kernel_rfl) rfl args w
theorem enters_least2 (args : Array Value) (w : World) : (callFunc 65 args).run Try.prog w = .ok (.enter 65 args) w := enters_of Try.func65 (by kernel_rfl) rfl args w

/-- as many pairs as some rows and columns have -/
def sz (E : List (List Nat)) (ok rows : Nat → Bool) (R C : Nat) : Nat := cnt (fill E ok rows C R).1 R

/-- the first unknown with which as many are left -/
def lrow (E : List (List Nat)) (R C i : Nat) (used : Nat → Bool) (left : Int) : List Nat → Option Nat
  | [] => none
  | k :: ks => if used k = true then lrow E R C i used left ks
    else if (sz E (fun c => !(upd used k true) c) (fun r => decide (i < r)) R C : Int) = left - 1 then some k else lrow E R C i used left ks

structure LS where
  out : Nat → Int
  used : Nat → Bool
  left : Int

def lst (E : List (List Nat)) (R C : Nat) : Nat → LS
  | 0 => ⟨fun _ => -1, fun _ => false, (sz E (fun _ => true) (fun _ => true) R C : Int)⟩
  | n + 1 => match lrow E R C n (lst E R C n).used (lst E R C n).left (E.getD n []) with
    | none => lst E R C n
    | some k => ⟨upd (lst E R C n).out n (k : Int), upd (lst E R C n).used k true, (lst E R C n).left - 1⟩

theorem lrow_some {E : List (List Nat)} {R C i : Nat} {used : Nat → Bool} {left : Int} : ∀ {l : List Nat} {k : Nat}, lrow E R C i used left l = some k → k ∈ l ∧ used k = false ∧ 1 ≤ left := by
  intro l
  induction l with
  | nil => intro k h; cases h
  | cons a l ih =>
    intro k h
    unfold lrow at h
    split at h
    · exact ⟨List.mem_cons_of_mem _ (ih h).1, (ih h).2⟩
    · rename_i hu
      split at h
      · rename_i he
        injection h with h
        subst h
        exact ⟨List.mem_cons_self .., by simpa using hu, by omega⟩
      · exact ⟨List.mem_cons_of_mem _ (ih h).1, (ih h).2⟩

theorem lst_left (E : List (List Nat)) (R C : Nat) : ∀ n, 0 ≤ (lst E R C n).left ∧ (lst E R C n).left ≤ R := by
  intro n
  induction n with
  | zero => exact ⟨Int.natCast_nonneg _, by show ((sz _ _ _ _ _ : Nat) : Int) ≤ _; have := cnt_le (fill E (fun _ => true) (fun _ => true) C R).1 R; unfold sz; omega⟩
  | succ n ih =>
    unfold lst
    split
    · exact ih
    · rename_i k hk
      have := (lrow_some hk).2.2
      exact ⟨by show (0 : Int) ≤ (lst E R C n).left - 1; omega, by show (lst E R C n).left - 1 ≤ _; omega⟩

/-! ## how match is asked -/
def mt (gU : Nat) (oU : Obj) (B : Nat) (AE : Option Addr) (nE cE : Nat) (fC : FuncId) (capC : Array Value) (R C : Nat) (E : List (List Nat)) (ok : Nat → Bool) : MT := ⟨0, 0, gU, oU, B, AE, nE, cE, fC, capC, R, C, E, ok⟩

def PMx (R C : Nat) (E : List (List Nat)) (ok rows : Nat → Bool) (w : World) (e : Ending) (w' : World) : Prop :=
  ∃ gRow gCol : Nat, w.heap.size ≤ gRow ∧ w.heap.size ≤ gCol ∧ gRow ≠ gCol ∧ e = .returned (.agg #[.slice (some ⟨gRow, 0, none⟩) R R, .slice (some ⟨gCol, 0, none⟩) C C]) ∧
    RF w' gRow R (fill E ok rows C R).1 ∧ RF w' gCol C (fill E ok rows C R).2 ∧ Below w.heap.size w w'

def Inc (R C : Nat) (E : List (List Nat)) : Prop := R ≤ 64 ∧ C ≤ 64 ∧ E.length = R ∧ ∀ l ∈ E, ∀ k ∈ l, k < C

set_option maxHeartbeats 1000000 in
/-- all rows, all columns -/
theorem match_all {R C : Nat} {E : List (List Nat)} (hI : Inc R C E) (B : Nat) (AE : Option Addr) (nE cE : Nat) (w : World) (gU : Nat) (oU : Obj) (hU : w.heap[gU]? = some oU ∧ gU < w.heap.size) (hB : B ≤ w.heap.size) (hN : N2 B w AE nE cE E) :
    Calls Try.prog 39 #[.agg #[.int .i64 (R : Int), .int .i64 (C : Int), .slice AE nE cE], .func (.func 43) #[] #[], .func (.func 43) #[] #[]] w (PMx R C E (fun _ => true) (fun _ => true) w) := by
  show Calls _ _ _ _ (PM (mt gU oU B AE nE cE 43 #[] R C E (fun _ => true)) (fun _ => true) w)
  have hn : nE = R := by have := hN.1; have := hI.2.2.1; omega
  refine m_match (mt gU oU B AE nE cE 43 #[] R C E (fun _ => true)) ?_ (fun _ => true) 43 #[] gU oU ⟨enters_every, fun w i _ _ => m_every i w⟩ w hU hU hB hN ⟨hI.1, hI.2.1⟩
  intro gRow gCol h1 h2 h3 h4 h5
  exact ⟨⟨hI.1, hI.2.1, hn, hI.2.2.2⟩, ⟨h1, h2⟩, h3, ⟨h4, h5⟩, enters_every, fun w k _ _ => m_every k w⟩

set_option maxHeartbeats 1000000 in
/-- the rows behind i, the columns that are not in a set -/
theorem match_rest {R C : Nat} {E : List (List Nat)} (hI : Inc R C E) (B : Nat) (AE : Option Addr) (nE cE : Nat) (w : World) (gi gu i s s1 : Nat) (u : Nat → Bool) (hs : s < 18446744073709551616) (hsu : ∀ k, k < 64 → s.testBit k = u k) (hi : i < R)
    (hgi : Blk w gi 3 #[.int .i64 (i : Int)]) (hgu : Blk w gu 55 #[.int .u64 (s : Int), .int .u64 (s1 : Int)]) (hB : B ≤ w.heap.size) (hN : N2 B w AE nE cE E) :
    Calls Try.prog 39 #[.agg #[.int .i64 (R : Int), .int .i64 (C : Int), .slice AE nE cE], .func (.func 64) #[] #[.pointer (some ⟨gi, 0, none⟩)], .func (.func 65) #[] #[.pointer (some ⟨gu, 0, none⟩)]] w (PMx R C E (fun c => !u c) (fun r => decide (i < r)) w) := by
  show Calls _ _ _ _ (PM (mt gu (.cells #[.int .u64 (s : Int), .int .u64 (s1 : Int)] 55 (0, 0)) B AE nE cE 65 #[.pointer (some ⟨gu, 0, none⟩)] R C E (fun c => !u c)) (fun r => decide (i < r)) w)
  have hn : nE = R := by have := hN.1; have := hI.2.2.1; omega
  have hR := hI.1
  have hC := hI.2.1
  refine m_match (mt gu (.cells #[.int .u64 (s : Int), .int .u64 (s1 : Int)] 55 (0, 0)) B AE nE cE 65 #[.pointer (some ⟨gu, 0, none⟩)] R C E (fun c => !u c)) ?_ (fun r => decide (i < r)) 64 #[.pointer (some ⟨gi, 0, none⟩)] gi (.cells #[.int .i64 (i : Int)] 3 (0, 0)) ⟨enters_least1, fun w r hw hr => least_1 gi i r w (by omega) (by have : r < R := hr; omega) hw⟩ w ⟨hgi, hgi.lt⟩ ⟨hgu, hgu.lt⟩ hB hN ⟨hI.1, hI.2.1⟩
  intro gRow gCol h1 h2 h3 h4 h5
  refine ⟨⟨hI.1, hI.2.1, hn, hI.2.2.2⟩, ⟨h1, h2⟩, h3, ⟨h4, h5⟩, enters_least2, fun w k hw hk => ?_⟩
  have hk : k < C := hk
  refine (least_2 gu s s1 k w (by omega) hs hw).mono ?_
  rintro e w' ⟨rfl, hb⟩
  refine ⟨?_, hb⟩
  rw [hsu k (by omega)]
  rfl

end Go.Proofs.Ytjbhnfejpgjghaa
