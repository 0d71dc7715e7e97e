/- none, every, size. -/
import Derived.Test.YtjbhnfejpgjghaaMf
namespace Go.Proofs.Ytjbhnfejpgjghaa
open Go.RowKit
set_option linter.unusedSimpArgs false
set_option linter.unusedVariables false

theorem m_info : ∃ i0, Try.prog.info? 3 = some i0 ∧ i0.zero = some (.int .i64 0) ∧ i0.size = 1 ∧ i0.bytes = 8 := by
  have h := infoI
  match hi : Try.prog.info? 3 with
  | none => rw [hi] at h; cases h
  | some i0 =>
    rw [hi] at h
    simp at h
    exact ⟨i0, rfl, h.1, h.2.1, h.2.2⟩

set_option maxRecDepth 100000 in
theorem m_every (k : Int) (w : World) : Calls Try.prog 43 #[.int .i64 k] w fun e w' => e = .returned (.bool true) ∧ Below w.heap.size w w' := by
  go_enter Try.func43, Try.ntmps43
  go_wp2_with fail
  go_ret
  exact ⟨rfl, Below.refl _ _⟩

def PN (w : World) (n : Nat) (e : Ending) (w' : World) : Prop := ∃ g, w.heap.size ≤ g ∧ e = .returned (.slice (some ⟨g, 0, none⟩) n n) ∧ RF w' g n (fun _ => -1) ∧ Below w.heap.size w w'

theorem RF.congr {w : World} {g N : Nat} {f f' : Nat → Int} (h : RF w g N f) (e : ∀ i, i < N → f i = f' i) : RF w g N f' := by
  unfold RF at *
  have : (List.range N).map f' = (List.range N).map f := by
    apply List.map_congr_left
    intro i hi
    exact (e i (List.mem_range.1 hi)).symm
  rw [this]
  exact h

set_option maxRecDepth 100000 in
theorem m_none (n : Nat) (hn : n ≤ 1000) (w : World) : Calls Try.prog 57 #[.int .i64 (n : Int)] w (PN w n) := by
  obtain ⟨i0, hi0, hz0, hz1, hz2⟩ := m_info
  go_enter Try.func57, Try.ntmps57
  go_wp2_with (at_make; refine wpList_make_full _ rfl _ _ 23 rfl w.heap.size 3 i0 (.int .i64 0) 1 Try.underlying23 hi0 hz0 hz1 .i64 .i64 _ _ n rfl rfl ?c1 ?c1' ?c2 ?c3 ?c4 ?_; rotate_left 5; intro w2 hown hg1)
  case c1 => rfl
  case c1' => rfl
  case c2 => rw [hz2]; omega
  case c3 => simp [maxLen]; omega
  case c4 => exact Nat.le_refl _
  rw [made_zerosI] at hown
  have hT0 : Hid (RF w2 w.heap.size n (fun z => if z < 0 then -1 else 0)) := by
    show RI _ _ _ _
    have : (List.range n).map (fun z => if z < 0 then (-1 : Int) else 0) = List.replicate n 0 := by
      rw [List.eq_replicate_iff]
      simp
    rw [this]
    unfold RI
    simpa using hown
  have hb2' : Hid (Below w.heap.size w w2) := (Below.refl _ _).grown hg1 (Nat.le_refl _) (by intro k hk; cases hk)
  clear hg1 hown
  obtain ⟨g, hg⟩ : ∃ g, g = w.heap.size := ⟨_, rfl⟩
  have hgl : w.heap.size ≤ g := by omega
  rw [← hg] at hT0 ⊢
  have hg' := Lib.hid hg
  clear hg
  go_loopw [9] (fun v9 wr => ∃ i : Nat, i ≤ n ∧ v9 = .int .i64 i ∧ Hid (RF wr g n (fun z => if z < i then -1 else 0)) ∧ Hid (Below w.heap.size w wr)) (fun i _ => n - (intOf i).toNat)
  case atStart => exact ⟨0, by omega, rfl, hT0, hb2'⟩
  case round =>
    clear hT0 hb2'
    obtain ⟨i, hi, rfl, hT, hb⟩ := hrel
    by_cases hlt : i < n
    · have hci := hT.out.cell hlt
      rw [if_neg (Nat.lt_irrefl i)] at hci
      have hfi := hT.out.frozen i
      have hset : Hid (RF (wr.setCell ⟨g, i, none⟩ (.int .i64 (-1))) g n (fun z => if z < i + 1 then -1 else 0)) := by
        refine RF.congr (hT.out.set i (-1)) (fun j hj => ?_)
        unfold upd
        by_cases e : j = i
        · rw [if_pos e, if_pos (by omega)]
        · rw [if_neg e]
          show (if j < i then (-1 : Int) else 0) = _
          by_cases e2 : j < i
          · rw [if_pos e2, if_pos (by omega)]
          · rw [if_neg e2, if_neg (by omega)]
      have hbs : Hid (Below w.heap.size w (wr.setCell ⟨g, i, none⟩ (.int .i64 (-1)))) := hb.out.setCell hgl _
      go_wp2_with fail
      exact round_next hlt ⟨hset, hbs⟩
    · have hin : i = n := by omega
      subst hin
      have hres : Hid (RF wr g i (fun _ => -1)) := RF.congr hT.out (fun j hj => if_pos hj)
      go_wp2_with fail
      go_ret
      exact ⟨g, hgl, rfl, hres.out, hb.out⟩

/-- how many rows have a column -/
def cnt (row : Nat → Int) : Nat → Nat
  | 0 => 0
  | n + 1 => cnt row n + (if 0 ≤ row n then 1 else 0)
theorem cnt_le (row : Nat → Int) : ∀ n, cnt row n ≤ n := by
  intro n
  induction n with
  | zero => exact Nat.le_refl _
  | succ n ih => unfold cnt; split <;> omega

set_option maxRecDepth 100000 in
theorem m_size (gRow gCol R C : Nat) (row : Nat → Int) (hR : R ≤ 1000) (w : World) (hr : RF w gRow R row) :
    Calls Try.prog 42 #[.agg #[.slice (some ⟨gRow, 0, none⟩) R R, .slice (some ⟨gCol, 0, none⟩) C C]] w fun e w' => e = .returned (.int .i64 (cnt row R : Int)) ∧ Below w.heap.size w w' := by
  obtain ⟨w1, hw1⟩ : ∃ w1, w1 = w.alloc (.cells #[.slice (some ⟨gRow, 0, none⟩) R R, .slice (some ⟨gCol, 0, none⟩) C C] 62) := ⟨_, rfl⟩
  have hb1 : Below w.heap.size w w1 := by rw [hw1]; exact (Below.refl _ _).alloc (Nat.le_refl _) _
  have hr1 := hr.call hb1
  have hb1' := Lib.hid hb1
  have hr1' := Lib.hid hr1
  clear hb1 hr1
  go_enter Try.func42, Try.ntmps42
  go_wp2_with fail
  rw [← hw1]
  clear hw1
  go_loopw [3, 9] (fun v3 v9 wr => w1 = wr ∧ ∃ i : Nat, i ≤ R ∧ v9 = .int .i64 i ∧ v3 = .int .i64 (cnt row i : Int)) (fun _ i _ => R - (intOf i).toNat)
  case atStart => exact ⟨rfl, 0, by omega, rfl, rfl⟩
  case round =>
    obtain ⟨rfl, i, hi, rfl, rfl⟩ := hrel
    by_cases hlt : i < R
    · have hci := hr1'.out.cell hlt
      have hcl := cnt_le row i
      have hcs : cnt row (i + 1) = cnt row i + (if 0 ≤ row i then 1 else 0) := rfl
      by_cases h0 : 0 ≤ row i
      · have h0' : decide (0 ≤ row i) = true := by simpa using h0
        rw [if_pos h0] at hcs
        have hcs' := Lib.hid hcs
        clear hcs
        go_wp2_with fail
        go_roundw
        case rel => exact ⟨trivial, i + 1, by omega, by go_num, by rw [hcs'.out]; go_num⟩
        case measure => simp [intOf]; omega
      · have h0' : decide (0 ≤ row i) = false := by simpa using h0
        rw [if_neg h0] at hcs
        have hcs' := Lib.hid hcs
        clear hcs
        go_wp2_with fail
        go_roundw
        case rel => exact ⟨trivial, i + 1, by omega, by go_num, by rw [hcs'.out]; go_num⟩
        case measure => simp [intOf]; omega
    · have hin : i = R := by omega
      subst hin
      go_wp2_with fail
      go_ret
      exact ⟨rfl, hb1'.out⟩

end Go.Proofs.Ytjbhnfejpgjghaa
