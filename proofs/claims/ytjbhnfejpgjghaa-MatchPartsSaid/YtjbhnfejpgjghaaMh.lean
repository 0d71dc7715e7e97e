/- A maximum matching: match. -/
import Derived.Test.YtjbhnfejpgjghaaMf
namespace Go.Proofs.Ytjbhnfejpgjghaa
open Go.RowKit
set_option linter.unusedSimpArgs false
set_option linter.unusedVariables false

/-- row after row -/
def fill (E : List (List Nat)) (ok : Nat → Bool) (rows : Nat → Bool) (C : Nat) : Nat → (Nat → Int) × (Nat → Int)
  | 0 => (fun _ => -1, fun _ => -1)
  | n + 1 => if rows n = true then ((tries E ok (C + 1) n (MS0 (fill E ok rows C n).1 (fill E ok rows C n).2)).2.row, (tries E ok (C + 1) n (MS0 (fill E ok rows C n).1 (fill E ok rows C n).2)).2.col)
    else fill E ok rows C n

theorem Blk.newE {w : World} {g : Nat} {t : TypeId} {cs : Array Value} (h : g = w.heap.size) : Blk (w.alloc (.cells cs t)) g t cs := by rw [h]; exact Blk.new _ _ _

theorem blkP {w : World} {g : Nat} {t : TypeId} {a b : Value} (h : Blk w g t #[a, b]) :
    w.cell? ⟨g, 0, none⟩ = some a ∧ w.cell? ⟨g, 1, none⟩ = some b ∧ w.frozen? ⟨g, 0, none⟩ = false ∧ w.frozen? ⟨g, 1, none⟩ = false ∧
    (∀ u, (w.setCell ⟨g, 0, none⟩ u).cell? ⟨g, 1, none⟩ = some b) ∧ (∀ u, (w.setCell ⟨g, 0, none⟩ u).frozen? ⟨g, 1, none⟩ = false) :=
  ⟨h.cell 0, h.cell 1, h.frozen 0, h.frozen 1, fun u => (h.set 0 u).cell 1, fun u => (h.set 0 u).frozen 1⟩

theorem keepM {w w1 : World} {t : TypeId} {a b c : Value} {r : List (TypeId × Array Value)} (h : Own w ((t, #[a, b, c]) :: r) w1) : w1.cell? ⟨w.heap.size, 0, none⟩ = some a ∧ w1.cell? ⟨w.heap.size, 1, none⟩ = some b := ⟨h.b0.cell 0, h.b0.cell 1⟩

theorem Own.setP {w w1 : World} {bs : List (TypeId × Array Value)} {g : Nat} (h : Own w bs w1) (hg : w.heap.size + bs.length ≤ g) (u v : Value) : Own w bs ((w1.setCell ⟨g, 0, none⟩ u).setCell ⟨g, 1, none⟩ v) :=
  ⟨(h.1.setCell (by show _ ≤ g; omega) _).setCell (by show _ ≤ g; omega) _, by simpa [World.setCell] using h.2.1, fun i t cs hi => by
    have hl := (List.getElem?_eq_some_iff.1 hi).1
    exact ((h.2.2 i t cs hi).far (by show w.heap.size + i ≠ g; omega) _).far (by show w.heap.size + i ≠ g; omega) _⟩

theorem RF.more {w : World} {g N : Nat} {f : Nat → Int} (h : RF w g N f) (o : Obj) : RF (w.alloc o) g N f := h.call ((Below.refl _ _).alloc (Nat.le_refl _) _)
theorem RF.setP {w : World} {g g' N : Nat} {f : Nat → Int} (h : RF w g N f) (hne : g ≠ g') (u v : Value) : RF ((w.setCell ⟨g', 0, none⟩ u).setCell ⟨g', 1, none⟩ v) g N f := (h.other hne _ _).other hne _ _
theorem Blk.setP {w : World} {g : Nat} {t : TypeId} {a b : Value} (h : Blk w g t #[a, b]) (u v : Value) : Blk ((w.setCell ⟨g, 0, none⟩ u).setCell ⟨g, 1, none⟩ v) g t #[u, v] := (h.set 0 u).set 1 v

/-- both rows of numbers lie there -/
def CutM (w : World) (R C : Nat) (AE : Option Addr) (nE cE : Nat) (v7 : Value) (wc : World) : Prop :=
  ∃ gP gRow gCol : Nat, v7 = .pointer (some ⟨gP, 0, none⟩) ∧ w.heap.size + 2 ≤ gP ∧ w.heap.size + 2 ≤ gRow ∧ w.heap.size + 2 ≤ gCol ∧ gRow ≠ gCol ∧ gP ≠ gRow ∧ gP ≠ gCol ∧
    Hid (Own w [(33, #[.int .i64 (R : Int), .int .i64 (C : Int), .slice AE nE cE]), (62, #[.slice none 0 0, .slice none 0 0])] wc) ∧
    Blk wc gP 62 #[.slice (some ⟨gRow, 0, none⟩) R R, .slice (some ⟨gCol, 0, none⟩) C C] ∧ RF wc gRow R (fun _ => -1) ∧ RF wc gCol C (fun _ => -1)

/-- a rows' predicate as a function value -/
def RowFn (fR : FuncId) (capR : Array Value) (gV : Nat) (oV : Obj) (R : Nat) (rows : Nat → Bool) : Prop :=
  (∀ (args : Array Value) (w : World), (callFunc fR args).run Try.prog w = .ok (.enter fR args) w) ∧
  (∀ (w : World) (i : Nat), w.heap[gV]? = some oV → i < R → Calls Try.prog fR (#[.int .i64 (i : Int)] ++ capR) w fun e w' => e = .returned (.bool (rows i)) ∧ Below w.heap.size w w')

def PM (z : MT) (rows : Nat → Bool) (w : World) (e : Ending) (w' : World) : Prop :=
  ∃ gRow gCol : Nat, w.heap.size ≤ gRow ∧ w.heap.size ≤ gCol ∧ gRow ≠ gCol ∧ e = .returned (.agg #[.slice (some ⟨gRow, 0, none⟩) z.R z.R, .slice (some ⟨gCol, 0, none⟩) z.C z.C]) ∧
    RF w' gRow z.R (fill z.E z.ok rows z.C z.R).1 ∧ RF w' gCol z.C (fill z.E z.ok rows z.C z.R).2 ∧ Below w.heap.size w w'

theorem Own.fr {w w1 w2 : World} {bs : List (TypeId × Array Value)} {xs : List Nat} (h : Own w bs w1) (hf : Fr xs w1 w2) (hx : ∀ x ∈ xs, w.heap.size + bs.length ≤ x) : Own w bs w2 :=
  ⟨h.1.trans (hf.below (by have := h.2.1; omega) (fun x hx' => by have := hx x hx'; omega)), Nat.le_trans h.2.1 hf.size, fun i t cs hi => hf.blk (h.2.2 i t cs hi) (fun hm => by
    have := hx _ hm
    have hl := (List.getElem?_eq_some_iff.1 hi).1
    omega)⟩

/-- rows under way -/
def M1 (w : World) (z : MT) (rows : Nat → Bool) (gP gRow gCol : Nat) (v18 : Value) (wr : World) : Prop :=
  ∃ i : Nat, i ≤ z.R ∧ v18 = .int .i64 (i : Int) ∧ Hid (Own w [(33, #[.int .i64 (z.R : Int), .int .i64 (z.C : Int), .slice z.AE z.nE z.cE]), (62, #[.slice none 0 0, .slice none 0 0])] wr) ∧ Blk wr gP 62 #[.slice (some ⟨gRow, 0, none⟩) z.R z.R, .slice (some ⟨gCol, 0, none⟩) z.C z.C] ∧
    RF wr gRow z.R (fill z.E z.ok rows z.C i).1 ∧ RF wr gCol z.C (fill z.E z.ok rows z.C i).2 ∧ ColOk z.R z.C (MS0 (fill z.E z.ok rows z.C i).1 (fill z.E z.ok rows z.C i).2)

set_option maxRecDepth 100000 in
set_option maxHeartbeats 4000000 in
theorem m_match (z : MT) (hz : ∀ gRow gCol, z.B ≤ gRow → z.B ≤ gCol → gRow ≠ gCol → z.gU ≠ gRow → z.gU ≠ gCol → ({ z with gRow := gRow, gCol := gCol } : MT).Fine) (rows : Nat → Bool) (fR : FuncId) (capR : Array Value) (gV : Nat) (oV : Obj)
    (hfr : RowFn fR capR gV oV z.R rows) (w : World) (hV : w.heap[gV]? = some oV ∧ gV < w.heap.size) (hU : w.heap[z.gU]? = some z.oU ∧ z.gU < w.heap.size) (hB : z.B ≤ w.heap.size) (hN : N2 z.B w z.AE z.nE z.cE z.E) (hRC : z.R ≤ 64 ∧ z.C ≤ 64) :
    Calls Try.prog 39 #[.agg #[.int .i64 (z.R : Int), .int .i64 (z.C : Int), .slice z.AE z.nE z.cE], .func (.func fR) #[] capR, .func (.func z.fC) #[] z.capC] w (PM z rows w) := by
  have hu2 := Try.underlying62
  have hO0 := Lib.hid (Own.two w 33 62 #[.int .i64 (z.R : Int), .int .i64 (z.C : Int), .slice z.AE z.nE z.cE] #[.slice none 0 0, .slice none 0 0])
  have hm1 : Hid (1 = 1) := rfl
  have hO1 := hO0
  have hO2 := hO0
  go_enter Try.func39, Try.ntmps39
  go_upto_region 1 with fail
  go_cut [7] from 9 to 15 (fun v7 wc => CutM w z.R z.C z.AE z.nE z.cE v7 wc)
  case first =>
    have hS : (fun w' : World => w'.cell? ⟨w.heap.size, 0, none⟩ = some (.int .i64 (z.R : Int)) ∧ w'.cell? ⟨w.heap.size, 1, none⟩ = some (.int .i64 (z.C : Int))) ((w.alloc (.cells #[.int .i64 (z.R : Int), .int .i64 (z.C : Int), .slice z.AE z.nE z.cE] 33)).alloc (.cells #[.slice none 0 0, .slice none 0 0] 62)).drew := ⟨hO0.out.b0.cell 0, hO0.out.b0.cell 1⟩
    go_region_held3 (fun w' => w'.cell? ⟨w.heap.size, 0, none⟩ = some (.int .i64 (z.R : Int)) ∧ w'.cell? ⟨w.heap.size, 1, none⟩ = some (.int .i64 (z.C : Int)))
      (exact keepM (t := 33) (c := .slice z.AE z.nE z.cE) (r := [(62, #[.slice none 0 0, .slice none 0 0])]) (by (repeat (first | (with_reducible exact hO2.out) | (with_reducible exact hO1.out) | (with_reducible exact hO0.out) | (with_reducible refine Own.drew ?_) | (with_reducible refine Own.more ?_ _) | (with_reducible refine Own.setP ?_ ?_ _ _) | (focus (simp only [List.length_cons, List.length_nil]; omega))))))
      (first
        | (have hz := hm1; go_at_call 57; clear hz hm1; refine (m_none z.R (by omega) _).mono ?_; rintro e w1 ⟨g1, hg1', rfl, hr1', hb1'⟩; have hO1 : Own w [(33, #[.int .i64 (z.R : Int), .int .i64 (z.C : Int), .slice z.AE z.nE z.cE]), (62, #[.slice none 0 0, .slice none 0 0])] w1 := (by (refine Own.call ?_ hb1'; (focus ((repeat (first | (with_reducible exact hO2.out) | (with_reducible exact hO1.out) | (with_reducible exact hO0.out) | (with_reducible refine Own.drew ?_) | (with_reducible refine Own.more ?_ _) | (with_reducible refine Own.setP ?_ ?_ _ _) | (focus (simp only [List.length_cons, List.length_nil]; omega)))))))); have hs1 : w.heap.size + 2 ≤ w1.heap.size := hO1.2.1; have hl1 : g1 < w1.heap.size := hr1'.lt; have hO1 := Lib.hid hO1; have hr1 := Lib.hid hr1'; have hb1 := Lib.hid hb1'; (try (refine (have hx1 : Blk w1 (w.heap.size + 1 + 1) 62 #[.slice none 0 0, .slice none 0 0] := Blk.call ?_ hb1'; ?_); (focus ((repeat (first | (with_reducible refine Blk.drew ?_) | (refine Blk.newE ?_; (focus ((try simp); all_goals fail))) | (with_reducible refine Blk.alloc ?_ _))); all_goals fail)); obtain ⟨x10, x11, x12, x13, x14, x15⟩ := blkP hx1)); clear hr1')
        | (go_at_call 57; refine (m_none z.C (by omega) _).mono ?_; rintro e w2 ⟨g2, hg2', rfl, hr2', hb2'⟩; have hO2 : Own w [(33, #[.int .i64 (z.R : Int), .int .i64 (z.C : Int), .slice z.AE z.nE z.cE]), (62, #[.slice none 0 0, .slice none 0 0])] w2 := (by (refine Own.call ?_ hb2'; (focus ((repeat (first | (with_reducible exact hO2.out) | (with_reducible exact hO1.out) | (with_reducible exact hO0.out) | (with_reducible refine Own.drew ?_) | (with_reducible refine Own.more ?_ _) | (with_reducible refine Own.setP ?_ ?_ _ _) | (focus (simp only [List.length_cons, List.length_nil]; omega)))))))); have hs2 : w.heap.size + 2 ≤ w2.heap.size := hO2.2.1; have hl2 : g2 < w2.heap.size := hr2'.lt; have hO2 := Lib.hid hO2; have hr2 := Lib.hid hr2'; have hb2 := Lib.hid hb2'; (try (refine (have hx2 : Blk w2 (w.heap.size + 1 + 1) 62 #[.slice none 0 0, .slice none 0 0] := Blk.call ?_ hb2'; ?_); (focus ((repeat (first | (with_reducible exact hx1) | (with_reducible refine Blk.drew ?_) | (refine Blk.newE ?_; (focus ((try simp); all_goals fail))) | (with_reducible refine Blk.alloc ?_ _))); all_goals fail)); obtain ⟨x20, x21, x22, x23, x24, x25⟩ := blkP hx2)); (try (refine (have hy2 : Blk w2 w1.heap.size 62 #[.slice none 0 0, .slice none 0 0] := Blk.call ?_ hb2'; ?_); (focus ((repeat (first | (with_reducible refine Blk.drew ?_) | (refine Blk.newE ?_; (focus ((try simp); all_goals fail))) | (with_reducible refine Blk.alloc ?_ _))); all_goals fail)); obtain ⟨y20, y21, y22, y23, y24, y25⟩ := blkP hy2)); clear hr2'))
    all_goals (go_wp2_with fail; go_meet)
    all_goals have hG1 : w.heap.size + 2 ≤ g1 := (by simp at hg1'; omega)
    all_goals have hG2 : w1.heap.size ≤ g2 := (by first | exact hg2' | (simp at hg2'; omega))
    all_goals refine ⟨_, g1, g2, rfl, ?_, ?_, ?_, ?_, ?_, ?_, (show Own w [(33, #[.int .i64 (z.R : Int), .int .i64 (z.C : Int), .slice z.AE z.nE z.cE]), (62, #[.slice none 0 0, .slice none 0 0])] _ from ?_), ?_, ?_, ?_⟩
    all_goals (repeat (first | omega | (with_reducible exact hO2.out) | (with_reducible exact hr1.out) | (with_reducible exact hr2.out) | (with_reducible exact Blk.new _ _ _) | (with_reducible exact hx2.setP _ _) | (with_reducible exact hy2.setP _ _) | (with_reducible refine Own.drew ?_) | (with_reducible refine Own.more ?_ _) | (with_reducible refine Own.setP ?_ ?_ _ _) | (focus (simp only [List.length_cons, List.length_nil]; omega)) | (with_reducible refine RF.more ?_ _) | (with_reducible refine RF.setP ?_ ?_ _ _) | (with_reducible refine RF.call ?_ hb2') | (focus (simp at hg2'; omega)) | (focus (simp at hg1'; omega))))
  case rest =>
    obtain ⟨gP, gRow, gCol, rfl, hgP, hgR, hgC, hRC', hPR, hPC, hO, hBP, hRr, hRc⟩ := hcut
    clear hO0 hO1 hO2 hm1
    have hzz := Lib.hid (hz gRow gCol (by omega) (by omega) hRC' (by omega) (by omega))
    have hfr1 := hfr.1
    have hfr2 := Lib.hid hfr.2
    have hz' := Lib.hid hz
    have hfr' := Lib.hid hfr
    clear hz hfr
    have hM0 : M1 w z rows gP gRow gCol (.int .i64 0) wc := ⟨0, by omega, rfl, hO, hBP, hRr, hRc, fun k hk => by simp [MS0, fill]; omega⟩
    have hm0 : wc.cell? ⟨w.heap.size, 0, none⟩ = some (.int .i64 (z.R : Int)) := hO.out.b0.cell 0
    have hRi : (z.R : Int) ≤ 64 := by omega
    clear hO hBP hRr hRc
    go_wp2_with fail
    go_loopw [18] (fun v18 wr => M1 w z rows gP gRow gCol v18 wr) (fun i _ => z.R - (intOf i).toNat)
    case atStart => exact hM0
    case round =>
      clear hM0 hm0
      obtain ⟨i, hi, rfl, hO, hBP, hRr, hRc, hco⟩ := hrel
      by_cases hlt : i < z.R
      · have hm0 : wr.cell? ⟨w.heap.size, 0, none⟩ = some (.int .i64 (z.R : Int)) := hO.out.b0.cell 0
        have hVr : wr.heap[gV]? = some oV := (hO.out.1.block gV hV.2).trans hV.1
        by_cases hri : rows i = true
        · have hfl : fill z.E z.ok rows z.C (i + 1) = ((tries z.E z.ok (z.C + 1) i (MS0 (fill z.E z.ok rows z.C i).1 (fill z.E z.ok rows z.C i).2)).2.row, (tries z.E z.ok (z.C + 1) i (MS0 (fill z.E z.ok rows z.C i).1 (fill z.E z.ok rows z.C i).2)).2.col) := by show (if _ then _ else _) = _; rw [if_pos hri]
          have hxs : ∀ x ∈ [gRow, gCol], w.heap.size + 2 ≤ x := by simp; omega
          go_wp2_with (first
            | ((with_reducible refine (hfr2.out _ i ?_ hlt).mono ?_); (focus exact hVr); rintro e w3 ⟨rfl, hb3⟩; rw [hri]; have hO3 := Lib.hid (hO.out.call hb3); have hBP3 := hBP.call hb3; obtain ⟨p0, p1, -⟩ := blkP hBP3; obtain ⟨m0, m1, m2⟩ := cells3 hO3.out.b0)
            | (go_at_call 58; refine (go_grow { z with gRow := gRow, gCol := gCol } hzz.out (fill z.E z.ok rows z.C i).1 (fill z.E z.ok rows z.C i).2 i _ hlt hco ⟨(hO3.out.1.block _ hU.2).trans hU.1, Nat.lt_of_lt_of_le hU.2 hO3.out.1.size, Nat.le_trans hB hO3.out.1.size, hN.below (hO3.out.1.mono hB), hRr.call hb3, hRc.call hb3⟩).mono ?_; rintro e w4 ⟨rfl, hm4, hco4, hf4⟩))
          go_roundw
          case rel => exact ⟨i + 1, by omega, by go_num, Lib.hid (hO3.out.fr hf4 hxs), hf4.blk hBP3 (by simp; omega), by rw [hfl]; exact hm4.2.2.2.2.1, by rw [hfl]; exact hm4.2.2.2.2.2, by rw [hfl]; exact hco4⟩
          case measure => simp [intOf]; omega
        · have hri : rows i = false := by simpa using hri
          have hfl : fill z.E z.ok rows z.C (i + 1) = fill z.E z.ok rows z.C i := by show (if _ then _ else _) = _; rw [if_neg (by rw [hri]; simp)]
          go_wp2_with ((with_reducible refine (hfr2.out _ i ?_ hlt).mono ?_); (focus exact hVr); rintro e w3 ⟨rfl, hb3⟩; rw [hri])
          go_roundw
          case rel => exact ⟨i + 1, by omega, by go_num, Lib.hid (hO.out.call hb3), hBP.call hb3, by rw [hfl]; exact hRr.call hb3, by rw [hfl]; exact hRc.call hb3, by rw [hfl]; exact hco⟩
          case measure => simp [intOf]; omega
      · have hin : i = z.R := by omega
        have hc0 := hBP.cell 0
        have hc1 := hBP.cell 1
        have hb1 := hO.out.b1
        have hd0 := blkP hb1
        go_wp2_with fail
        clear hd0
        have hfin := hb1.setP (.slice (some ⟨gRow, 0, none⟩) z.R z.R) (.slice (some ⟨gCol, 0, none⟩) z.C z.C)
        obtain ⟨f0, f1, -⟩ := blkP hfin
        subst hin
        refine bodyPost_ret (v := .agg #[.slice (some ⟨gRow, 0, none⟩) z.R z.R, .slice (some ⟨gCol, 0, none⟩) z.C z.C]) (by simp [results, Try.results39, go_sem, f0, f1]) rfl ⟨gRow, gCol, by omega, by omega, hRC', rfl, hRr.setP (by omega) _ _, hRc.setP (by omega) _ _, (hO.out.1.setCell (by show _ ≤ w.heap.size + 1; omega) _).setCell (by show _ ≤ w.heap.size + 1; omega) _⟩

end Go.Proofs.Ytjbhnfejpgjghaa
