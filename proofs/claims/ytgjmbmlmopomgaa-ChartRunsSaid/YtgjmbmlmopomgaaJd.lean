/- The reference's enter, a method that calls itself. -/
import Derived.Test.YtgjmbmlmopomgaaDc
namespace Go.Proofs.Ytgjmbmlmopomgaa
open Go.RowKit Go.Maps Lib
set_option linter.unusedSimpArgs false
set_option linter.unusedVariables false

/-- where a reaction's variables lie -/
structure QP where
  c : CV
  w0 : World
  gR : Nat
  gS : Nat
  gF : Nat
  gE : Nat
  capS : Nat
  capF : Nat
def QP.xs (z : QP) : List Nat := [z.gS, z.gF, z.gE]
structure QP.Fine (z : QP) : Prop where
  six : z.c.n ≤ 6
  low : Low z.c.l
  ok : z.c.ok z.w0
  b : z.w0.heap.size ≤ z.gS ∧ z.w0.heap.size ≤ z.gF ∧ z.w0.heap.size ≤ z.gE
  sf : z.gS ≠ z.gF
  se : z.gS ≠ z.gE
  fe : z.gF ≠ z.gE
  rs : z.gR ≠ z.gS
  rf : z.gR ≠ z.gF
  re : z.gR ≠ z.gE
/-- a reaction under way -/
structure QS (z : QP) (x : RS) (vO : Value) (w : World) : Prop where
  lo : Below z.w0.heap.size z.w0 w
  bR : Blk w z.gR 90 #[.slice z.c.A z.c.n z.c.c, .slice (some ⟨z.gS, 0, none⟩) z.c.n z.capS, .slice (some ⟨z.gF, 0, none⟩) z.c.n z.capF, vO, .slice (some ⟨z.gE, 0, none⟩) z.c.n z.c.n]
  rS : RW w 3 z.gS z.c.n z.capS (iv x.S)
  rF : RW w 4 z.gF z.c.n z.capF (bv x.F)
  rE : RW w 4 z.gE z.c.n z.c.n (bv x.E)
section
variable {z : QP} {x : RS} {vO : Value} {w w' : World}
theorem QS.call (h : QS z x vO w) (hb : Below w.heap.size w w') : QS z x vO w' :=
  ⟨h.lo.trans (hb.mono h.lo.size), h.bR.call hb, h.rS.call hb, h.rF.call hb, h.rE.call hb⟩
theorem QS.more (h : QS z x vO w) (o : Obj) : QS z x vO (w.alloc o) := h.call ((Below.refl _ _).alloc (Nat.le_refl _) _)
theorem QS.drew (h : QS z x vO w) : QS z x vO w.drew := h.call (Below.refl _ _).drew
theorem QS.setS (hz : z.Fine) (h : QS z x vO w) (i : Nat) (v : Int) : QS z ⟨upd x.S i v, x.F, x.E⟩ vO (w.setCell ⟨z.gS, i, none⟩ (.int .i64 v)) :=
  ⟨h.lo.setCell (p := ⟨z.gS, i, none⟩) hz.b.1 _, h.bR.far hz.rs _, h.rS.setI i v, h.rF.other hz.sf.symm _ _, h.rE.other hz.se.symm _ _⟩
theorem QS.setF (hz : z.Fine) (h : QS z x vO w) (i : Nat) (v : Bool) : QS z ⟨x.S, upd x.F i v, x.E⟩ vO (w.setCell ⟨z.gF, i, none⟩ (.bool v)) :=
  ⟨h.lo.setCell (p := ⟨z.gF, i, none⟩) hz.b.2.1 _, h.bR.far hz.rf _, h.rS.other hz.sf _ _, h.rF.setB i v, h.rE.other hz.fe.symm _ _⟩
theorem QS.setE (hz : z.Fine) (h : QS z x vO w) (i : Nat) (v : Bool) : QS z ⟨x.S, x.F, upd x.E i v⟩ vO (w.setCell ⟨z.gE, i, none⟩ (.bool v)) :=
  ⟨h.lo.setCell (p := ⟨z.gE, i, none⟩) hz.b.2.2 _, h.bR.far hz.re _, h.rS.other hz.se _ _, h.rF.other hz.fe _ _, h.rE.setB i v⟩
theorem QS.chart (hz : z.Fine) (h : QS z x vO w) : z.c.ok w := hz.ok.below h.lo (Nat.le_refl _)
end
theorem blk5 {w : World} {g : Nat} {t : TypeId} {a b c d e : Value} (h : Blk w g t #[a, b, c, d, e]) :
    w.cell? ⟨g, 0, none⟩ = some a ∧ w.cell? ⟨g, 1, none⟩ = some b ∧ w.cell? ⟨g, 2, none⟩ = some c ∧ w.cell? ⟨g, 3, none⟩ = some d ∧ w.cell? ⟨g, 4, none⟩ = some e :=
  ⟨h.cell 0, h.cell 1, h.cell 2, h.cell 3, h.cell 4⟩

/-- the loop over the machines -/
def QL (z : QP) (keep : Bool) (f k : Nat) (s : Int) (x : RS) (vO : Value) (w : World) (v : Value) (wr : World) : Prop :=
  ∃ i : Nat, i ≤ z.c.n ∧ v = .int .i64 i ∧ QS z (kids z.c.l keep (ent z.c.l keep f) k s i (x.put k s)) vO wr ∧ Fr z.xs w wr

set_option maxRecDepth 100000 in
set_option maxHeartbeats 4000000 in
theorem r_enter (z : QP) (hz : z.Fine) (keep : Bool) (vO : Value) : ∀ f k s x w, k < z.c.n → z.c.n ≤ k + f → QS z x vO w →
    Calls Try.prog 57 #[.pointer (some ⟨z.gR, 0, none⟩), .int .i64 (k : Int), .int .i64 s, .bool keep] w fun e w' => e = .returned (.tuple #[]) ∧ QS z (ent z.c.l keep f k (x.put k s)) vO w' ∧ Fr z.xs w w' := by
  intro f
  induction f with
  | zero => intro k s x w h1 h2; omega
  | succ f ih =>
    intro k s x w hm hf hs
    replace ih := fun j s' x' w' (hk : k < j) (hkn : j < z.c.n) => ih j s' x' w' hkn (by omega)
    have hent : Hid (ent z.c.l keep (f + 1) k (x.put k s) = kids z.c.l keep (ent z.c.l keep f) k s z.c.n (x.put k s)) := by
      show _ = _
      rw [ent, hz.ok.1]
      congr 1
      exact upd_same _ _ _
    have h6 := hz.six
    have hn1 : z.c.n ≤ 17592186044416 := by omega
    obtain ⟨-, r1, -, -, -⟩ := blk5 hs.bR
    have sc := hs.rS.cell hm
    have sf := hs.rS.frozen k
    have hS6 := hs.setS hz k s
    obtain ⟨-, -, r2, -, -⟩ := blk5 hS6.bR
    have fc := hS6.rF.cell hm
    have ff := hS6.rF.frozen k
    have hS7 := hS6.setF hz k true
    obtain ⟨-, -, -, -, r4⟩ := blk5 hS7.bR
    have ec := hS7.rE.cell hm
    have ef := hS7.rE.frozen k
    have hS8 := hS7.setE hz k true
    obtain ⟨r0, -, -, -, -⟩ := blk5 hS8.bR
    have hf8 := ((((Fr.refl z.xs w).set (p := ⟨z.gS, k, none⟩) (by simp [QP.xs]) (.int .i64 s)).set (p := ⟨z.gF, k, none⟩) (by simp [QP.xs]) (.bool true)).set (p := ⟨z.gE, k, none⟩) (by simp [QP.xs]) (.bool true))
    have hcs : Hid (z.c.A = z.c.A) := rfl
    replace ih := Lib.hid ih
    replace hS6 := Lib.hid hS6
    replace hS7 := Lib.hid hS7
    replace hs := Lib.hid hs
    obtain ⟨w8, hw8⟩ : ∃ w8, w8 = ((w.setCell ⟨z.gS, k, none⟩ (.int .i64 s)).setCell ⟨z.gF, k, none⟩ (.bool true)).setCell ⟨z.gE, k, none⟩ (.bool true) := ⟨_, rfl⟩
    rw [← hw8] at hS8 hf8
    have hS8' := Lib.hid hS8
    replace hf8 := Lib.hid hf8
    clear hS8
    go_enter Try.func57, Try.ntmps57
    go_wp2_with fail
    rw [← hw8]
    clear hw8 r0 r1 r2 r4 sc sf fc ff ec ef hs hS6 hS7
    go_loopw [38] (fun v38 wr => QL z keep f k s x vO w v38 wr) (fun i _ => z.c.n - (intOf i).toNat)
    case atStart => exact ⟨0, by omega, rfl, hS8'.out, hf8.out⟩
    case round =>
      obtain ⟨i, hi, rfl, hS, hfr⟩ := hrel
      by_cases hlt : i < z.c.n
      · obtain ⟨g, o, n, hA, hg, hn, hmo, c0, c1, c2, c3, c4⟩ := (hS.chart hz).cell hlt
        have hkid : Hid (kids z.c.l keep (ent z.c.l keep f) k s (i + 1) (x.put k s) = kid z.c.l keep (ent z.c.l keep f) k s i (kids z.c.l keep (ent z.c.l keep f) k s i (x.put k s))) := rfl
        obtain ⟨y, hy⟩ : ∃ y, y = kids z.c.l keep (ent z.c.l keep f) k s i (x.put k s) := ⟨_, rfl⟩
        rw [← hy] at hS hkid
        clear hy
        obtain ⟨om, os, ⟨tA, tn, tc, tl⟩, fst, ⟨mA, mn, mc, ml⟩⟩ := n
        simp only at hA c0 c1 c2 c3 c4 hn
        clear hmo
        have hlm := fun h => owned_low (m := k) (s := s) hz.low hn h
        have hk2 : Hid (kids z.c.l keep (ent z.c.l keep f) k s (i + 1) (x.put k s) = if owned ⟨om, os, ⟨tA, tn, tc, tl⟩, fst, ⟨mA, mn, mc, ml⟩⟩ k s = true then ent z.c.l keep f i (y.put i (if keep = true then y.S i else fst)) else y) := by
          show _ = _
          rw [hkid.out]
          unfold kid
          simp only [hn]
        have how : owned ⟨om, os, ⟨tA, tn, tc, tl⟩, fst, ⟨mA, mn, mc, ml⟩⟩ k s = (om == (k : Int) && os == s) := rfl
        rw [how] at hk2 hlm
        clear how hkid
        have hA' := Lib.hid hA
        rw [hA]
        clear hA
        have hO4 := Lib.hid (Own.one wr 50 #[.int .i64 om, .int .i64 os, .slice tA tn tc, .int .i64 fst, .slice mA mn mc])
        have hS4 := Lib.hid (hS.more (.cells #[.int .i64 om, .int .i64 os, .slice tA tn tc, .int .i64 fst, .slice mA mn mc] 50))
        have hf4 := Lib.hid (hfr.alloc (.cells #[.int .i64 om, .int .i64 os, .slice tA tn tc, .int .i64 fst, .slice mA mn mc] 50))
        obtain ⟨-, r1, -, -, -⟩ := blk5 hS4.out.bR
        have sc := hS4.out.rS.cell hlt
        replace hS := Lib.hid hS
        replace hfr := Lib.hid hfr
        replace hn := Lib.hid hn
        cases b1 : (om == (k : Int)) with
        | false =>
          simp only [b1, Bool.false_and] at hk2
          rw [if_neg (by simp)] at hk2
          have b1n : (om != (k : Int)) = true := by simp only [bne, b1, Bool.not_false]
          have b1d : decide (om = (k : Int)) = false := decide_eq_false (by simpa using b1)
          have b1e : ¬ om = (k : Int) := by simpa using b1
          go_wp2_with fail
          go_roundw
          case rel => exact ⟨i + 1, hlt, by go_num, by rw [hk2.out]; exact hS4.out, hf4.out⟩
          case measure => simp [intOf]; omega
        | true =>
          obtain rfl : om = (k : Int) := by simpa using b1
          cases b2 : (os == s) with
          | false =>
            simp only [b1, b2, Bool.and_false] at hk2
            rw [if_neg (by simp)] at hk2
            have b2n : (os != s) = true := by simp only [bne, b2, Bool.not_false]
            have b2e : ¬ os = s := by simpa using b2
            go_wp2_with fail
            go_roundw
            case rel => exact ⟨i + 1, hlt, by go_num, by rw [hk2.out]; exact hS4.out, hf4.out⟩
            case measure => simp [intOf]; omega
          | true =>
            have hmi := hlm (by simp only [b1, b2, Bool.and_true])
            obtain rfl : os = s := by simpa using b2
            rw [if_pos (by simp)] at hk2
            have b3 : ((i : Int) == (k : Int)) = false := by
              rw [beq_eq_false_iff_ne]; omega
            have b4 : (i == k) = false := by
              rw [beq_eq_false_iff_ne]; omega
            have b5 : decide (i = k) = false := by
              rw [decide_eq_false_iff_not]; omega
            cases keep with
            | false =>
              rw [if_neg (by simp)] at hk2
              have hcall := ih.out i fst y _ hmi hlt hS4.out
              go_wp2_with (go_at_call 57; refine hcall.mono ?_; rintro e w9 ⟨rfl, hS9, hf9⟩; have hf10 := Lib.hid (hf4.out.trans hf9); replace hS9 := Lib.hid hS9)
              go_roundw
              case rel => exact ⟨i + 1, hlt, by go_num, by rw [hk2.out]; exact hS9.out, hf10.out⟩
              case measure => simp [intOf]; omega
            | true =>
              rw [if_pos (by simp)] at hk2
              have hcall := ih.out i (y.S i) y _ hmi hlt hS4.out
              have sc2 : iv y.S i = .int .i64 (y.S i) := rfl
              rw [sc2] at sc
              go_wp2_with (go_at_call 57; refine hcall.mono ?_; rintro e w9 ⟨rfl, hS9, hf9⟩; have hf10 := Lib.hid (hf4.out.trans hf9); replace hS9 := Lib.hid hS9)
              go_roundw
              case rel => exact ⟨i + 1, hlt, by go_num, by rw [hk2.out]; exact hS9.out, hf10.out⟩
              case measure => simp [intOf]; omega
      · obtain rfl : i = z.c.n := by omega
        rw [← hent.out] at hS
        replace hS := Lib.hid hS
        replace hfr := Lib.hid hfr
        go_wp2_with fail
        exact bodyPost_norm (by simp [results, Try.results57, go_sem]) rfl ⟨rfl, hS.out, hfr.out⟩

end Go.Proofs.Ytgjmbmlmopomgaa
