/- The least maximum matching: Least. -/
import Derived.Test.YtjbhnfejpgjghaaMi
namespace Go.Proofs.Ytjbhnfejpgjghaa
open Go.RowKit
set_option linter.unusedSimpArgs false
set_option linter.unusedVariables false

def PL (R C : Nat) (E : List (List Nat)) (w : World) (e : Ending) (w' : World) : Prop :=
  ∃ g : Nat, w.heap.size ≤ g ∧ e = .returned (.slice (some ⟨g, 0, none⟩) R R) ∧ RF w' g R (lst E R C R).out ∧ Below w.heap.size w w'

/-- a set in its box -/
def Set1 (w : World) (g : Nat) (u : Nat → Bool) : Prop := ∃ s s1 : Nat, s < 18446744073709551616 ∧ Blk w g 55 #[.int .u64 (s : Int), .int .u64 (s1 : Int)] ∧ ∀ k, k < 64 → s.testBit k = u k

/-- what holds throughout -/
def LW (w : World) (m : Array Value) (R : Nat) (gO gU : Nat) (out : Nat → Int) (used : Nat → Bool) (wr : World) : Prop :=
  Hid (Own w [(33, m)] wr) ∧ RF wr gO R out ∧ Set1 wr gU used

theorem LW.call {w wr w' : World} {m R gO gU out used} (h : LW w m R gO gU out used wr) (hb : Below wr.heap.size wr w') : LW w m R gO gU out used w' := by
  obtain ⟨h1, h2, s, s1, h3, h4, h5⟩ := h
  exact ⟨Lib.hid (h1.out.call hb), h2.call hb, s, s1, h3, h4.call hb, h5⟩
theorem LW.more {w wr : World} {m R gO gU out used} (h : LW w m R gO gU out used wr) (o : Obj) : LW w m R gO gU out used (wr.alloc o) := h.call ((Below.refl _ _).alloc (Nat.le_refl _) _)

theorem LW.store {w wx : World} {m : Array Value} {R gO gU : Nat} {out : Nat → Int} {used used' : Nat → Bool} (h : LW w m R gO gU out used wx) (hO : w.heap.size + 1 ≤ gO) (hU : w.heap.size + 1 ≤ gU) (hne : gO ≠ gU) (i k r s s1 : Nat)
    (hb : Blk wx gU 55 #[.int .u64 (s : Int), .int .u64 (s1 : Int)]) (hr : r < 18446744073709551616) (hrb : ∀ j, j < 64 → r.testBit j = used' j) :
    LW w m R gO gU (upd out i (k : Int)) used' (((wx.setCell ⟨gO, i, none⟩ (.int .i64 (k : Int))).setCell ⟨gU, 0, none⟩ (.int .u64 (r : Int))).setCell ⟨gU, 1, none⟩ (.int .u64 (s1 : Int))).drew := by
  have hf : Fr [gO, gU] wx (((wx.setCell ⟨gO, i, none⟩ (.int .i64 (k : Int))).setCell ⟨gU, 0, none⟩ (.int .u64 (r : Int))).setCell ⟨gU, 1, none⟩ (.int .u64 (s1 : Int))).drew := ((((Fr.refl _ _).set (by simp) _).set (by simp) _).set (by simp) _).drew
  refine ⟨Lib.hid (h.1.out.fr hf (by simp; omega)), ?_, r, s1, hr, ?_, hrb⟩
  · exact (((h.2.1.set i (k : Int)).other hne _ _).other hne _ _).drew
  · exact ((hb.far (p := ⟨gO, i, none⟩) (by show gU ≠ gO; omega) _).setP _ _).drew

/-- rows under way -/
def LR1 (E : List (List Nat)) (w : World) (m : Array Value) (R C : Nat) (gO gU : Nat) (v6 v21 : Value) (wr : World) : Prop :=
  ∃ i : Nat, i ≤ R ∧ v21 = .int .i64 (i : Int) ∧ v6 = .int .i64 (lst E R C i).left ∧ LW w m R gO gU (lst E R C i).out (lst E R C i).used wr

/-- one row's columns under way -/
def LR2 (E : List (List Nat)) (w : World) (m : Array Value) (R C i : Nat) (l : List Nat) (gO gU gI : Nat) (v6 v30 : Value) (wr : World) : Prop :=
  ∃ j : Nat, j ≤ l.length ∧ v30 = .int .i64 (j : Int) ∧ v6 = .int .i64 (lst E R C i).left ∧ Hid (lrow E R C i (lst E R C i).used (lst E R C i).left l = lrow E R C i (lst E R C i).used (lst E R C i).left (l.drop j)) ∧ LW w m R gO gU (lst E R C i).out (lst E R C i).used wr ∧ Blk wr gI 3 #[.int .i64 (i : Int)]

set_option maxRecDepth 100000 in
set_option maxHeartbeats 1000000 in
theorem m_least {R C : Nat} {E : List (List Nat)} (hI : Inc R C E) (B : Nat) (AE : Option Addr) (nE cE : Nat) (w : World) (hB : B ≤ w.heap.size) (hN : N2 B w AE nE cE E) :
    Calls Try.prog 50 #[.agg #[.int .i64 (R : Int), .int .i64 (C : Int), .slice AE nE cE]] w (PL R C E w) := by
  have hu := Try.underlying55
  have hu2 := Try.underlying62
  have hR := hI.1
  have hC := hI.2.1
  have hI' := Lib.hid hI
  have hn : R = nE := by have := hN.1; have := hI.2.2.1; omega
  subst hn
  have hO0 := Lib.hid (Own.one w 33 #[.int .i64 (R : Int), .int .i64 (C : Int), .slice AE R cE])
  have hW1 : Calls Try.prog 39 #[.agg #[.int .i64 (R : Int), .int .i64 (C : Int), .slice AE R cE], .func (.func 43) #[] #[], .func (.func 43) #[] #[]] (w.alloc (.cells #[.int .i64 (R : Int), .int .i64 (C : Int), .slice AE R cE] 33)) (PMx R C E (fun _ => true) (fun _ => true) (w.alloc (.cells #[.int .i64 (R : Int), .int .i64 (C : Int), .slice AE R cE] 33))) :=
    match_all hI B AE R cE _ w.heap.size (.cells #[.int .i64 (R : Int), .int .i64 (C : Int), .slice AE R cE] 33 (0, 0)) ⟨hO0.out.b0, hO0.out.b0.lt⟩ (Nat.le_trans hB hO0.out.1.size) (hN.below (hO0.out.1.mono hB))
  have hW1' := Lib.hid hW1
  clear hW1 hI
  go_enter Try.func50, Try.ntmps50
  go_wp2_with (first
    | (go_at_call 39; (with_reducible refine hW1'.out.mono ?_); rintro e w2 ⟨gr, gc, hr1, hr2, hr3, rfl, hRr, hRc, hb2⟩; have hO2 := Lib.hid (hO0.out.call hb2))
    | (go_at_call 42; refine (m_size gr gc R C _ (by omega) _ hRr).mono ?_; rintro e w3 ⟨rfl, hb3⟩; have hO3 := Lib.hid (hO2.out.call hb3); obtain ⟨m0, m1, m2⟩ := cells3 hO3.out.b0)
    | (go_at_call 57; refine (m_none R (by omega) _).mono ?_; rintro e w4 ⟨gO, hgO, rfl, hrO, hb4⟩; have hO4 := Lib.hid (hO3.out.call hb4); obtain ⟨m0, m1, m2⟩ := cells3 (hO4.out.more (.cells #[.int .u64 0, .int .u64 0] 55)).b0))
  have hgOU : gO < w4.heap.size := hrO.lt
  have hgO1 : w.heap.size + 1 ≤ gO := by have h : w.heap.size + 1 ≤ w3.heap.size := hO3.out.2.1; omega
  obtain ⟨gU, hgU⟩ : ∃ gU, gU = w4.heap.size := ⟨_, rfl⟩
  have hLW : LW w #[.int .i64 (R : Int), .int .i64 (C : Int), .slice AE R cE] R gO gU (lst E R C 0).out (lst E R C 0).used (w4.alloc (.cells #[.int .u64 0, .int .u64 0] 55)) := by
    refine ⟨Lib.hid (hO4.out.more _), hrO.more _, 0, 0, by omega, ?_, fun k _ => by simp [lst]⟩
    rw [hgU]
    exact Blk.new _ _ _
  obtain ⟨w5, hw5⟩ : ∃ w5, w5 = w4.alloc (.cells #[.int .u64 0, .int .u64 0] 55) := ⟨_, rfl⟩
  rw [← hw5] at hLW m0 m1 m2 ⊢
  rw [← hgU] at hgOU ⊢
  clear hw5 hgU hO4 hb4 hrO hgO hb3 hO3 hO2 hb2 hRc hRr hr1 hr2 hr3 hW1' hO0 m0 m1 m2
  go_loopw [6, 21] (fun v6 v21 wr => LR1 E w #[.int .i64 (R : Int), .int .i64 (C : Int), .slice AE R cE] R C gO gU v6 v21 wr) (fun _ i _ => R - (intOf i).toNat)
  case atStart => exact ⟨0, by omega, rfl, rfl, hLW⟩
  case round =>
    clear hLW
    obtain ⟨i, hi, rfl, rfl, hLW⟩ := hrel
    by_cases hlt : i < R
    · have hLi := hLW.more (.cells #[.int .i64 (i : Int)] 3)
      have hIi : Blk (wr.alloc (.cells #[.int .i64 (i : Int)] 3)) wr.heap.size 3 #[.int .i64 (i : Int)] := Blk.new _ _ _
      have hNi : N2 B (wr.alloc (.cells #[.int .i64 (i : Int)] 3)) AE R cE E := hN.below (hLi.1.out.1.mono hB)
      obtain ⟨m0, m1, m2⟩ := cells3 hLi.1.out.b0
      obtain ⟨gE, oE, l, A', n', c', hAE, hl, hcE, hl1⟩ := hNi.cell (j := i) hlt
      subst hAE
      have hEi : E.getD i [] = l := by rw [List.getD_eq_getElem?_getD, hl]; rfl
      have hll : ∀ k ∈ l, k < C := hI'.out.2.2.2 l (List.mem_of_getElem? hl)
      have hlen := hl1.1
      have hln := hl1.2.1
      have hcI : (wr.alloc (.cells #[.int .i64 (i : Int)] 3)).cell? ⟨wr.heap.size, 0, none⟩ = some (.int .i64 (i : Int)) := hIi.cell 0
      have hiR : (i : Int) < (R : Int) := by omega
      have hLR : LR2 E w #[.int .i64 (R : Int), .int .i64 (C : Int), .slice (some ⟨gE, oE, none⟩) R cE] R C i l gO gU wr.heap.size (.int .i64 (lst E R C i).left) (.int .i64 0) (wr.alloc (.cells #[.int .i64 (i : Int)] 3)) := ⟨0, by omega, rfl, rfl, rfl, hLi, hIi⟩
      have hgIU : gO ≠ wr.heap.size ∧ gU ≠ wr.heap.size := by
        have h1 := hLW.2.1.lt
        obtain ⟨s, s1, -, h2, -⟩ := hLW.2.2
        have h2 := h2.lt
        omega
      have hlen' := Lib.hid hlen
      have hl1' := Lib.hid hl1
      have hEi' := Lib.hid hEi
      have hrb : Own w [(33, #[.int .i64 (R : Int), .int .i64 (C : Int), .slice (some ⟨gE, oE, none⟩) R cE])] wr := hLW.1.out
      have hrb' := Lib.hid hrb
      clear hlen hl1 hEi hl hNi hLi hIi hLW hrb
      obtain ⟨gI, hgI⟩ : ∃ gI, gI = wr.heap.size := ⟨_, rfl⟩
      have hbw : ∀ wx : World, Own w [(33, #[.int .i64 (R : Int), .int .i64 (C : Int), .slice (some ⟨gE, oE, none⟩) R cE])] wx → N1 B wx A' n' c' l := fun wx h => hl1'.out.same fun k hk => (h.1.block k (by omega)).trans ((hrb'.out.more (.cells #[.int .i64 (i : Int)] 3)).1.block k (by omega)).symm
      have hbw' := Lib.hid hbw
      clear hbw
      go_upto_region 9 with fail
      rw [← hgI] at hLR hgIU ⊢
      clear hgI hcI hcE m0 m1 m2 hl1' hrb'
      obtain ⟨wi, hwi⟩ : ∃ wi, wi = wr.alloc (.cells #[.int .i64 (i : Int)] 3) := ⟨_, rfl⟩
      rw [← hwi] at hLR ⊢
      clear hwi
      obtain ⟨le, hle⟩ : ∃ le, le = (lst E R C i).left := ⟨_, rfl⟩
      have hleb := lst_left E R C i
      rw [← hle] at hleb hLR ⊢
      go_loopw [6, 30] (fun v6 v30 wr => LR2 E w #[.int .i64 (R : Int), .int .i64 (C : Int), .slice (some ⟨gE, oE, none⟩) R cE] R C i l gO gU gI v6 v30 wr) (fun _ j _ => n' - (intOf j).toNat)
      case atStart => exact hLR
      case round =>
        clear hLR
        obtain ⟨j, hj, rfl, rfl, hdr, hLx, hIx⟩ := hrel
        rw [← hle]
        have hle' := Lib.hid hle
        clear hle
        have hlx := hbw'.out _ hLx.1.out
        by_cases hjl : j < n'
        · obtain ⟨gl, ol, k, hA', hk, hck⟩ := hlx.cell hjl
          have hkC : k < C := hll k (List.mem_of_getElem? hk)
          have hd : l.drop j = k :: l.drop (j + 1) := by
            have h1 := (List.getElem?_eq_some_iff.1 hk).1
            rw [List.drop_eq_getElem_cons h1]
            congr 1
            exact (List.getElem?_eq_some_iff.1 hk).2
          have hjl2 : j < l.length := by rw [hlen'.out]; exact hjl
          rw [hd] at hdr
          obtain ⟨s, s1, hs64, hbS, htb⟩ := hLx.2.2
          have cS0 : wr.cell? ⟨gU, 0, none⟩ = some (.int .u64 (s : Int)) := hbS.cell 0
          have cS1 : wr.cell? ⟨gU, 1, none⟩ = some (.int .u64 (s1 : Int)) := hbS.cell 1
          have htk := Lib.hid (htb k (by omega))
          have htb' := Lib.hid htb
          clear htb
          subst hA'
          by_cases hus : (lst E R C i).used k = true
          · have htk' : s.testBit k = true := by rw [htk.out, hus]
            have hdr2 : Hid (lrow E R C i (lst E R C i).used (lst E R C i).left l = lrow E R C i (lst E R C i).used (lst E R C i).left (l.drop (j + 1))) := by
              show _ = _
              rw [hdr.out, lrow, if_pos hus]
            go_wp2_with (first
              | (go_at_call 33; refine (m_has s s1 k _ (by omega) hs64).mono ?_; rintro e w6 ⟨rfl, hb6⟩; rw [htk']))
            exact ⟨⟨j + 1, by omega, by go_num, by rw [hle'.out], hdr2, hLx.call hb6, hIx.call hb6⟩, by simp [intOf]; omega⟩
          · have hus : (lst E R C i).used k = false := by simpa using hus
            have htk' : s.testBit k = false := by rw [htk.out, hus]
            have hr64 := or_bit hs64 (show k < 64 by omega)
            obtain ⟨r, hr⟩ : ∃ r, r = s ||| 2 ^ k := ⟨_, rfl⟩
            have hrb : ∀ j, j < 64 → r.testBit j = upd (lst E R C i).used k true j := by
              intro j hj
              rw [hr, testBit_or]
              unfold upd
              rw [htb'.out j hj]
            have hmw := m_with s s1 k
            rw [← hr] at hr64 hmw
            have hmw' := Lib.hid hmw
            have hrb' := Lib.hid hrb
            have hm1 := Lib.hid (match_rest hI'.out B (some ⟨gE, oE, none⟩) R cE)
            have hw0 := hLx.1.out.2.1
            clear hmw hrb hr
            obtain ⟨cq, hcq⟩ : ∃ cq, cq = cnt (fill E (fun c => !(upd (lst E R C i).used k true) c) (fun r => decide (i < r)) C R).1 R := ⟨_, rfl⟩
            have hcqb := cnt_le (fill E (fun c => !(upd (lst E R C i).used k true) c) (fun r => decide (i < r)) C R).1 R
            have hsz : ∀ (gr gc : Nat) (wz : World), RF wz gr R (fill E (fun c => !(upd (lst E R C i).used k true) c) (fun r => decide (i < r)) C R).1 → _ := fun gr gc wz h => m_size gr gc R C _ (by omega) wz h
            rw [← hcq] at hcqb hsz
            have hsz' := Lib.hid hsz
            have hcq' := Lib.hid hcq
            clear hsz hcq
            by_cases hq : (cq : Int) = le - 1
            · have hq' : ((cq : Int) == le - 1) = true := by simpa using hq
              have hdr2 : Hid (lrow E R C i (lst E R C i).used (lst E R C i).left l = some k) := by
                show _ = _
                rw [hdr.out, lrow, if_neg (by rw [hus]; simp), if_pos]
                show ((cnt _ R : Nat) : Int) = _
                rw [← hcq'.out, ← hle'.out]
                exact hq
              go_upto_region 15 with (first
                | (go_at_call 33; refine (m_has s s1 k _ (by omega) hs64).mono ?_; rintro e w6 ⟨rfl, hb6⟩; rw [htk']; have hL6 := hLx.call hb6; have hbS6 := hbS.call hb6; obtain ⟨q0, q1, -⟩ := blkP hbS6)
                | (go_at_call 34; refine (hmw'.out _ (by omega) hs64).mono ?_; rintro e w7 ⟨rfl, hb7⟩; have hL8 := (hL6.call hb7).more (.cells #[.int .u64 (r : Int), .int .u64 (s1 : Int)] 55); have hI8 := (((hIx.call hb6).call hb7).alloc (.cells #[.int .u64 (r : Int), .int .u64 (s1 : Int)] 55)); obtain ⟨m0, m1, m2⟩ := cells3 hL8.1.out.b0; have hW2 := Lib.hid (hm1.out _ gI w7.heap.size i r s1 _ hr64 hrb'.out hlt hI8 (Blk.new w7 55 #[.int .u64 (r : Int), .int .u64 (s1 : Int)]) (Nat.le_trans hB hL8.1.out.1.size) (hN.below (hL8.1.out.1.mono hB))))
                | (go_at_call 39; (with_reducible refine hW2.out.mono ?_); rintro e w9 ⟨gr, gc, hr1, hr2, hr3, rfl, hRr, hRc, hb9⟩; have hL9 := hL8.call hb9; have hI9 := hI8.call hb9; have hbS9 := (((hbS6.call hb7).alloc (.cells #[.int .u64 (r : Int), .int .u64 (s1 : Int)] 55)).call hb9); have hbU9 := (Blk.new w7 55 #[.int .u64 (r : Int), .int .u64 (s1 : Int)]).call hb9)
                | (go_at_call 42; refine (hsz'.out gr gc _ (hRr.more _)).mono ?_; rintro e w10 ⟨rfl, hb10⟩; have hL10 := (hL9.more (.cells #[.slice (some ⟨gr, 0, none⟩) R R, .slice (some ⟨gc, 0, none⟩) C C] 62)).call hb10; have hI10 := (hI9.alloc (.cells #[.slice (some ⟨gr, 0, none⟩) R R, .slice (some ⟨gc, 0, none⟩) C C] 62)).call hb10; have hbS10 := (hbS9.alloc (.cells #[.slice (some ⟨gr, 0, none⟩) R R, .slice (some ⟨gc, 0, none⟩) C C] 62)).call hb10; have hbU10 := (hbU9.alloc (.cells #[.slice (some ⟨gr, 0, none⟩) R R, .slice (some ⟨gc, 0, none⟩) C C] 62)).call hb10))
              obtain ⟨q0, q1, q2, q3, -⟩ := blkP hbS10
              obtain ⟨v0, v1, -⟩ := blkP hbU10
              have hcI : w10.cell? ⟨gI, 0, none⟩ = some (.int .i64 (i : Int)) := hI10.cell 0
              have hcO := hL10.2.1.cell hlt
              have hfO := hL10.2.1.frozen i
              have hS11 : ∀ n, Blk ((w10.drewN n).setCell ⟨gO, i, none⟩ (.int .i64 (k : Int))) gU 55 #[.int .u64 (s : Int), .int .u64 (s1 : Int)] := fun n => (hbS10.drewN n).far (p := ⟨gO, i, none⟩) (by show gU ≠ gO; omega) _
              have hU11 : ∀ n, Blk ((w10.drewN n).setCell ⟨gO, i, none⟩ (.int .i64 (k : Int))) w7.heap.size 55 #[.int .u64 (r : Int), .int .u64 (s1 : Int)] := fun n => (hbU10.drewN n).far (p := ⟨gO, i, none⟩) (by show w7.heap.size ≠ gO; have := (hL6.call hb7).2.1.lt; omega) _
              have hS12 : Blk (w10.setCell ⟨gO, i, none⟩ (.int .i64 (k : Int))) gU 55 #[.int .u64 (s : Int), .int .u64 (s1 : Int)] := hbS10.far (p := ⟨gO, i, none⟩) (by show gU ≠ gO; omega) _
              have hU12 : Blk (w10.setCell ⟨gO, i, none⟩ (.int .i64 (k : Int))) w7.heap.size 55 #[.int .u64 (r : Int), .int .u64 (s1 : Int)] := hbU10.far (p := ⟨gO, i, none⟩) (by show w7.heap.size ≠ gO; have := (hL6.call hb7).2.1.lt; omega) _
              obtain ⟨y0, y1, y2, y3, y4, y5⟩ := blkP hS12
              obtain ⟨x0, x1, -⟩ := blkP hU12
              have z0 : ∀ n, ((w10.drewN n).setCell ⟨gO, i, none⟩ (.int .i64 (k : Int))).cell? ⟨gU, 0, none⟩ = some (.int .u64 (s : Int)) := fun n => (hS11 n).cell 0
              have z1 : ∀ n, ((w10.drewN n).setCell ⟨gO, i, none⟩ (.int .i64 (k : Int))).cell? ⟨gU, 1, none⟩ = some (.int .u64 (s1 : Int)) := fun n => (hS11 n).cell 1
              have z2 : ∀ n, ((w10.drewN n).setCell ⟨gO, i, none⟩ (.int .i64 (k : Int))).frozen? ⟨gU, 0, none⟩ = false := fun n => (hS11 n).frozen 0
              have z3 : ∀ n, ((w10.drewN n).setCell ⟨gO, i, none⟩ (.int .i64 (k : Int))).frozen? ⟨gU, 1, none⟩ = false := fun n => (hS11 n).frozen 1
              have z4 : ∀ n u, (((w10.drewN n).setCell ⟨gO, i, none⟩ (.int .i64 (k : Int))).setCell ⟨gU, 0, none⟩ u).cell? ⟨gU, 1, none⟩ = some (.int .u64 (s1 : Int)) := fun n u => ((hS11 n).set 0 u).cell 1
              have z5 : ∀ n u, (((w10.drewN n).setCell ⟨gO, i, none⟩ (.int .i64 (k : Int))).setCell ⟨gU, 0, none⟩ u).frozen? ⟨gU, 1, none⟩ = false := fun n u => ((hS11 n).set 0 u).frozen 1
              have z6 : ∀ n, ((w10.drewN n).setCell ⟨gO, i, none⟩ (.int .i64 (k : Int))).cell? ⟨w7.heap.size, 0, none⟩ = some (.int .u64 (r : Int)) := fun n => (hU11 n).cell 0
              have z7 : ∀ n, ((w10.drewN n).setCell ⟨gO, i, none⟩ (.int .i64 (k : Int))).cell? ⟨w7.heap.size, 1, none⟩ = some (.int .u64 (s1 : Int)) := fun n => (hU11 n).cell 1
              go_region
              all_goals (try go_wp2_with fail)
              have hls : lst E R C (i + 1) = ⟨upd (lst E R C i).out i (k : Int), upd (lst E R C i).used k true, (lst E R C i).left - 1⟩ := by
                rw [lst, hEi'.out, hdr2.out]
              exact ⟨⟨i + 1, by omega, by go_num, by rw [hls, hle'.out], by rw [hls]; exact hL10.store hgO1 (by omega) (by omega) i k r s s1 hbS10 hr64 hrb'.out⟩, by simp [intOf]; omega⟩
            · have hq' : ((cq : Int) == le - 1) = false := by simpa using hq
              have hdr2 : Hid (lrow E R C i (lst E R C i).used (lst E R C i).left l = lrow E R C i (lst E R C i).used (lst E R C i).left (l.drop (j + 1))) := by
                show _ = _
                rw [hdr.out, lrow, if_neg (by rw [hus]; simp), if_neg]
                show ¬ ((cnt _ R : Nat) : Int) = _
                rw [← hcq'.out, ← hle'.out]
                exact hq
              go_wp2_with (first
                | (go_at_call 33; refine (m_has s s1 k _ (by omega) hs64).mono ?_; rintro e w6 ⟨rfl, hb6⟩; rw [htk']; have hL6 := hLx.call hb6; have hbS6 := hbS.call hb6; obtain ⟨q0, q1, -⟩ := blkP hbS6)
                | (go_at_call 34; refine (hmw'.out _ (by omega) hs64).mono ?_; rintro e w7 ⟨rfl, hb7⟩; have hL8 := (hL6.call hb7).more (.cells #[.int .u64 (r : Int), .int .u64 (s1 : Int)] 55); have hI8 := (((hIx.call hb6).call hb7).alloc (.cells #[.int .u64 (r : Int), .int .u64 (s1 : Int)] 55)); obtain ⟨m0, m1, m2⟩ := cells3 hL8.1.out.b0; have hW2 := Lib.hid (hm1.out _ gI w7.heap.size i r s1 _ hr64 hrb'.out hlt hI8 (Blk.new w7 55 #[.int .u64 (r : Int), .int .u64 (s1 : Int)]) (Nat.le_trans hB hL8.1.out.1.size) (hN.below (hL8.1.out.1.mono hB))))
                | (go_at_call 39; (with_reducible refine hW2.out.mono ?_); rintro e w9 ⟨gr, gc, hr1, hr2, hr3, rfl, hRr, hRc, hb9⟩; have hL9 := hL8.call hb9; have hI9 := hI8.call hb9)
                | (go_at_call 42; refine (hsz'.out gr gc _ (hRr.more _)).mono ?_; rintro e w10 ⟨rfl, hb10⟩; have hL10 := (hL9.more (.cells #[.slice (some ⟨gr, 0, none⟩) R R, .slice (some ⟨gc, 0, none⟩) C C] 62)).call hb10; have hI10 := (hI9.alloc (.cells #[.slice (some ⟨gr, 0, none⟩) R R, .slice (some ⟨gc, 0, none⟩) C C] 62)).call hb10))
              exact ⟨⟨j + 1, by omega, by go_num, by rw [hle'.out], hdr2, hL10, hI10⟩, by simp [intOf]; omega⟩
        · have hjn : j = n' := by have := hlen'.out; omega
          have hdn : l.drop j = [] := List.drop_eq_nil_of_le (by have := hlen'.out; omega)
          rw [hdn] at hdr
          have hls : lst E R C (i + 1) = lst E R C i := by
            rw [lst, hEi'.out, hdr.out, lrow]
          go_wp2_with fail
          exact ⟨⟨i + 1, by omega, by go_num, by rw [hls, hle'.out], by rw [hls]; exact hLx⟩, by simp [intOf]; omega⟩
    · have hin : i = R := by omega
      subst hin
      go_wp2_with fail
      go_ret
      exact ⟨gO, by omega, rfl, hLW.2.1, hLW.1.out.1⟩

end Go.Proofs.Ytjbhnfejpgjghaa
