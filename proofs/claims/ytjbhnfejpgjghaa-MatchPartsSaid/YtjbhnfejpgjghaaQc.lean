/- reachedRows$1: the closure that goes from a column to its rows and back by pairs. -/
import Derived.Test.YtjbhnfejpgjghaaQa
import Derived.Test.YtjbhnfejpgjghaaPe
namespace Go.Proofs.Ytjbhnfejpgjghaa
open Go.RowKit
set_option linter.unusedSimpArgs false
set_option linter.unusedVariables false

theorem contains_nat (l : List Nat) (k : Nat) : (l.map Int.ofNat).contains (k : Int) = l.contains k := by
  rw [Bool.eq_iff_iff]
  simp only [List.contains_iff_mem, List.mem_map]
  constructor
  · rintro ⟨a, ha, e⟩
    have e : (a : Int) = (k : Int) := e
    have : a = k := by omega
    rw [← this]; exact ha
  · intro h; exact ⟨k, h, rfl⟩
theorem contains_row {B : Nat} {w : World} {A : Option Addr} {n c : Nat} {l : List Nat} (h : N1 B w A n c l) (k : Nat) :
    Calls Try.prog 60 #[.slice A n c, .int .i64 (k : Int)] w fun e w' => e = .returned (.bool (l.contains k)) ∧ w' = w := by
  obtain ⟨h1, h2, h3⟩ := h
  rcases h3 with h3 | ⟨g, o, rfl, hg, hc⟩
  · subst h3
    have : l = [] := List.eq_nil_of_length_eq_zero h1
    subst this
    exact Try.slices_Contains_int_empty A c k w
  · refine (Try.slices_Contains_int g o n c (l.map Int.ofNat) k w (by simp; omega) (by omega) (fun j hj => ?_)).mono ?_
    · simp at hj
      rw [hc j l[j] (List.getElem?_eq_getElem hj)]
      simp [List.getD_eq_getElem?_getD, List.getElem?_map, List.getElem?_eq_getElem hj]
    · rintro e w' ⟨rfl, rfl⟩
      rw [List.take_of_length_le (by simp; omega), contains_nat]
      exact ⟨rfl, rfl⟩

/-- where all lies -/
structure CT where
  gC : Nat
  gM : Nat
  gR : Nat
  gP : Nat
  gG : Nat
  gRow : Nat
  gCol : Nat
  B : Nat
  AE : Option Addr
  cE : Nat
  R : Nat
  C : Nat
  E : List (List Nat)
  row : Nat → Int
  col : Nat → Int
def CT.caps (z : CT) : Array Value := #[.pointer (some ⟨z.gC, 0, none⟩), .pointer (some ⟨z.gM, 0, none⟩), .pointer (some ⟨z.gR, 0, none⟩), .pointer (some ⟨z.gP, 0, none⟩), .pointer (some ⟨z.gG, 0, none⟩)]
structure CT.Fine (z : CT) : Prop where
  inc : Inc z.R z.C z.E
  b : z.B ≤ z.gC ∧ z.B ≤ z.gR
  cr : z.gC ≠ z.gR
  no : ∀ g ∈ [z.gM, z.gP, z.gG, z.gRow, z.gCol], g ∉ [z.gC, z.gR]
  rl : ∀ r, r < z.R → 0 ≤ z.row r → (z.row r).toNat < z.C
structure CS (z : CT) (st : CR) (w : World) : Prop where
  bM : Blk w z.gM 33 #[.int .i64 (z.R : Int), .int .i64 (z.C : Int), .slice z.AE z.R z.cE]
  bP : Blk w z.gP 62 #[.slice (some ⟨z.gRow, 0, none⟩) z.R z.R, .slice (some ⟨z.gCol, 0, none⟩) z.C z.C]
  bG : Blk w z.gG 65 #[.func (.func 59) #[] z.caps]
  en : N2 z.B w z.AE z.R z.cE z.E
  row : RF w z.gRow z.R z.row
  col : RF w z.gCol z.C z.col
  sz : z.B ≤ w.heap.size
  cs : ∃ s s1 : Nat, s < 18446744073709551616 ∧ Blk w z.gC 55 #[.int .u64 (s : Int), .int .u64 (s1 : Int)] ∧ ∀ k, k < 64 → s.testBit k = st.cs k
  rs : ∃ s s1 : Nat, s < 18446744073709551616 ∧ Blk w z.gR 55 #[.int .u64 (s : Int), .int .u64 (s1 : Int)] ∧ ∀ k, k < 64 → s.testBit k = st.rs k
def CT.xs (z : CT) : List Nat := [z.gC, z.gR]
theorem CS.call {z : CT} {st : CR} {w w' : World} (h : CS z st w) (hb : Below w.heap.size w w') : CS z st w' := by
  obtain ⟨h1, h2, h3, h4, h5, h6, h7, ⟨s, s1, a, b, c⟩, ⟨t, t1, d, e, f⟩⟩ := h
  exact ⟨h1.call hb, h2.call hb, h3.call hb, h4.below (hb.mono h7), h5.call hb, h6.call hb, Nat.le_trans h7 hb.size, ⟨s, s1, a, b.call hb, c⟩, ⟨t, t1, d, e.call hb, f⟩⟩
theorem CS.drew {z : CT} {st : CR} {w : World} (h : CS z st w) : CS z st w.drew := h.call (Below.refl _ _).drew
theorem CS.keep {z : CT} (hz : z.Fine) {st st' : CR} {w w' : World} (h : CS z st w) (hf : Fr z.xs w w')
    (hc : ∃ s s1 : Nat, s < 18446744073709551616 ∧ Blk w' z.gC 55 #[.int .u64 (s : Int), .int .u64 (s1 : Int)] ∧ ∀ k, k < 64 → s.testBit k = st'.cs k)
    (hr : ∃ s s1 : Nat, s < 18446744073709551616 ∧ Blk w' z.gR 55 #[.int .u64 (s : Int), .int .u64 (s1 : Int)] ∧ ∀ k, k < 64 → s.testBit k = st'.rs k) : CS z st' w' := by
  obtain ⟨h1, h2, h3, h4, h5, h6, h7, -, -⟩ := h
  have hn := hz.no
  exact ⟨hf.blk h1 (hn _ (by simp)), hf.blk h2 (hn _ (by simp)), hf.blk h3 (hn _ (by simp)), h4.below (hf.below h7 (by have := hz.b; simp [CT.xs]; omega)), h5.fr hf (hn _ (by simp)), h6.fr hf (hn _ (by simp)), Nat.le_trans h7 hf.size, hc, hr⟩
theorem CS.marks {z : CT} (hz : z.Fine) {st : CR} {w : World} {k s s1 : Nat} (h : CS z st w) (hk : k < 64) (hs : s < 18446744073709551616)
    (hb : Blk w z.gC 55 #[.int .u64 (s : Int), .int .u64 (s1 : Int)]) (ht : ∀ k, k < 64 → s.testBit k = st.cs k) :
    CS z (st.markC k) ((w.setCell ⟨z.gC, 0, none⟩ (.int .u64 ((s ||| 2 ^ k : Nat) : Int))).setCell ⟨z.gC, 1, none⟩ (.int .u64 (s1 : Int))) ∧
    Fr z.xs w ((w.setCell ⟨z.gC, 0, none⟩ (.int .u64 ((s ||| 2 ^ k : Nat) : Int))).setCell ⟨z.gC, 1, none⟩ (.int .u64 (s1 : Int))) := by
  have hf : Fr z.xs w ((w.setCell ⟨z.gC, 0, none⟩ (.int .u64 ((s ||| 2 ^ k : Nat) : Int))).setCell ⟨z.gC, 1, none⟩ (.int .u64 (s1 : Int))) := ((Fr.refl _ _).set (by simp [CT.xs]) _).set (by simp [CT.xs]) _
  refine ⟨CS.keep hz h hf ⟨s ||| 2 ^ k, s1, or_bit hs hk, ?_, ?_⟩ ?_, hf⟩
  · exact hb.setP _ _
  · intro j hj
    rw [testBit_or]
    show _ = upd st.cs k true j
    unfold upd
    rw [ht j hj]
  · obtain ⟨t, t1, d, e, f⟩ := h.rs
    exact ⟨t, t1, d, (e.far hz.cr.symm _).far hz.cr.symm _, f⟩
theorem CS.markr {z : CT} (hz : z.Fine) {st : CR} {w : World} {k s s1 : Nat} (h : CS z st w) (hk : k < 64) (hs : s < 18446744073709551616)
    (hb : Blk w z.gR 55 #[.int .u64 (s : Int), .int .u64 (s1 : Int)]) (ht : ∀ k, k < 64 → s.testBit k = st.rs k) :
    CS z (st.markR k) ((w.setCell ⟨z.gR, 0, none⟩ (.int .u64 ((s ||| 2 ^ k : Nat) : Int))).setCell ⟨z.gR, 1, none⟩ (.int .u64 (s1 : Int))) ∧
    Fr z.xs w ((w.setCell ⟨z.gR, 0, none⟩ (.int .u64 ((s ||| 2 ^ k : Nat) : Int))).setCell ⟨z.gR, 1, none⟩ (.int .u64 (s1 : Int))) := by
  have hf : Fr z.xs w ((w.setCell ⟨z.gR, 0, none⟩ (.int .u64 ((s ||| 2 ^ k : Nat) : Int))).setCell ⟨z.gR, 1, none⟩ (.int .u64 (s1 : Int))) := ((Fr.refl _ _).set (by simp [CT.xs]) _).set (by simp [CT.xs]) _
  refine ⟨CS.keep hz h hf ?_ ⟨s ||| 2 ^ k, s1, or_bit hs hk, ?_, ?_⟩, hf⟩
  · obtain ⟨t, t1, d, e, f⟩ := h.cs
    exact ⟨t, t1, d, (e.far hz.cr _).far hz.cr _, f⟩
  · exact hb.setP _ _
  · intro j hj
    rw [testBit_or]
    show _ = upd st.rs k true j
    unfold upd
    rw [ht j hj]

def PC (z : CT) (w : World) (st : CR) (e : Ending) (w' : World) : Prop := e = .returned (.tuple #[]) ∧ CS z st w' ∧ Fr z.xs w w'
def C1 (z : CT) (f k : Nat) (st0 : CR) (w0 : World) (j : Nat) (wr : World) : Prop :=
  ∃ st, goL z.row (goC z.E z.row f) k z.E 0 st0 = goL z.row (goC z.E z.row f) k (z.E.drop j) j st ∧ uns z.C st.cs < f ∧ CS z st wr ∧ Fr z.xs w0 wr

set_option maxRecDepth 100000 in
set_option maxHeartbeats 1000000 in
theorem go_reach (z : CT) (hz : z.Fine) : ∀ (f k : Nat) (st : CR) (w : World), k < z.C → uns z.C st.cs < f → CS z st w →
    Calls Try.prog 59 #[.int .i64 (k : Int), .pointer (some ⟨z.gC, 0, none⟩), .pointer (some ⟨z.gM, 0, none⟩), .pointer (some ⟨z.gR, 0, none⟩), .pointer (some ⟨z.gP, 0, none⟩), .pointer (some ⟨z.gG, 0, none⟩)] w (PC z w (goC z.E z.row f k st)) := by
  have hu := Try.underlying55
  intro f
  induction f with
  | zero => intro k st w _ h _; omega
  | succ f ih =>
  intro k st w hk hun hg
  have hC := hz.inc.2.1
  have hR := hz.inc.1
  obtain ⟨s, s1, hs64, hbS, htb⟩ := hg.cs
  have cS0 : w.cell? ⟨z.gC, 0, none⟩ = some (.int .u64 (s : Int)) := hbS.cell 0
  have cS1 : w.cell? ⟨z.gC, 1, none⟩ = some (.int .u64 (s1 : Int)) := hbS.cell 1
  by_cases hsk : st.cs k = true
  · have htk : Hid (s.testBit k = true) := by show _ = _; rw [htb k (by omega), hsk]
    have hgo : goC z.E z.row (f + 1) k st = st := by unfold goC; rw [if_pos hsk]
    rw [hgo]
    have hP : Hid (∀ w', Below w.heap.size w w' → PC z w st (.returned (.tuple #[])) w') := fun w' hb => ⟨rfl, hg.call hb, (Fr.refl _ _).call hb⟩
    clear hg hgo hsk htb ih hun
    go_enter Try.func59, Try.ntmps59
    go_wp2_with (first
      | (go_at_call 33; refine (m_has s s1 k _ (by omega) hs64).mono ?_; rintro e w2 ⟨rfl, hb2⟩; rw [htk.out]))
    exact bodyPost_ret (v := .tuple #[]) (by simp [results, Try.results59, go_sem]) rfl (hP.out _ hb2)
  · have hsk : st.cs k = false := by simpa using hsk
    have htk : Hid (s.testBit k = false) := by show _ = _; rw [htb k (by omega), hsk]
    have hgo : goC z.E z.row (f + 1) k st = goL z.row (goC z.E z.row f) k z.E 0 (st.markC k) := by show (if st.cs k = true then _ else _) = _; rw [if_neg (by rw [hsk]; simp)]
    rw [hgo]
    have hun2 : uns z.C (st.markC k).cs < f := by
      have := uns_lt (C := z.C) (s := st.cs) (s' := (st.markC k).cs) (fun x hx => upd_true hx) hk hsk (upd_same _ _ _)
      omega
    have hun' := Lib.hid hun2
    have htb' := Lib.hid htb
    have ih' := Lib.hid ih
    have hsk' := Lib.hid hsk
    clear hun hun2 htb ih hgo hsk
    go_enter Try.func59, Try.ntmps59
    go_upto_region 2 with (first
      | (go_at_call 33; refine (m_has s s1 k _ (by omega) hs64).mono ?_; rintro e w2 ⟨rfl, hb2⟩; rw [htk.out]; have hg2 := hg.call hb2; have hbS2 := hbS.call hb2; have cS02 := hbS2.cell 0; have cS12 := hbS2.cell 1)
      | (go_at_call 34; refine (m_with s s1 k _ (by omega) hs64).mono ?_; rintro e w3 ⟨rfl, hb3⟩; have hg3 := hg2.call hb3; have hbS3 := hbS2.call hb3; have fS3 := hbS3.frozen 0; obtain ⟨cS3, cS4, fS4⟩ := wcell hbS3 (s ||| 2 ^ k)))
    obtain ⟨hg5, hf5⟩ := CS.marks hz hg3 (by omega : k < 64) hs64 hbS3 htb'.out
    have hf5 := (((Fr.refl z.xs w).call hb2).call hb3).trans hf5
    obtain ⟨w5, hw5⟩ : ∃ w5, w5 = (w3.setCell ⟨z.gC, 0, none⟩ (.int .u64 ((s ||| 2 ^ k : Nat) : Int))).setCell ⟨z.gC, 1, none⟩ (.int .u64 (s1 : Int)) := ⟨_, rfl⟩
    rw [← hw5] at hg5 hf5 ⊢
    clear hw5 fS3 cS3 cS4 fS4 cS02 cS12 hbS2 hbS3 hg2 hg3 hbS cS0 cS1
    have hM2 : w5.cell? ⟨z.gM, 2, none⟩ = some (.slice z.AE z.R z.cE) := hg5.bM.cell 2
    have hT : C1 z f k (st.markC k) w 0 w5 := ⟨st.markC k, rfl, hun'.out, hg5, hf5⟩
    have hg' := Lib.hid hg
    clear hg hg5 hf5
    go_wp2_with fail
    go_loopw [18] (fun v18 wr => ∃ j : Nat, j ≤ z.R ∧ v18 = .int .i64 j ∧ C1 z f k (st.markC k) w j wr) (fun i _ => z.R - (intOf i).toNat)
    case atStart => exact ⟨0, by omega, rfl, hT⟩
    case round =>
      clear hT hM2
      obtain ⟨j, hj, rfl, st1, he, hun1, hg1, hf1⟩ := hrel
      by_cases hjl : j < z.R
      · obtain ⟨gE, oE, l, A', n', c', hAE, hl, hcE, hl1⟩ := hg1.en.cell hjl
        rw [hAE]
        have hd : z.E.drop j = l :: z.E.drop (j + 1) := by
          have h1 := (List.getElem?_eq_some_iff.1 hl).1
          rw [List.drop_eq_getElem_cons h1]
          congr 1
          exact (List.getElem?_eq_some_iff.1 hl).2
        rw [hd] at he
        obtain ⟨t, t1, ht64, hbR, htr⟩ := hg1.rs
        have cR0 : wr.cell? ⟨z.gR, 0, none⟩ = some (.int .u64 (t : Int)) := hbR.cell 0
        have cR1 : wr.cell? ⟨z.gR, 1, none⟩ = some (.int .u64 (t1 : Int)) := hbR.cell 1
        have hjR : (j : Int) < z.R := by omega
        have hAE' := Lib.hid hAE
        clear hAE hd
        by_cases hsj : st1.rs j = true
        · have htj : Hid (t.testBit j = true) := by show _ = _; rw [htr j (by omega), hsj]
          have hT' : Hid (∀ w', Below wr.heap.size wr w' → C1 z f k (st.markC k) w (j + 1) w') := fun w' hb => ⟨st1, by rw [he, goL, if_neg (by rw [hsj]; simp)], hun1, hg1.call hb, hf1.call hb⟩
          clear he htr hun1 hsj
          go_wp2_with (first
            | (go_at_call 33; refine (m_has t t1 j _ (by omega) ht64).mono ?_; rintro e w6 ⟨rfl, hb6⟩; rw [htj.out]; have hg6 := hg1.call hb6; have hbR6 := hbR.call hb6; have cR6 := hbR6.cell 0; have cR61 := hbR6.cell 1))
          exact round_next hjl (hT'.out _ hb6)
        · have hsj : st1.rs j = false := by simpa using hsj
          have htj : Hid (t.testBit j = false) := by show _ = _; rw [htr j (by omega), hsj]
          cases hcc : l.contains k
          · have hcb := Lib.hid hcc
            have hT' : Hid (∀ w', Below wr.heap.size wr w' → C1 z f k (st.markC k) w (j + 1) w') := fun w' hb => ⟨st1, by rw [he, goL, if_neg (by rw [hcc]; simp)], hun1, hg1.call hb, hf1.call hb⟩
            clear he htr hun1 hsj hcc
            go_wp2_with (first
              | (go_at_call 33; refine (m_has t t1 j _ (by omega) ht64).mono ?_; rintro e w6 ⟨rfl, hb6⟩; rw [htj.out]; have hg6 := hg1.call hb6; have hbR6 := hbR.call hb6; have cR6 := hbR6.cell 0; have cR61 := hbR6.cell 1)
              | (go_at_call 60; refine (contains_row (hl1.below (hb6.mono hg1.sz)) k).mono ?_; rintro e w7 ⟨rfl, rfl⟩; rw [hcb.out]))
            exact round_next hjl (hT'.out _ hb6)
          · have hcb := Lib.hid hcc
            have hmm : Hid ((!st1.rs j && l.contains k) = true) := by show _ = _; rw [hsj, hcc]; rfl
            have htr' := Lib.hid htr
            have hun1' := Lib.hid hun1
            have he' := Lib.hid he
            clear he htr hun1 hsj hcc
            go_upto_region 7 with (first
              | (go_at_call 33; refine (m_has t t1 j _ (by omega) ht64).mono ?_; rintro e w6 ⟨rfl, hb6⟩; rw [htj.out]; have hg6 := hg1.call hb6; have hbR6 := hbR.call hb6; have cR6 := hbR6.cell 0; have cR61 := hbR6.cell 1)
              | (go_at_call 60; refine (contains_row (hl1.below (hb6.mono hg1.sz)) k).mono ?_; rintro e w7 ⟨rfl, rfl⟩; rw [hcb.out])
              | (go_at_call 34; refine (m_with t t1 j _ (by omega) ht64).mono ?_; rintro e w8 ⟨rfl, hb8⟩; have hg8 := hg6.call hb8; have hbR8 := hbR6.call hb8; have fR8 := hbR8.frozen 0; obtain ⟨cR8, cR81, fR81⟩ := wcell hbR8 (t ||| 2 ^ j)))
            obtain ⟨hg9, hf9⟩ := CS.markr hz hg8 (by omega : j < 64) ht64 hbR8 htr'.out
            have hf9 := ((hf1.call hb6).call hb8).trans hf9
            obtain ⟨w9, hw9⟩ : ∃ w9, w9 = (w8.setCell ⟨z.gR, 0, none⟩ (.int .u64 ((t ||| 2 ^ j : Nat) : Int))).setCell ⟨z.gR, 1, none⟩ (.int .u64 (t1 : Int)) := ⟨_, rfl⟩
            rw [← hw9] at hg9 hf9 ⊢
            clear hw9 fR8 cR8 cR81 fR81 cR6 cR61 hbR8 hbR6 hg8 hg6 hbR cR0 cR1 hcE hl1
            have cP0 := hg9.bP.cell 0
            have cRj := hg9.row.cell hjl
            by_cases hp : 0 ≤ z.row j
            · obtain ⟨cn, hcn⟩ : ∃ cn : Nat, z.row j = (cn : Int) := ⟨(z.row j).toNat, by omega⟩
              have hcC : cn < z.C := by have := hz.rl j hjl hp; rw [hcn] at this; simpa using this
              rw [hcn] at cRj
              have hpos : decide (0 ≤ (cn : Int)) = true := by simp
              have hre : Hid (goL z.row (goC z.E z.row f) k z.E 0 (st.markC k) = goL z.row (goC z.E z.row f) k (z.E.drop (j + 1)) (j + 1) (goC z.E z.row f cn (st1.markR j))) := by
                show _ = _
                rw [he'.out, goL, if_pos hmm.out, if_pos hp, hcn, Int.toNat_natCast]
              have hcn' := Lib.hid hcn
              clear hcn hp
              go_upto_region 8 with fail
              have cG : w9.cell? ⟨z.gG, 0, none⟩ = some (.func (.func 59) #[] #[.pointer (some ⟨z.gC, 0, none⟩), .pointer (some ⟨z.gM, 0, none⟩), .pointer (some ⟨z.gR, 0, none⟩), .pointer (some ⟨z.gP, 0, none⟩), .pointer (some ⟨z.gG, 0, none⟩)]) := hg9.bG.cell 0
              have hS : (fun w' : World => w'.cell? ⟨z.gP, 0, none⟩ = some (.slice (some ⟨z.gRow, 0, none⟩) z.R z.R) ∧ w'.cell? ⟨z.gRow, j, none⟩ = some (.int .i64 (cn : Int)) ∧ w'.cell? ⟨z.gG, 0, none⟩ = some (.func (.func 59) #[] #[.pointer (some ⟨z.gC, 0, none⟩), .pointer (some ⟨z.gM, 0, none⟩), .pointer (some ⟨z.gR, 0, none⟩), .pointer (some ⟨z.gP, 0, none⟩), .pointer (some ⟨z.gG, 0, none⟩)])) w9.drew := ⟨cP0, cRj, cG⟩
              clear cP0 cRj cG
              go_region_held3 (fun w' : World => w'.cell? ⟨z.gP, 0, none⟩ = some (.slice (some ⟨z.gRow, 0, none⟩) z.R z.R) ∧ w'.cell? ⟨z.gRow, j, none⟩ = some (.int .i64 (cn : Int)) ∧ w'.cell? ⟨z.gG, 0, none⟩ = some (.func (.func 59) #[] #[.pointer (some ⟨z.gC, 0, none⟩), .pointer (some ⟨z.gM, 0, none⟩), .pointer (some ⟨z.gR, 0, none⟩), .pointer (some ⟨z.gP, 0, none⟩), .pointer (some ⟨z.gG, 0, none⟩)]))
                (first | (with_reducible exact hS))
                (first
                  | (go_at_call 59; refine (ih'.out cn (st1.markR j) _ hcC hun1'.out hg9.drew).mono ?_; rintro e w10 ⟨rfl, hg10, hf10⟩; clear hS; have hS : (fun w' : World => w'.cell? ⟨z.gP, 0, none⟩ = some (.slice (some ⟨z.gRow, 0, none⟩) z.R z.R) ∧ w'.cell? ⟨z.gRow, j, none⟩ = some (.int .i64 (cn : Int)) ∧ w'.cell? ⟨z.gG, 0, none⟩ = some (.func (.func 59) #[] #[.pointer (some ⟨z.gC, 0, none⟩), .pointer (some ⟨z.gM, 0, none⟩), .pointer (some ⟨z.gR, 0, none⟩), .pointer (some ⟨z.gP, 0, none⟩), .pointer (some ⟨z.gG, 0, none⟩)])) w10 := ⟨hg10.bP.cell 0, (hg10.row.cell hjl).trans (by rw [hcn'.out]), hg10.bG.cell 0⟩))
              clear hS
              have hf11 := (hf9.drew).trans hf10
              have hun2 : Hid (uns z.C (goC z.E z.row f cn (st1.markR j)).cs < f) := by
                have h1 := uns_le (C := z.C) (goC_le z.E z.row f cn (st1.markR j)).c
                have h2 := hun1'.out
                have h3 : (st1.markR j).cs = st1.cs := rfl
                rw [h3] at h1
                show _ < _
                omega
              go_wp2_with fail
              exact round_next hjl ⟨_, hre.out, hun2.out, hg10, hf11⟩
            · have hpos : decide (0 ≤ z.row j) = false := by simpa using hp
              have hre : Hid (goL z.row (goC z.E z.row f) k z.E 0 (st.markC k) = goL z.row (goC z.E z.row f) k (z.E.drop (j + 1)) (j + 1) (st1.markR j)) := by
                show _ = _
                rw [he'.out, goL, if_pos hmm.out, if_neg hp]
              go_wp2_with fail
              exact round_next hjl ⟨_, hre.out, hun1'.out, hg9, hf9⟩
      · have hjR : j = z.R := by omega
        have hdn : z.E.drop j = [] := List.drop_eq_nil_of_le (by have := hz.inc.2.2.1; omega)
        rw [hdn] at he
        have hfin : PC z w (goL z.row (goC z.E z.row f) k z.E 0 (st.markC k)) (.returned (.tuple #[])) wr := by
          rw [he, goL]
          exact ⟨rfl, hg1, hf1⟩
        have hfin' := Lib.hid hfin
        clear hfin he hg1 hf1
        subst hjR
        go_wp2_with fail
        exact bodyPost_ret (v := .tuple #[]) (by simp [results, Try.results59, go_sem]) rfl hfin'.out

end Go.Proofs.Ytjbhnfejpgjghaa
