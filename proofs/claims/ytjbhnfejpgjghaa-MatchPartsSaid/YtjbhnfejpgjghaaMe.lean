/- The search for a way: its contract. -/
import Derived.Test.YtjbhnfejpgjghaaMc
namespace Go.Proofs.Ytjbhnfejpgjghaa
open Go.RowKit
set_option linter.unusedSimpArgs false
set_option linter.unusedVariables false

def PT (z : GT) (w : World) (r : Bool × MS) (e : Ending) (w' : World) : Prop := e = .returned (.bool r.1) ∧ GS z r.2 w' ∧ ColOk z.R z.C r.2 ∧ Fr z.xs w w'

def T1 (z : GT) (f i : Nat) (l : List Nat) (st0 : MS) (w0 : World) (j : Nat) (wr : World) : Prop :=
  ∃ st, scan z.ok (tries z.E z.ok f) i l st0 = scan z.ok (tries z.E z.ok f) i (l.drop j) st ∧ ColOk z.R z.C st ∧ uns z.C st.seen < f + 1 ∧ GS z st wr ∧ Fr z.xs w0 wr

theorem round_next {n j : Nat} {P : Nat → Prop} (hj : j < n) (h : P (j + 1)) : (∃ j1 : Nat, j1 ≤ n ∧ Value.int .i64 ((j : Int) + 1) = .int .i64 j1 ∧ P j1) ∧ n - (intOf (.int .i64 ((j : Int) + 1))).toNat < n - (intOf (.int .i64 (j : Int))).toNat :=
  ⟨⟨j + 1, by omega, by simp, h⟩, by simp [intOf]; omega⟩

theorem GS.cells {z : GT} {st : MS} {w : World} (h : GS z st w) : w.cell? ⟨z.gC, 0, none⟩ = some (.func (.func z.fC) #[] z.capC) ∧ w.cell? ⟨z.gP, 0, none⟩ = some (.slice (some ⟨z.gRow, 0, none⟩) z.R z.R) ∧ w.cell? ⟨z.gP, 1, none⟩ = some (.slice (some ⟨z.gCol, 0, none⟩) z.C z.C) ∧ w.cell? ⟨z.gT, 0, none⟩ = some (.func (.func 68) #[] z.caps) ∧ (∀ k, k < z.C → w.cell? ⟨z.gCol, k, none⟩ = some (.int .i64 (st.col k))) ∧ (∀ k, w.frozen? ⟨z.gCol, k, none⟩ = false) ∧ (∀ k, w.frozen? ⟨z.gRow, k, none⟩ = false) ∧ (∀ k, w.frozen? ⟨z.gS, k, none⟩ = false) ∧ (∀ k, k < z.R → w.cell? ⟨z.gRow, k, none⟩ = some (.int .i64 (st.row k))) := by
  obtain ⟨h1, h2, h3, h4, h5, h6, h7, h8, h9, h10, h11, s, s1, h12, h13, h14⟩ := h
  exact ⟨h2.cell 0, h3.cell 0, h3.cell 1, h4.cell 0, fun k hk => h10.cell hk, fun k => h10.frozen k, fun k => h9.frozen k, fun k => h13.frozen k, fun k hk => h9.cell hk⟩

/-- what the two stores want -/
theorem GS.stores {z : GT} (hz : z.Fine) {st : MS} {w : World} {i k : Nat} (hg : GS z st w) (hi : i < z.R) (hkC : k < z.C) :
    (w.cell? ⟨z.gP, 0, none⟩ = some (.slice (some ⟨z.gRow, 0, none⟩) z.R z.R) ∧ w.cell? ⟨z.gP, 1, none⟩ = some (.slice (some ⟨z.gCol, 0, none⟩) z.C z.C) ∧
      w.cell? ⟨z.gRow, i, none⟩ = some (.int .i64 (st.row i)) ∧ w.frozen? ⟨z.gRow, i, none⟩ = false ∧ w.cell? ⟨z.gCol, k, none⟩ = some (.int .i64 (st.col k)) ∧ w.frozen? ⟨z.gCol, k, none⟩ = false) ∧
    (∀ n, ((w.drewN n).setCell ⟨z.gRow, i, none⟩ (.int .i64 (k : Int))).cell? ⟨z.gP, 0, none⟩ = some (.slice (some ⟨z.gRow, 0, none⟩) z.R z.R)) ∧
    (∀ n, ((w.drewN n).setCell ⟨z.gRow, i, none⟩ (.int .i64 (k : Int))).cell? ⟨z.gP, 1, none⟩ = some (.slice (some ⟨z.gCol, 0, none⟩) z.C z.C)) ∧
    (∀ n, ((w.drewN n).setCell ⟨z.gRow, i, none⟩ (.int .i64 (k : Int))).cell? ⟨z.gCol, k, none⟩ = some (.int .i64 (st.col k))) ∧
    (∀ n, ((w.drewN n).setCell ⟨z.gRow, i, none⟩ (.int .i64 (k : Int))).frozen? ⟨z.gCol, k, none⟩ = false) ∧
    ((w.setCell ⟨z.gRow, i, none⟩ (.int .i64 (k : Int))).cell? ⟨z.gP, 0, none⟩ = some (.slice (some ⟨z.gRow, 0, none⟩) z.R z.R) ∧ (w.setCell ⟨z.gRow, i, none⟩ (.int .i64 (k : Int))).cell? ⟨z.gP, 1, none⟩ = some (.slice (some ⟨z.gCol, 0, none⟩) z.C z.C) ∧
     (w.setCell ⟨z.gRow, i, none⟩ (.int .i64 (k : Int))).cell? ⟨z.gCol, k, none⟩ = some (.int .i64 (st.col k)) ∧ (w.setCell ⟨z.gRow, i, none⟩ (.int .i64 (k : Int))).frozen? ⟨z.gCol, k, none⟩ = false) := by
  have hBP : Blk w z.gP 62 #[.slice (some ⟨z.gRow, 0, none⟩) z.R z.R, .slice (some ⟨z.gCol, 0, none⟩) z.C z.C] := hg.2.2.1
  have hnP := hz.2.2.2.1 z.gP (by simp)
  have hnP1 : z.gP ≠ z.gRow := fun h => hnP (by simp [h])
  have hB1 : ∀ n, Blk ((w.drewN n).setCell ⟨z.gRow, i, none⟩ (.int .i64 (k : Int))) z.gP 62 #[.slice (some ⟨z.gRow, 0, none⟩) z.R z.R, .slice (some ⟨z.gCol, 0, none⟩) z.C z.C] := fun n => (hBP.drewN n).far (p := ⟨z.gRow, i, none⟩) hnP1 (.int .i64 (k : Int))
  have hRC : ∀ n, RF ((w.drewN n).setCell ⟨z.gRow, i, none⟩ (.int .i64 (k : Int))) z.gCol z.C st.col := fun n => RF.other (RF.drewN hg.2.2.2.2.2.2.2.2.2.1 n) hz.2.2.1.2.2.symm i _
  have hB0 : Blk (w.setCell ⟨z.gRow, i, none⟩ (.int .i64 (k : Int))) z.gP 62 #[.slice (some ⟨z.gRow, 0, none⟩) z.R z.R, .slice (some ⟨z.gCol, 0, none⟩) z.C z.C] := hBP.far (p := ⟨z.gRow, i, none⟩) hnP1 (.int .i64 (k : Int))
  have hR0 : RF (w.setCell ⟨z.gRow, i, none⟩ (.int .i64 (k : Int))) z.gCol z.C st.col := RF.other hg.2.2.2.2.2.2.2.2.2.1 hz.2.2.1.2.2.symm i _
  have h9 := hg.2.2.2.2.2.2.2.2.1
  have h10 := hg.2.2.2.2.2.2.2.2.2.1
  exact ⟨⟨hBP.cell 0, hBP.cell 1, h9.cell hi, h9.frozen i, h10.cell hkC, h10.frozen k⟩, fun n => (hB1 n).cell 0, fun n => (hB1 n).cell 1, fun n => (hRC n).cell hkC, fun n => (hRC n).frozen k, hB0.cell 0, hB0.cell 1, hR0.cell hkC, hR0.frozen k⟩

theorem wcell {w : World} {g s s1 : Nat} {t : TypeId} (h : Blk w g t #[.int .u64 (s : Int), .int .u64 (s1 : Int)]) (r : Nat) :
    w.cell? ⟨g, 0, none⟩ = some (.int .u64 (s : Int)) ∧ (w.setCell ⟨g, 0, none⟩ (.int .u64 (r : Int))).cell? ⟨g, 1, none⟩ = some (.int .u64 (s1 : Int)) ∧ (w.setCell ⟨g, 0, none⟩ (.int .u64 (r : Int))).frozen? ⟨g, 1, none⟩ = false :=
  ⟨h.cell 0, (h.set 0 _).cell 1, (h.set 0 _).frozen 1⟩

set_option maxRecDepth 100000 in
set_option maxHeartbeats 1000000 in
theorem go_tries (z : GT) (hz : z.Fine) : ∀ (f i : Nat) (st : MS) (w : World), i < z.R → ColOk z.R z.C st → uns z.C st.seen < f → GS z st w →
    Calls Try.prog 68 #[.int .i64 (i : Int), .pointer (some ⟨z.gM, 0, none⟩), .pointer (some ⟨z.gS, 0, none⟩), .pointer (some ⟨z.gC, 0, none⟩), .pointer (some ⟨z.gP, 0, none⟩), .pointer (some ⟨z.gT, 0, none⟩)] w (PT z w (tries z.E z.ok f i st)) := by
  intro f
  induction f with
  | zero => intro i st w _ _ h _; omega
  | succ f ih =>
  intro i st w hi hco hun hg
  obtain ⟨⟨hR, hC, hnE, hlt⟩, -, -, -, hent, hcalls⟩ := id hz
  have hM2 : w.cell? ⟨z.gM, 2, none⟩ = some (.slice z.AE z.nE z.cE) := hg.1.cell 2
  obtain ⟨gE, oE, l, A', n', c', hAE, hl, hcE, hl1⟩ := hg.2.2.2.2.2.2.2.1.cell (j := i) (by omega)
  have hEi : z.E.getD i [] = l := by rw [List.getD_eq_getElem?_getD, hl]; rfl
  have hll : ∀ k ∈ l, k < z.C := hlt l (List.mem_of_getElem? hl)
  have hst : tries z.E z.ok (f + 1) i st = scan z.ok (tries z.E z.ok f) i l st := by show scan _ _ _ _ _ = _; rw [hEi]
  rw [hst]
  clear hst hEi
  have hT : T1 z f i l st w 0 w := ⟨st, rfl, hco, hun, hg, Fr.refl _ _⟩
  have hun' := Lib.hid hun
  clear hun
  have hcalls' := Lib.hid hcalls
  have ih' := Lib.hid ih
  clear hcalls ih
  have hnE' := Lib.hid hnE
  clear hnE
  have hln := hl1.2.1
  have hlen := Lib.hid hl1.1
  have hiE : (i : Int) < z.nE := by have := hnE'.out; omega
  rw [hAE] at hM2
  clear hlt
  go_enter Try.func68, Try.ntmps68
  go_wp2_with fail
  go_loopw [16] (fun v16 wr => ∃ j : Nat, j ≤ n' ∧ v16 = .int .i64 j ∧ T1 z f i l st w j wr) (fun i _ => n' - (intOf i).toNat)
  case atStart => exact ⟨0, by omega, rfl, hT⟩
  case round =>
    obtain ⟨j, hj, rfl, st1, he, hco1, hun1, hg1, hf1⟩ := hrel
    by_cases hjl : j < n'
    · obtain ⟨gl, ol, k, hA', hk, hck⟩ := (hl1.below (hf1.below hg.2.2.2.2.2.2.1 (by have := hz.2.1; simp [GT.xs]; omega))).cell hjl
      subst hA'
      have hkC : k < z.C := hll k (List.mem_of_getElem? hk)
      have hd : l.drop j = k :: l.drop (j + 1) := by
        have h1 := (List.getElem?_eq_some_iff.1 hk).1
        rw [List.drop_eq_getElem_cons h1]
        congr 1
        exact (List.getElem?_eq_some_iff.1 hk).2
      rw [hd] at he
      obtain ⟨s, s1, hs64, hbS, htb⟩ := hg1.2.2.2.2.2.2.2.2.2.2.2
      have cS0 : wr.cell? ⟨z.gS, 0, none⟩ = some (.int .u64 (s : Int)) := hbS.cell 0
      have cS1 : wr.cell? ⟨z.gS, 1, none⟩ = some (.int .u64 (s1 : Int)) := hbS.cell 1
      have hu := Try.underlying55
      have htk := Lib.hid (htb k (by omega))
      by_cases hsk : st1.seen k = true
      · have htk' : s.testBit k = true := by rw [htk.out, hsk]
        have hT' : ∀ w', Below wr.heap.size wr w' → T1 z f i l st w (j + 1) w' := by
          intro w' hb
          refine ⟨st1, ?_, hco1, hun1, hg1.call hb, hf1.call hb⟩
          rw [he, scan, if_pos (by rw [hsk]; rfl)]
        have he' := Lib.hid he
        have hT'' := Lib.hid hT'
        clear he hT' htb
        go_wp2_with (first
          | (go_at_call 33; refine (m_has s s1 k _ (by omega) hs64).mono ?_; rintro e w2 ⟨rfl, hb2⟩; rw [htk'] ))
        exact round_next hjl (hT''.out _ hb2)
      · have hsk : st1.seen k = false := by simpa using hsk
        have htk' : s.testBit k = false := by rw [htk.out, hsk]
        by_cases hok : z.ok k = true
        · have hmk : k < 64 := by omega
          by_cases hcn : st1.col k < 0
          · have hcn' : decide (st1.col k < 0) = true := by simpa using hcn
            have hre : Hid (scan z.ok (tries z.E z.ok f) i l st = (true, (st1.mark k).pair i k)) := by
              show _ = _
              rw [he, scan, if_neg (by rw [hsk, hok]; simp), if_pos hcn]
            clear he
            rw [hre.out]
            have htb' := Lib.hid htb
            clear htb
            go_upto_region 6 with (first
              | (go_at_call 33; refine (m_has s s1 k _ (by omega) hs64).mono ?_; rintro e w2 ⟨rfl, hb2⟩; rw [htk']; have cC2 := (hg1.call hb2).cells.1)
              | ((with_reducible refine (hcalls'.out _ k ?_ hkC).mono ?_); (focus exact (hg1.call hb2).2.2.2.2.1); rintro e w3 ⟨rfl, hb3⟩; rw [hok]; have hg3 := (hg1.call hb2).call hb3; have hbS3 := (hbS.call hb2).call hb3; have cS03 := hbS3.cell 0; have cS13 := hbS3.cell 1)
              | (go_at_call 34; refine (m_with s s1 k _ (by omega) hs64).mono ?_; rintro e w4 ⟨rfl, hb4⟩; have hg4 := hg3.call hb4; have hbS4 := hbS3.call hb4; have fS4 := hbS4.frozen 0; obtain ⟨cS4, cS5, fS5⟩ := wcell hbS4 (s ||| 2 ^ k)))
            obtain ⟨hg5, hf5⟩ := GS.marked hz hg4 hmk hs64 hbS4 htb'.out
            have hf5 := ((((hf1.call hb2).call hb3).call hb4).trans hf5)
            obtain ⟨w5, hw5⟩ : ∃ w5, w5 = (w4.setCell ⟨z.gS, 0, none⟩ (.int .u64 ((s ||| 2 ^ k : Nat) : Int))).setCell ⟨z.gS, 1, none⟩ (.int .u64 (s1 : Int)) := ⟨_, rfl⟩
            rw [← hw5] at hg5 hf5 ⊢
            clear hw5 fS4 cS4 cS5 fS5 cC2 cS03 cS13
            have hki : (k : Int) < z.C := by omega
            have hii : (i : Int) < z.R := by omega
            obtain ⟨⟨cP0, cP1, cRi, fRi, cCk, fCk⟩, cQ0, cQ1, cQC, fQC, -⟩ := GS.stores hz hg5 hi hkC
            have cCk' : w5.cell? ⟨z.gCol, k, none⟩ = some (.int .i64 (st1.col k)) := cCk
            clear cCk
            go_upto_region 7 with (go_quiet (fail))
            go_region
            all_goals (try go_wp2_with fail)
            go_ret
            exact ⟨rfl, (GS.paired hz (GS.drewN hg5 _)).1, hco1.mark.pair hi, (hf5.drewN _).trans (GS.paired hz (GS.drewN hg5 _)).2⟩
          · obtain ⟨cn, hcn1⟩ : ∃ cn : Nat, st1.col k = (cn : Int) := ⟨(st1.col k).toNat, by omega⟩
            have hcn' : decide ((cn : Int) < 0) = false := by simp
            have hcR : cn < z.R := by have := (hco1 k hkC).1; omega
            have hunm : uns z.C (st1.mark k).seen < f := by have := uns_mark hkC hsk; omega
            have hsm : (st1.mark k).seen k = true := upd_same _ _ _
            have hcol := tries_col z.E z.ok f cn (st1.mark k) k hsm
            have hcol' : (tries z.E z.ok f cn (st1.mark k)).2.col k = (cn : Int) := hcol.trans hcn1
            obtain ⟨rr, hrr⟩ : ∃ rr, rr = tries z.E z.ok f cn (st1.mark k) := ⟨_, rfl⟩
            have hih := ih'.out cn (st1.mark k)
            rw [← hrr] at hcol' hih
            have hih' := Lib.hid hih
            have hunr : uns z.C rr.2.seen < f + 1 := by
              have := uns_le (C := z.C) (fun j hj => tries_mono z.E z.ok f cn (st1.mark k) j hj)
              rw [← hrr] at this
              omega
            have hsc : scan z.ok (tries z.E z.ok f) i l st = if rr.1 = true then (true, rr.2.pair i k) else scan z.ok (tries z.E z.ok f) i (l.drop (j + 1)) rr.2 := by
              rw [he, scan, if_neg (by rw [hsk, hok]; simp), if_neg hcn, hcn1, Int.toNat_natCast, ← hrr]
            have hsc' := Lib.hid hsc
            have hunr' := Lib.hid hunr
            have hcol'' := Lib.hid hcol'
            have hcn1' := Lib.hid hcn1
            have hunm' := Lib.hid hunm
            clear he hsc hih hcol hcol' hrr hunr hcn hcn1 hunm
            cases hrb : rr.1
            · have htb' := Lib.hid htb
              clear htb
              go_upto_region 6 with (first
                | (go_at_call 33; refine (m_has s s1 k _ (by omega) hs64).mono ?_; rintro e w2 ⟨rfl, hb2⟩; rw [htk']; have cC2 := (hg1.call hb2).cells.1)
                | ((with_reducible refine (hcalls'.out _ k ?_ hkC).mono ?_); (focus exact (hg1.call hb2).2.2.2.2.1); rintro e w3 ⟨rfl, hb3⟩; rw [hok]; have hg3 := (hg1.call hb2).call hb3; have hbS3 := (hbS.call hb2).call hb3; have cS03 := hbS3.cell 0; have cS13 := hbS3.cell 1)
                | (go_at_call 34; refine (m_with s s1 k _ (by omega) hs64).mono ?_; rintro e w4 ⟨rfl, hb4⟩; have hg4 := hg3.call hb4; have hbS4 := hbS3.call hb4; have fS4 := hbS4.frozen 0; obtain ⟨cS4, cS5, fS5⟩ := wcell hbS4 (s ||| 2 ^ k)))
              obtain ⟨hg5, hf5⟩ := GS.marked hz hg4 hmk hs64 hbS4 htb'.out
              have hf5 := ((((hf1.call hb2).call hb3).call hb4).trans hf5)
              obtain ⟨w5, hw5⟩ : ∃ w5, w5 = (w4.setCell ⟨z.gS, 0, none⟩ (.int .u64 ((s ||| 2 ^ k : Nat) : Int))).setCell ⟨z.gS, 1, none⟩ (.int .u64 (s1 : Int)) := ⟨_, rfl⟩
              rw [← hw5] at hg5 hf5 ⊢
              clear hw5 fS4 cS4 cS5 fS5 cC2 cS03 cS13
              have hki : (k : Int) < z.C := by omega
              have hii : (i : Int) < z.R := by omega
              obtain ⟨⟨cP0, cP1, cRi, fRi, cCk, fCk⟩, -⟩ := GS.stores hz hg5 hi hkC
              have cCk : w5.cell? ⟨z.gCol, k, none⟩ = some (.int .i64 (cn : Int)) := by rw [← hcn1'.out]; exact cCk
              have cT5 : w5.cell? ⟨z.gT, 0, none⟩ = some (.func (.func 68) #[] #[.pointer (some ⟨z.gM, 0, none⟩), .pointer (some ⟨z.gS, 0, none⟩), .pointer (some ⟨z.gC, 0, none⟩), .pointer (some ⟨z.gP, 0, none⟩), .pointer (some ⟨z.gT, 0, none⟩)]) := hg5.cells.2.2.2.1
              go_upto_region 6 with fail
              have hS : (fun w' : World => w'.cell? ⟨z.gP, 1, none⟩ = some (.slice (some ⟨z.gCol, 0, none⟩) z.C z.C) ∧ w'.cell? ⟨z.gCol, k, none⟩ = some (.int .i64 (cn : Int)) ∧ w'.cell? ⟨z.gT, 0, none⟩ = some (.func (.func 68) #[] #[.pointer (some ⟨z.gM, 0, none⟩), .pointer (some ⟨z.gS, 0, none⟩), .pointer (some ⟨z.gC, 0, none⟩), .pointer (some ⟨z.gP, 0, none⟩), .pointer (some ⟨z.gT, 0, none⟩)])) w5.drew := ⟨cP1, cCk, cT5⟩
              clear cP0 cP1 cRi fRi cCk fCk cT5
              go_region_held3 (fun w' : World => w'.cell? ⟨z.gP, 1, none⟩ = some (.slice (some ⟨z.gCol, 0, none⟩) z.C z.C) ∧ w'.cell? ⟨z.gCol, k, none⟩ = some (.int .i64 (cn : Int)) ∧ w'.cell? ⟨z.gT, 0, none⟩ = some (.func (.func 68) #[] #[.pointer (some ⟨z.gM, 0, none⟩), .pointer (some ⟨z.gS, 0, none⟩), .pointer (some ⟨z.gC, 0, none⟩), .pointer (some ⟨z.gP, 0, none⟩), .pointer (some ⟨z.gT, 0, none⟩)]))
                (first | (with_reducible exact hS))
                (first
                  | (go_at_call 68; refine (hih'.out _ hcR hco1.mark hunm'.out hg5.drew).mono ?_; rintro e w6 ⟨rfl, hg6, hco6, hf6⟩; rw [hrb]; clear hS; have hS : (fun w' : World => w'.cell? ⟨z.gP, 1, none⟩ = some (.slice (some ⟨z.gCol, 0, none⟩) z.C z.C) ∧ w'.cell? ⟨z.gCol, k, none⟩ = some (.int .i64 (cn : Int)) ∧ w'.cell? ⟨z.gT, 0, none⟩ = some (.func (.func 68) #[] #[.pointer (some ⟨z.gM, 0, none⟩), .pointer (some ⟨z.gS, 0, none⟩), .pointer (some ⟨z.gC, 0, none⟩), .pointer (some ⟨z.gP, 0, none⟩), .pointer (some ⟨z.gT, 0, none⟩)])) w6 := ⟨hg6.cells.2.1 |> fun _ => hg6.cells.2.2.1, (hg6.cells.2.2.2.2.1 k hkC).trans (by rw [hcol''.out]), hg6.cells.2.2.2.1⟩))
              clear hS
              have hf6 := (hf5.drew).trans hf6
              go_wp2_with fail
              exact round_next hjl ⟨rr.2, by rw [hsc'.out, if_neg (by rw [hrb]; simp)], hco6, hunr'.out, hg6, hf6⟩
            · have hre : scan z.ok (tries z.E z.ok f) i l st = (true, rr.2.pair i k) := by rw [hsc'.out, if_pos hrb]
              rw [hre]
              clear hre
              have htb' := Lib.hid htb
              clear htb
              go_upto_region 6 with (first
                | (go_at_call 33; refine (m_has s s1 k _ (by omega) hs64).mono ?_; rintro e w2 ⟨rfl, hb2⟩; rw [htk']; have cC2 := (hg1.call hb2).cells.1)
                | ((with_reducible refine (hcalls'.out _ k ?_ hkC).mono ?_); (focus exact (hg1.call hb2).2.2.2.2.1); rintro e w3 ⟨rfl, hb3⟩; rw [hok]; have hg3 := (hg1.call hb2).call hb3; have hbS3 := (hbS.call hb2).call hb3; have cS03 := hbS3.cell 0; have cS13 := hbS3.cell 1)
                | (go_at_call 34; refine (m_with s s1 k _ (by omega) hs64).mono ?_; rintro e w4 ⟨rfl, hb4⟩; have hg4 := hg3.call hb4; have hbS4 := hbS3.call hb4; have fS4 := hbS4.frozen 0; obtain ⟨cS4, cS5, fS5⟩ := wcell hbS4 (s ||| 2 ^ k)))
              obtain ⟨hg5, hf5⟩ := GS.marked hz hg4 hmk hs64 hbS4 htb'.out
              have hf5 := ((((hf1.call hb2).call hb3).call hb4).trans hf5)
              obtain ⟨w5, hw5⟩ : ∃ w5, w5 = (w4.setCell ⟨z.gS, 0, none⟩ (.int .u64 ((s ||| 2 ^ k : Nat) : Int))).setCell ⟨z.gS, 1, none⟩ (.int .u64 (s1 : Int)) := ⟨_, rfl⟩
              rw [← hw5] at hg5 hf5 ⊢
              clear hw5 fS4 cS4 cS5 fS5 cC2 cS03 cS13
              have hki : (k : Int) < z.C := by omega
              have hii : (i : Int) < z.R := by omega
              obtain ⟨⟨cP0, cP1, cRi, fRi, cCk, fCk⟩, -⟩ := GS.stores hz hg5 hi hkC
              have cCk : w5.cell? ⟨z.gCol, k, none⟩ = some (.int .i64 (cn : Int)) := by rw [← hcn1'.out]; exact cCk
              have cT5 : w5.cell? ⟨z.gT, 0, none⟩ = some (.func (.func 68) #[] #[.pointer (some ⟨z.gM, 0, none⟩), .pointer (some ⟨z.gS, 0, none⟩), .pointer (some ⟨z.gC, 0, none⟩), .pointer (some ⟨z.gP, 0, none⟩), .pointer (some ⟨z.gT, 0, none⟩)]) := hg5.cells.2.2.2.1
              go_upto_region 6 with fail
              have hS : (fun w' : World => w'.cell? ⟨z.gP, 1, none⟩ = some (.slice (some ⟨z.gCol, 0, none⟩) z.C z.C) ∧ w'.cell? ⟨z.gCol, k, none⟩ = some (.int .i64 (cn : Int)) ∧ w'.cell? ⟨z.gT, 0, none⟩ = some (.func (.func 68) #[] #[.pointer (some ⟨z.gM, 0, none⟩), .pointer (some ⟨z.gS, 0, none⟩), .pointer (some ⟨z.gC, 0, none⟩), .pointer (some ⟨z.gP, 0, none⟩), .pointer (some ⟨z.gT, 0, none⟩)])) w5.drew := ⟨cP1, cCk, cT5⟩
              clear cP0 cP1 cRi fRi cCk fCk cT5
              go_region_held3 (fun w' : World => w'.cell? ⟨z.gP, 1, none⟩ = some (.slice (some ⟨z.gCol, 0, none⟩) z.C z.C) ∧ w'.cell? ⟨z.gCol, k, none⟩ = some (.int .i64 (cn : Int)) ∧ w'.cell? ⟨z.gT, 0, none⟩ = some (.func (.func 68) #[] #[.pointer (some ⟨z.gM, 0, none⟩), .pointer (some ⟨z.gS, 0, none⟩), .pointer (some ⟨z.gC, 0, none⟩), .pointer (some ⟨z.gP, 0, none⟩), .pointer (some ⟨z.gT, 0, none⟩)]))
                (first | (with_reducible exact hS))
                (first
                  | (go_at_call 68; refine (hih'.out _ hcR hco1.mark hunm'.out hg5.drew).mono ?_; rintro e w6 ⟨rfl, hg6, hco6, hf6⟩; rw [hrb]; clear hS; have hS : (fun w' : World => w'.cell? ⟨z.gP, 1, none⟩ = some (.slice (some ⟨z.gCol, 0, none⟩) z.C z.C) ∧ w'.cell? ⟨z.gCol, k, none⟩ = some (.int .i64 (cn : Int)) ∧ w'.cell? ⟨z.gT, 0, none⟩ = some (.func (.func 68) #[] #[.pointer (some ⟨z.gM, 0, none⟩), .pointer (some ⟨z.gS, 0, none⟩), .pointer (some ⟨z.gC, 0, none⟩), .pointer (some ⟨z.gP, 0, none⟩), .pointer (some ⟨z.gT, 0, none⟩)])) w6 := ⟨hg6.cells.2.1 |> fun _ => hg6.cells.2.2.1, (hg6.cells.2.2.2.2.1 k hkC).trans (by rw [hcol''.out]), hg6.cells.2.2.2.1⟩))
              clear hS
              have hf6 := (hf5.drew).trans hf6
              obtain ⟨⟨cP0, cP1, cRi, fRi, cCk, fCk⟩, -, -, -, -, cQ0, cQ1, cQC, fQC⟩ := GS.stores hz hg6 hi hkC
              go_upto_region 7 with fail
              go_region
              all_goals (try go_wp2_with fail)
              go_ret
              exact ⟨rfl, (GS.paired hz hg6).1.drew, hco6.pair hi, (hf6.trans (GS.paired hz hg6).2).drew⟩
        · have hok : z.ok k = false := by simpa using hok
          have hT' : ∀ w', Below wr.heap.size wr w' → T1 z f i l st w (j + 1) w' := by
            intro w' hb
            refine ⟨st1, ?_, hco1, hun1, hg1.call hb, hf1.call hb⟩
            rw [he, scan, if_pos (by rw [hok]; simp)]
          have he' := Lib.hid he
          have hT'' := Lib.hid hT'
          clear he hT' htb
          go_wp2_with (first
            | (go_at_call 33; refine (m_has s s1 k _ (by omega) hs64).mono ?_; rintro e w2 ⟨rfl, hb2⟩; rw [htk']; have cC2 := (hg1.call hb2).cells.1)
            | ((with_reducible refine (hcalls'.out _ k ?_ hkC).mono ?_); (focus exact (hg1.call hb2).2.2.2.2.1); rintro e w3 ⟨rfl, hb3⟩; rw [hok]))
          exact round_next hjl (hT''.out _ (hb2.trans (hb3.mono hb2.size)))
    · have hjn : j = n' := by omega
      subst hjn
      have hdn : l.drop j = [] := List.drop_eq_nil_of_le (by have := hlen.out; omega)
      rw [hdn] at he
      have hre : Hid (scan z.ok (tries z.E z.ok f) i l st = (false, st1)) := by
        show _ = _
        rw [he, scan]
      clear he
      go_wp2_with fail
      go_ret
      rw [hre.out]
      exact ⟨rfl, hg1, hco1, hf1⟩

end Go.Proofs.Ytjbhnfejpgjghaa
