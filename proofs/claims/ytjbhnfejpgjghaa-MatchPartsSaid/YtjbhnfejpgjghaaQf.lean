/- The program's Short. -/
import Derived.Test.YtjbhnfejpgjghaaQe
import Derived.Test.YtjbhnfejpgjghaaPf
namespace Go.Proofs.Ytjbhnfejpgjghaa
open Go.RowKit
set_option linter.unusedSimpArgs false
set_option linter.unusedVariables false

def shl (s : Nat → Bool) (n : Nat) : List Int := ((List.range n).filter s).map fun (i : Nat) => (i : Int)
theorem shl_succ (s : Nat → Bool) (n : Nat) : shl s (n + 1) = shl s n ++ (if s n = true then [(n : Int)] else []) := by
  unfold shl
  rw [List.range_succ, List.filter_append, List.map_append]
  cases h : s n <;> simp [h]
theorem shl_len (s : Nat → Bool) (n : Nat) : (shl s n).length ≤ n := by
  unfold shl
  rw [List.length_map]
  have := List.length_filter_le s (List.range n)
  simpa using this
def ShortOk (E : List (List Nat)) (R : Nat) (out : Nat → Int) : Prop := ∀ i0 : Nat, Lib.idxOf ((List.range R).map out) (-1) = (i0 : Int) → ∃ X : Nat → Prop, X i0 ∧ ∀ r, X r → r < R ∧ ∀ k ∈ E.getD r [], 0 ≤ Lib.idxOf ((List.range R).map out) (k : Int) ∧ X (nxt out R k)
def shortT (E : List (List Nat)) (R : Nat) (out : Nat → Int) : List Int × Bool × Int :=
  if Lib.idxOf ((List.range R).map out) (-1) < 0 then ([], false, 0)
  else (shl (goS E (nxt out R) (R + 1) (Lib.idxOf ((List.range R).map out) (-1)).toNat (fun _ => false)) R, true, 0)
/-- what Short answers -/
def shortS (rows cols : Int) (ls : List (List Int)) : List Int × Bool × Int :=
  if vErr rows cols ls = 0 then shortT (nE ls) rows.toNat (lst (nE ls) rows.toNat cols.toNat rows.toNat).out else ([], false, 1)

def PSt (rows cols : Int) (ls : List (List Int)) (w : World) (e : Ending) (w' : World) : Prop :=
  ∃ (A : Option Addr) (n c : Nat) (out : List Int) (is : Bool) (er : Int), e = .returned (.tuple #[.slice A n c, .bool is, .int .i64 er]) ∧ IL w' A n c out ∧ Hid (shortS rows cols ls = (out, is, er)) ∧ Below w.heap.size w w'

def tt (n g gO B : Nat) (AE : Option Addr) (cE R C : Nat) (E : List (List Nat)) (out : Nat → Int) (X : Nat → Prop) : ST := ⟨g + 1, n, g + 1 + 1, g, gO, B, AE, cE, R, C, E, out, X⟩
theorem go_short' (n g gO B : Nat) (AE : Option Addr) (cE R C : Nat) (E : List (List Nat)) (out : Nat → Int) (X : Nat → Prop) (hz : (tt n g gO B AE cE R C E out X).Fine) (f i : Nat) (s : Nat → Bool) (w : World) (hi : X i) (hu : uns R s < f) (h : SS (tt n g gO B AE cE R C E out X) s w) :
    Calls Try.prog 53 #[.int .i64 (i : Int), .pointer (some ⟨g + 1, 0, none⟩), .pointer (some ⟨n, 0, none⟩), .pointer (some ⟨g + 1 + 1, 0, none⟩), .pointer (some ⟨g, 0, none⟩)] w (PSh (tt n g gO B AE cE R C E out X) w (goS E (nxt out R) f i s)) := go_short (tt n g gO B AE cE R C E out X) hz f i s w hi hu h

/-- what the last loop leaves as it is -/
structure TE (w : World) (gS t t1 : Nat) (wr : World) : Prop where
  lo : Below w.heap.size w wr
  gs : w.heap.size ≤ gS
  bS : Blk wr gS 55 #[.int .u64 (t : Int), .int .u64 (t1 : Int)]

set_option maxRecDepth 100000 in
set_option maxHeartbeats 1000000 in
theorem m_short (rows cols : Int) (A : Option Addr) (n c : Nat) (ls : List (List Int)) (w : World) (hL : L2 w A n c ls) (hr : In64 rows) (hc : In64 cols) (hok : ∀ R C, Inc R C (nE ls) → ShortOk (nE ls) R (lst (nE ls) R C R).out) :
    Calls Try.prog 22 #[.agg #[.int .i64 rows, .int .i64 cols, .slice A n c]] w (PSt rows cols ls w) := by
  have hu := Try.underlying55
  have hmf : ∀ (fn : Fn) (first cap : Array Value) (w : World), (Instr.makeFunc fn first cap).run Try.prog w = .ok (.func fn first cap) w := fun _ _ _ _ => rfl
  have hO := Own.one w 33 #[.int .i64 rows, .int .i64 cols, .slice A n c]
  have hV := m_validate rows cols A n c ls _ (hL.below hO.1 (Nat.le_refl _)) hr hc
  have hO' := Lib.hid hO
  rcases vErr_two rows cols ls with h0 | h1
  · rw [h0] at hV
    have hV' := Lib.hid hV
    obtain ⟨e1, e2, hI, hnn⟩ := inc_of h0
    have hN := n2_of hL hnn
    have hS : Hid (shortS rows cols ls = shortT (nE ls) rows.toNat (lst (nE ls) rows.toNat cols.toNat rows.toNat).out) := if_pos h0
    have hok' := hok rows.toNat cols.toNat hI
    unfold PSt
    obtain ⟨S, hS2⟩ : ∃ S, S = shortS rows cols ls := ⟨_, rfl⟩
    rw [← hS2] at hS ⊢
    obtain ⟨R, hR⟩ : ∃ R, R = rows.toNat := ⟨_, rfl⟩
    obtain ⟨C, hC⟩ : ∃ C, C = cols.toNat := ⟨_, rfl⟩
    rw [← hR, ← hC] at hS hI hok'
    rw [← hR] at e1
    rw [← hC] at e2
    obtain ⟨out, hout⟩ : ∃ out, out = (lst (nE ls) R C R).out := ⟨_, rfl⟩
    rw [← hout] at hS hok'
    have hI' := Lib.hid hI
    have hR64 := hI.1
    have hnR : n = R := by have := hN.1; have := hI.2.2.1; omega
    have hout' := Lib.hid hout
    have hokh := Lib.hid hok'
    clear hV hS2 hR hC h0 hout hok hok'
    subst e1 e2 hnR
    obtain ⟨fr, hfr⟩ : ∃ fr, fr = Lib.idxOf ((List.range n).map out) (-1) := ⟨_, rfl⟩
    have hfr' := Lib.hid hfr
    clear hfr hI
    by_cases hneg : fr < 0
    · have hS1 : Hid (S = ([], false, 0)) := by show _ = _; rw [hS.out]; unfold shortT; rw [← hfr'.out, if_pos hneg]
      have hneg' : decide (fr < 0) = true := by simpa using hneg
      clear hS
      go_enter Try.func22, Try.ntmps22
      go_wp2_with (first
        | (go_at_call 27; (with_reducible refine hV'.out.mono ?_); rintro e w2 ⟨rfl, hb2⟩; have hO2 := Lib.hid (hO'.out.call hb2); obtain ⟨m0, m1, m2⟩ := cells3 hO2.out.b0)
        | (go_at_call 50; refine (m_least hI'.out w.heap.size A n c _ hO2.out.1.size (hN.below hO2.out.1)).mono ?_; rintro e w3 ⟨g, hg, rfl, hrf, hb3⟩; rw [← hout'.out] at hrf; have hO3 := Lib.hid (hO2.out.call hb3); have hrf4 := hrf.more (.cells #[.slice (some ⟨g, 0, none⟩) n n] 23))
        | (go_at_call 52; refine (index_rf hrf4 (by omega) (-1)).mono ?_; rintro e w9 ⟨rfl, rfl⟩; rw [← hfr'.out]))
      go_ret3
      exact ⟨_, _, _, _, _, _, rfl, IL.nil _, hS1, (hO3.out.1.alloc hO3.out.1.size _)⟩
    · have hneg' : decide (fr < 0) = false := by simpa using hneg
      obtain ⟨i0, hi0⟩ : ∃ i0 : Nat, fr = (i0 : Int) := ⟨fr.toNat, by omega⟩
      subst hi0
      obtain ⟨X, hX0, hX⟩ := hokh.out i0 hfr'.out.symm
      obtain ⟨s, hs⟩ : ∃ s, s = goS (nE ls) (nxt out n) (n + 1) i0 (fun _ => false) := ⟨_, rfl⟩
      have hS1 : Hid (S = (shl s n, true, 0)) := by
        show _ = _
        rw [hS.out]
        unfold shortT
        rw [← hfr'.out, if_neg hneg, hs, Int.toNat_natCast]
      have hs' := Lib.hid hs
      have hX' := Lib.hid hX
      obtain ⟨j0, hj0, yz0, yz1, yz2⟩ := info_parts infoI
      clear hS hs hX hneg
      go_enter Try.func22, Try.ntmps22
      go_upto_region 12 with (first
        | (go_at_call 27; (with_reducible refine hV'.out.mono ?_); rintro e w2 ⟨rfl, hb2⟩; have hO2 := Lib.hid (hO'.out.call hb2); obtain ⟨m0, m1, m2⟩ := cells3 hO2.out.b0)
        | (go_at_call 50; refine (m_least hI'.out w.heap.size A n c _ hO2.out.1.size (hN.below hO2.out.1)).mono ?_; rintro e w3 ⟨g, hg, rfl, hrf, hb3⟩; rw [← hout'.out] at hrf; have hO3 := Lib.hid (hO2.out.call hb3); have hrf4 := hrf.more (.cells #[.slice (some ⟨g, 0, none⟩) n n] 23))
        | (go_at_call 52; refine (index_rf hrf4 (by omega) (-1)).mono ?_; rintro e w9 ⟨rfl, rfl⟩; rw [← hfr'.out]))
      have h3s : w.heap.size + 1 ≤ w3.heap.size := hO3.out.2.1
      have hgl : g < w3.heap.size := hrf.lt
      have hgg : w.heap.size ≤ g := Nat.le_trans hO2.out.1.size hg
      have hzf : ST.Fine (tt w.heap.size w3.heap.size g w.heap.size A c n C (nE ls) out X) := ⟨hI'.out, by show w.heap.size ≤ w3.heap.size + 1; omega, fun x hx => by
        have hx' : x = w.heap.size ∨ x = w3.heap.size + 1 + 1 ∨ x = w3.heap.size ∨ x = g := by simpa [tt] using hx
        show x ≠ w3.heap.size + 1
        omega, hX'.out⟩
      have hT := Own.three w3 23 55 65 #[.slice (some ⟨g, 0, none⟩) n n] #[.int .u64 0, .int .u64 0] #[.func (.func 53) #[] #[.pointer (some ⟨w3.heap.size + 1, 0, none⟩), .pointer (some ⟨w.heap.size, 0, none⟩), .pointer (some ⟨w3.heap.size + 1 + 1, 0, none⟩), .pointer (some ⟨w3.heap.size, 0, none⟩)]]
      obtain ⟨w5, hw5⟩ : ∃ w5, w5 = (((w3.alloc (.cells #[.slice (some ⟨g, 0, none⟩) n n] 23)).alloc (.cells #[.int .u64 0, .int .u64 0] 55)).alloc (.cells #[.func (.func 53) #[] #[.pointer (some ⟨w3.heap.size + 1, 0, none⟩), .pointer (some ⟨w.heap.size, 0, none⟩), .pointer (some ⟨w3.heap.size + 1 + 1, 0, none⟩), .pointer (some ⟨w3.heap.size, 0, none⟩)]] 65)) := ⟨_, rfl⟩
      rw [← hw5] at hT ⊢
      have hO5 := hO3.out.call hT.1
      have hSS : SS (tt w.heap.size w3.heap.size g w.heap.size A c n C (nE ls) out X) (fun _ => false) w5 := ⟨hO5.b0, hT.2.2 2 _ _ rfl, hT.2.2 0 _ _ rfl, hN.below hO5.1, hrf.call hT.1, hO5.1.size, ⟨0, 0, by omega, hT.2.2 1 _ _ rfl, fun k _ => by simp⟩⟩
      have hSS' := Lib.hid hSS
      have hzf' := Lib.hid hzf
      have cF : w5.cell? ⟨w3.heap.size + 1 + 1, 0, none⟩ = some (.func (.func 53) #[] #[.pointer (some ⟨w3.heap.size + 1, 0, none⟩), .pointer (some ⟨w.heap.size, 0, none⟩), .pointer (some ⟨w3.heap.size + 1 + 1, 0, none⟩), .pointer (some ⟨w3.heap.size, 0, none⟩)]) := hSS.bF.cell 0
      have hb5 := Lib.hid hO5.1
      have h3s' := Lib.hid h3s
      have hX0' := Lib.hid hX0
      clear hw5 hT hO5 hSS hzf hrf hrf4 m0 m1 m2 hO3 hO2 hb2 hb3 hg hgl hgg h3s hX0
      go_upto_region 13 with (go_at_call 53; refine (go_short' w.heap.size w3.heap.size g w.heap.size A c n C (nE ls) out X hzf'.out (n + 1) i0 (fun _ => false) w5 hX0'.out (by have := uns_all n (fun _ => false); omega) hSS'.out).mono ?_; rintro e w7 ⟨rfl, hSS7, hF7⟩)
      have hb7 : Hid (Below w.heap.size w w7) := hb5.out.trans (hF7.below hb5.out.size (by have := h3s'.out; simp [tt]; omega))
      have cR0 : w7.cell? ⟨w.heap.size, 0, none⟩ = some (.int .i64 (n : Int)) := hSS7.bM.cell 0
      obtain ⟨t, t1, ht64, hbS, htb⟩ := hSS7.cs
      obtain ⟨gS, hgS⟩ : ∃ gS, gS = w3.heap.size + 1 := ⟨_, rfl⟩
      have hbS2 : Blk w7 gS 55 #[.int .u64 (t : Int), .int .u64 (t1 : Int)] := by rw [hgS]; exact hbS
      have hTE : Hid (TE w gS t t1 w7) := ⟨hb7.out, by have := h3s'.out; omega, hbS2⟩
      have htb2 : Hid (∀ k, k < 64 → t.testBit k = s k) := fun k hk => by rw [hs'.out]; exact htb k hk
      obtain ⟨B7, hB7⟩ : ∃ B7, B7 = w7.heap.size := ⟨_, rfl⟩
      have hgB : gS < B7 := by rw [hB7]; exact hbS2.lt
      have hwB : w.heap.size ≤ B7 := by rw [hB7]; exact hb7.out.size
      have hst : Hid (RowI w7 B7 (.slice none 0 0) (shl s 0)) := RowI.nil _ _
      rw [← hgS]
      have hB7' : B7 ≤ w7.heap.size := by omega
      clear hgS hbS htb hSS7 hF7 hbS2 hB7 cF hzf' hSS'
      go_wp2_with fail
      go_loopw [8, 29] (fun v8 v29 wr => ∃ i : Nat, i ≤ n ∧ v29 = .int .i64 (i : Int) ∧ Hid (RowI wr B7 v8 (shl s i)) ∧ Hid (TE w gS t t1 wr) ∧ Hid (B7 ≤ wr.heap.size)) (fun _ i _ => n - (intOf i).toNat)
      case atStart => exact ⟨0, by omega, rfl, hst, hTE, hB7'⟩
      case round =>
        clear hst hTE hB7' cR0
        obtain ⟨i, hi, rfl, hq, hE, hsz⟩ := hrel
        by_cases hin : i < n
        · have hps := shl_succ s i
          have cS0 := hE.out.bS.cell 0
          have cS1 := hE.out.bS.cell 1
          have htk : t.testBit i = s i := htb2.out i (by omega)
          have hinR : (i : Int) < (n : Int) := by omega
          have hpl := shl_len s i
          cases hsi : s i
          · rw [hsi] at htk hps
            have hps' : Hid (shl s (i + 1) = shl s i) := by show _ = _; rw [hps]; simp
            clear hps hsi
            go_wp2_with (first
              | (go_at_call 33; refine (m_has t t1 i _ (by omega) ht64).mono ?_; rintro e w8 ⟨rfl, hb8⟩; rw [htk]))
            go_roundw
            case rel => exact ⟨i + 1, by omega, by go_num, by rw [hps'.out]; exact hq.out.call hb8, ⟨hE.out.lo.trans (hb8.mono hE.out.lo.size), hE.out.gs, hE.out.bS.call hb8⟩, Nat.le_trans hsz.out hb8.size⟩
            case measure => simp [intOf]; omega
          · rw [hsi] at htk hps
            have hps' : Hid (shl s (i + 1) = shl s i ++ [(i : Int)]) := by show _ = _; rw [hps]; simp
            clear hps hsi
            go_upto_region 17 with (first
              | (go_at_call 33; refine (m_has t t1 i _ (by omega) ht64).mono ?_; rintro e w8 ⟨rfl, hb8⟩; rw [htk]))
            have hr8 := hq.out.call hb8
            have hE8 : TE w gS t t1 w8 := ⟨hE.out.lo.trans (hb8.mono hE.out.lo.size), hE.out.gs, hE.out.bS.call hb8⟩
            have hsz8 := Nat.le_trans hsz.out hb8.size
            go_wp2_with (at_builtin; refine wpList_append_own _ rfl _ _ 23 rfl B7 3 j0 (.int .i64 0) 1 8 Try.underlying23 hj0 yz0 yz1 yz2 rfl (by decide) _ (shl s i).length (vz (shl s i)) rfl (hr8.more _) ⟨w8.heap.size, 0, none⟩ 1 1 [.int .i64 (i : Int)] rfl rfl (cell_one_new _ _ _) (by intro u hu; simp at hu; subst hu; rfl) (by unfold maxLen; omega) (by omega) (by simp; omega) ?_; intro v' w9 hRow9 hgr9 hnil9)
            have hr9 : Hid (RowI w9 B7 v' (shl s (i + 1))) := by
              show RowI _ _ _ _
              unfold RowI
              rw [hps'.out, vz_snoc]
              simpa using hRow9
            have hb9 : Below w8.heap.size w8 (w8.alloc (.cells #[.int .i64 (i : Int)] 3)) := (Below.refl _ _).alloc (Nat.le_refl _) _
            have hat : ∀ x, u8.ownBlock = some x → B7 ≤ x := fun x hx => (hr8.at hx).1
            have hE9 : Hid (TE w gS t t1 w9) := ⟨(hE8.lo.trans (hb9.mono hE8.lo.size)).grown hgr9 (Nat.le_trans hE8.lo.size hb9.size) (fun b hb => by have := hat b hb; omega), hE8.gs, (hE8.bS.call hb9).grown hgr9 (fun e => by have := hat gS e.symm; omega)⟩
            have hsz9 : Hid (B7 ≤ w9.heap.size) := Nat.le_trans (Nat.le_trans hsz8 hb9.size) hgr9.size
            go_roundw
            case rel => exact ⟨i + 1, by omega, by go_num, hr9, hE9, hsz9⟩
            case measure => simp [intOf]; omega
        · have hin' : i = n := by omega
          subst hin'
          have hsl := shl_len s i
          obtain ⟨A', n', c', rfl, hil⟩ := hq.out.il (by omega)
          go_wp2_with fail
          go_ret3
          exact ⟨_, _, _, _, _, _, rfl, hil, hS1, hE.out.lo⟩
  · rw [h1] at hV
    have hV' := Lib.hid hV
    have hS : Hid (shortS rows cols ls = ([], false, 1)) := if_neg (by rw [h1]; omega)
    clear hV h1
    unfold PSt
    obtain ⟨S, hS2⟩ : ∃ S, S = shortS rows cols ls := ⟨_, rfl⟩
    rw [← hS2] at hS ⊢
    clear hS2 hO
    go_enter Try.func22, Try.ntmps22
    go_wp2_with (first
      | (go_at_call 27; (with_reducible refine hV'.out.mono ?_); rintro e w2 ⟨rfl, hb2⟩; have hO2 := Lib.hid (hO'.out.call hb2)))
    go_ret3
    exact ⟨_, _, _, _, _, _, rfl, IL.nil _, hS, hO2.out.1⟩

end Go.Proofs.Ytjbhnfejpgjghaa
