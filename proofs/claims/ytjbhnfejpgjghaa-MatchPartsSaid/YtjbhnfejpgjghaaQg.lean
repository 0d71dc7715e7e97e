/- The program's Cover. -/
import Derived.Sort.OwnSortedInts
import Derived.Test.YtjbhnfejpgjghaaQf
namespace Go.Proofs.Ytjbhnfejpgjghaa
open Go.RowKit
set_option linter.unusedSimpArgs false
set_option linter.unusedVariables false

def srt (l : List Int) : List Int := l.mergeSort fun x y => decide (x ≤ y)
theorem srt_len (l : List Int) : (srt l).length = l.length := List.length_mergeSort l
theorem sort_row {w : World} {B : Nat} {v : Value} {l : List Int} (h : RowI w B v l) (hl : l.length ≤ 1000) :
    Calls Try.prog 51 #[v] w fun e w' => e = .returned (.tuple #[]) ∧ RowI w' B v (srt l) ∧ w.grownBy w' v.ownBlock := by
  obtain ⟨h1, h2⟩ := h
  rcases h2 with ⟨rfl, h2⟩ | ⟨g, cap, cur, rfl, h3, h4, h5, h6, h7, h8⟩
  · have : l = [] := List.eq_nil_of_length_eq_zero h2
    subst this
    refine (Try.slices_Sort_int_none none 0 w).mono ?_
    rintro e w' ⟨rfl, rfl⟩
    exact ⟨rfl, by rw [show srt [] = [] from by unfold srt; simp]; exact RowI.nil _ _, ⟨rfl, rfl, rfl, Nat.le_refl _, fun _ _ _ => rfl⟩⟩
  · have ht : cur.toList.take l.length = l.map (Value.int .i64) := by
      have := h8
      rw [Nat.mul_one] at this
      exact this
    refine (Try.slices_Sort_int g 0 cap l w (holds_of_blockI h4 ht) (Array.getElem?_eq_some_iff.1 h4).1 (by omega)).mono ?_
    rintro e w' ⟨rfl, n, os, rfl⟩
    refine ⟨rfl, ?_, ?_⟩
    · have := ownsRow_sortedI (n := n) (os := os) (ss := l) (ts := srt l) (srt_len l) h3 h4 h5 h6 h7
      unfold RowI
      rw [srt_len]
      exact this
    · exact grownBy_sortedI _

theorem wpList_app {ops : Array Oper} {rest : List Oper} {o : Oper} {a : Act} {Q : Exit → Act → World → Prop} {w : World} (hgd : o.guard = none) (s x : Operand)
    (ho : o.op = .call { callee := .builtin .append, args := #[s, x], argTypes := #[23, 23] })
    (B : Nat) (v : Value) (l : List Int) (hs : a.eval s = v) (h : RowI w B v l) (hl : l.length ≤ 1000) (hB : B ≤ w.heap.size)
    (ad : Addr) (c : Nat) (y : Int) (hx : a.eval x = .slice (some ad) 1 c) (hy : ∀ j u, [Value.int .i64 y][j]? = some u → w.cell? (ad.add j) = some u)
    (hK : ∀ v' w', RowI w' B v' (l ++ [y]) → w.grownBy w' v.ownBlock → (v'.ownBlock = v.ownBlock ∨ v'.ownBlock = some w.heap.size) → wpList Try.prog ops Q rest (a.put o.dst v') w') :
    wpList Try.prog ops Q (o :: rest) a w := by
  obtain ⟨i0, hi0, hz0, hz1, hz2⟩ := info_parts infoI
  refine wpList_append_own_at w hgd s x 23 ho B 3 i0 (.int .i64 0) 1 8 Try.underlying23 hi0 hz0 hz1 hz2 rfl (by decide) v l.length (vz l) hs h ad 1 c [.int .i64 y] hx rfl hy (by intro u hu; simp at hu; subst hu; rfl) (by unfold maxLen; omega) (by omega) hB ?_
  intro v' w' h1 h2 h3 h4
  refine hK v' w' ?_ h2 h4
  unfold RowI
  rw [vz_snoc]
  simpa using h1

/-- the columns of the rows that are not reached -/
def cov (rs : Nat → Bool) (row : Nat → Int) : Nat → List Int
  | 0 => []
  | n + 1 => cov rs row n ++ (if rs n = true then [] else if 0 ≤ row n then [row n] else [])
theorem cov_len (rs : Nat → Bool) (row : Nat → Int) : ∀ n, (cov rs row n).length ≤ n := by
  intro n
  induction n with
  | zero => exact Nat.le_refl _
  | succ n ih =>
    unfold cov
    rw [List.length_append]
    split
    · simp; omega
    · split
      · simp; omega
      · simp; omega
def coverT (E : List (List Nat)) (R C : Nat) : List Int × List Int × Int :=
  (shl (goA E C (fill E (fun _ => true) (fun _ => true) C R).1 (fill E (fun _ => true) (fun _ => true) C R).2 C).rs R,
   srt (cov (goA E C (fill E (fun _ => true) (fun _ => true) C R).1 (fill E (fun _ => true) (fun _ => true) C R).2 C).rs (fill E (fun _ => true) (fun _ => true) C R).1 R), 0)
def coverS (rows cols : Int) (ls : List (List Int)) : List Int × List Int × Int := if vErr rows cols ls = 0 then coverT (nE ls) rows.toNat cols.toNat else ([], [], 1)
def PCv (rows cols : Int) (ls : List (List Int)) (w : World) (e : Ending) (w' : World) : Prop :=
  ∃ (A : Option Addr) (n c : Nat) (zs : List Int) (A2 : Option Addr) (n2 c2 : Nat) (zs2 : List Int) (er : Int), e = .returned (.tuple #[.slice A n c, .slice A2 n2 c2, .int .i64 er]) ∧ IL w' A n c zs ∧ IL w' A2 n2 c2 zs2 ∧ Hid (coverS rows cols ls = (zs, zs2, er)) ∧ Below w.heap.size w w'

/-- what the loop leaves as it is -/
structure CE (w : World) (gP gB gRow t t1 R C gCol : Nat) (row : Nat → Int) (B7 : Nat) (wr : World) : Prop where
  lo : Below w.heap.size w wr
  lt : w.heap.size ≤ B7 ∧ gP < B7 ∧ gB < B7 ∧ gRow < B7 ∧ B7 ≤ wr.heap.size
  bP : Blk wr gP 62 #[.slice (some ⟨gRow, 0, none⟩) R R, .slice (some ⟨gCol, 0, none⟩) C C]
  bB : Blk wr gB 55 #[.int .u64 (t : Int), .int .u64 (t1 : Int)]
  row : RF wr gRow R row
theorem CE.fr {w : World} {gP gB gRow t t1 R C gCol : Nat} {row : Nat → Int} {B7 : Nat} {wr w' : World} {xs : List Nat} (h : CE w gP gB gRow t t1 R C gCol row B7 wr) (hf : Fr xs wr w') (hx : ∀ x ∈ xs, B7 ≤ x) : CE w gP gB gRow t t1 R C gCol row B7 w' := by
  obtain ⟨h1, ⟨l1, l2, l3, l4, l5⟩, h2, h3, h4⟩ := h
  have hn : ∀ g, g < B7 → g ∉ xs := fun g hg hm => by have := hx g hm; omega
  exact ⟨h1.trans (hf.below h1.size (fun x hm => by have := hx x hm; omega)), ⟨l1, l2, l3, l4, Nat.le_trans l5 hf.size⟩, hf.blk h2 (hn _ l2), hf.blk h3 (hn _ l3), h4.fr hf (hn _ l4)⟩
theorem CE.call {w : World} {gP gB gRow t t1 R C gCol : Nat} {row : Nat → Int} {B7 : Nat} {wr w' : World} (h : CE w gP gB gRow t t1 R C gCol row B7 wr) (hb : Below wr.heap.size wr w') : CE w gP gB gRow t t1 R C gCol row B7 w' := h.fr (xs := []) ((Fr.refl _ _).call hb) (by simp)
/-- both rows grow -/
structure C2 (B7 : Nat) (rs : Nat → Bool) (row : Nat → Int) (i : Nat) (v8 v9 : Value) (wr : World) : Prop where
  r8 : RowI wr B7 v8 (shl rs i)
  r9 : RowI wr B7 v9 (cov rs row i)
  sep : ∀ g, v8.ownBlock = some g → v9.ownBlock ≠ some g
theorem C2.call {B7 : Nat} {rs : Nat → Bool} {row : Nat → Int} {i : Nat} {v8 v9 : Value} {wr w' : World} (h : C2 B7 rs row i v8 v9 wr) (hb : Below wr.heap.size wr w') : C2 B7 rs row i v8 v9 w' := ⟨h.r8.call hb, h.r9.call hb, h.sep⟩

theorem row_kept {w w1 : World} {B : Nat} {v9 : Value} {l : List Int} {b : Option Nat} (h : RowI w B v9 l) (hg : w.grownBy w1 b) (hne : ∀ g, v9.ownBlock = some g → some g ≠ b) : RowI w1 B v9 l :=
  h.same fun g e => hg.block g (h.at e).2 (hne g e)
theorem C2.push8 {B7 : Nat} {rs : Nat → Bool} {row : Nat → Int} {i : Nat} {v8 v9 v' : Value} {w0 w9 : World} (h : C2 B7 rs row i v8 v9 w0) (hps : shl rs (i + 1) = shl rs i ++ [(i : Int)]) (hcs : cov rs row (i + 1) = cov rs row i)
    (hr : RowI w9 B7 v' (shl rs i ++ [(i : Int)])) (hg : w0.grownBy w9 v8.ownBlock) (hat : v'.ownBlock = v8.ownBlock ∨ v'.ownBlock = some w0.heap.size) : C2 B7 rs row (i + 1) v' v9 w9 := by
  refine ⟨by rw [hps]; exact hr, by rw [hcs]; exact row_kept h.r9 hg (fun g e e2 => h.sep g e2.symm e), fun g e e2 => ?_⟩
  rcases hat with h1 | h1
  · exact h.sep g (h1 ▸ e) e2
  · rw [h1] at e
    injection e with e
    have := (h.r9.at e2).2
    omega
theorem C2.push9 {B7 : Nat} {rs : Nat → Bool} {row : Nat → Int} {i : Nat} {v8 v9 v' : Value} {w0 w9 : World} (h : C2 B7 rs row i v8 v9 w0) (hps : shl rs (i + 1) = shl rs i) (hcs : cov rs row (i + 1) = cov rs row i ++ [row i])
    (hr : RowI w9 B7 v' (cov rs row i ++ [row i])) (hg : w0.grownBy w9 v9.ownBlock) (hat : v'.ownBlock = v9.ownBlock ∨ v'.ownBlock = some w0.heap.size) : C2 B7 rs row (i + 1) v8 v' w9 := by
  refine ⟨by rw [hps]; exact row_kept h.r8 hg (fun g e e2 => h.sep g e e2.symm), by rw [hcs]; exact hr, fun g e e2 => ?_⟩
  rcases hat with h1 | h1
  · exact h.sep g e (h1 ▸ e2)
  · rw [h1] at e2
    injection e2 with e2
    have := (h.r8.at e).2
    omega

set_option maxRecDepth 100000 in
set_option maxHeartbeats 1000000 in
theorem m_cover (rows cols : Int) (A : Option Addr) (n c : Nat) (ls : List (List Int)) (w : World) (hL : L2 w A n c ls) (hr : In64 rows) (hc : In64 cols) :
    Calls Try.prog 21 #[.agg #[.int .i64 rows, .int .i64 cols, .slice A n c]] w (PCv rows cols ls w) := by
  have hu := Try.underlying55
  have hu2 := Try.underlying62
  have hO := Own.one w 33 #[.int .i64 rows, .int .i64 cols, .slice A n c]
  have hV := m_validate rows cols A n c ls _ (hL.below hO.1 (Nat.le_refl _)) hr hc
  have hO' := Lib.hid hO
  rcases vErr_two rows cols ls with h0 | h1
  · rw [h0] at hV
    have hV' := Lib.hid hV
    obtain ⟨e1, e2, hI, hnn⟩ := inc_of h0
    have hN := n2_of hL hnn
    have hS : Hid (coverS rows cols ls = coverT (nE ls) rows.toNat cols.toNat) := if_pos h0
    unfold PCv
    obtain ⟨S, hS2⟩ : ∃ S, S = coverS rows cols ls := ⟨_, rfl⟩
    rw [← hS2] at hS ⊢
    obtain ⟨R, hR⟩ : ∃ R, R = rows.toNat := ⟨_, rfl⟩
    obtain ⟨C, hC⟩ : ∃ C, C = cols.toNat := ⟨_, rfl⟩
    rw [← hR, ← hC] at hS hI
    rw [← hR] at e1
    rw [← hC] at e2
    have hR64 := hI.1
    have hnR : n = R := by have := hN.1; have := hI.2.2.1; omega
    obtain ⟨row, hrow⟩ : ∃ row, row = (fill (nE ls) (fun _ => true) (fun _ => true) C R).1 := ⟨_, rfl⟩
    obtain ⟨col, hcol⟩ : ∃ col, col = (fill (nE ls) (fun _ => true) (fun _ => true) C R).2 := ⟨_, rfl⟩
    have hrl : Hid (∀ r, r < R → 0 ≤ row r → (row r).toNat < C) := fun r hr hp => by
      have h := (fill_mx (R := R) hI.2.2.2).co
      rw [← hrow] at h
      exact (h.ra r hr hp).1
    obtain ⟨rs, hrs⟩ : ∃ rs, rs = (goA (nE ls) C row col C).rs := ⟨_, rfl⟩
    have hS1 : Hid (S = (shl rs R, srt (cov rs row R), 0)) := by show _ = _; rw [hS.out]; unfold coverT; rw [← hrow, ← hcol, ← hrs]
    have hrow' := Lib.hid hrow
    have hcol' := Lib.hid hcol
    have hrs' := Lib.hid hrs
    have hI' := Lib.hid hI
    clear hV hS2 hR hC h0 hI hrow hcol hrs hS
    subst e1 e2 hnR
    go_enter Try.func21, Try.ntmps21
    go_upto_region 6 with (first
      | (go_at_call 27; (with_reducible refine hV'.out.mono ?_); rintro e w2 ⟨rfl, hb2⟩; have hO2 := Lib.hid (hO'.out.call hb2); obtain ⟨m0, m1, m2⟩ := cells3 hO2.out.b0)
      | (go_at_call 39; refine (match_all hI'.out w.heap.size A n c w2 w.heap.size (.cells #[.int .i64 (n : Int), .int .i64 (C : Int), .slice A n c] 33 (0, 0)) ⟨hO2.out.b0, hO2.out.b0.lt⟩ hO2.out.1.size (hN.below hO2.out.1)).mono ?_; rintro e w3 ⟨gr, gc, hg1, hg2, hg3, rfl, hrr, hrc, hb3⟩; rw [← hrow'.out] at hrr; rw [← hcol'.out] at hrc; have hb4 : Below w3.heap.size w3 (w3.alloc (.cells #[.slice (some ⟨gr, 0, none⟩) n n, .slice (some ⟨gc, 0, none⟩) C C] 62)) := (Below.refl _ _).alloc (Nat.le_refl _) _; have hO4 := Lib.hid ((hO2.out.call hb3).call hb4); have hrr4 := hrr.call hb4; have hrc4 := hrc.call hb4; have hP4 := Blk.new w3 62 #[.slice (some ⟨gr, 0, none⟩) n n, .slice (some ⟨gc, 0, none⟩) C C]; obtain ⟨k0, k1, -⟩ := blkP hP4; clear m0 m1 m2; obtain ⟨m0, m1, m2⟩ := cells3 hO4.out.b0)
      | (go_at_call 45; refine (m_reached hI'.out row col hrl.out w.heap.size A c gr gc _ hO4.out.1.size (hN.below hO4.out.1) hrr4 hrc4).mono ?_; rintro e w5 ⟨t, t1, ht64, htb, rfl, hb5⟩; rw [← hrs'.out] at htb))
    have h5s := hb5.size
    have hb6 : Below w3.heap.size w3 (w5.alloc (.cells #[.int .u64 (t : Int), .int .u64 (t1 : Int)] 55)) := hb4.trans ((hb5.mono hb4.size).trans ((Below.refl _ _).alloc (Nat.le_trans hb4.size hb5.size) _))
    have hw3s : w.heap.size ≤ w3.heap.size := Nat.le_trans hO2.out.1.size hb3.size
    obtain ⟨w6, hw6⟩ : ∃ w6, w6 = w5.alloc (.cells #[.int .u64 (t : Int), .int .u64 (t1 : Int)] 55) := ⟨_, rfl⟩
    have hBb : Blk w6 w5.heap.size 55 #[.int .u64 (t : Int), .int .u64 (t1 : Int)] := by rw [hw6]; exact Blk.new _ _ _
    have hPp : Blk w6 w3.heap.size 62 #[.slice (some ⟨gr, 0, none⟩) n n, .slice (some ⟨gc, 0, none⟩) C C] := by rw [hw6]; exact (hP4.call hb5).alloc _
    have hlo6 : Below w.heap.size w w6 := by rw [hw6]; exact (hO2.out.call hb3).1.trans (hb6.mono hw3s)
    have hrr6 : RF w6 gr n row := by rw [hw6]; exact hrr.call hb6
    have cM0 : w6.cell? ⟨w.heap.size, 0, none⟩ = some (.int .i64 (n : Int)) := by rw [hw6]; exact (((hO4.out.call hb5).b0).alloc _).cell 0
    obtain ⟨B7, hB7⟩ : ∃ B7, B7 = w6.heap.size := ⟨_, rfl⟩
    have hCE : Hid (CE w w3.heap.size w5.heap.size gr t t1 n C gc row B7 w6) := ⟨hlo6, ⟨by rw [hB7]; exact hlo6.size, by rw [hB7]; exact hPp.lt, by rw [hB7]; exact hBb.lt, by rw [hB7]; exact hrr6.lt, by rw [hB7]; exact Nat.le_refl _⟩, hPp, hBb, hrr6⟩
    have hC2 : Hid (C2 B7 rs row 0 (.slice none 0 0) (.slice none 0 0) w6) := ⟨RowI.nil _ _, RowI.nil _ _, fun g h => by cases h⟩
    obtain ⟨gP, hgP⟩ : ∃ gP, gP = w3.heap.size := ⟨_, rfl⟩
    obtain ⟨gB, hgB⟩ : ∃ gB, gB = w5.heap.size := ⟨_, rfl⟩
    rw [← hw6]
    rw [← hgP, ← hgB] at hCE ⊢
    have htb' := Lib.hid htb
    clear hgP hgB hw6 hBb hPp hlo6 hrr6 hB7 hb6 h5s hw3s htb hb5 hb4 hO4 hrr4 hrc4 hP4 k0 k1 m0 m1 m2 hb3 hO2 hb2 hrr hrc hg1 hg2 hg3 hO
    go_wp2_with fail
    go_loopw [8, 9, 23] (fun v8 v9 v23 wr => ∃ i : Nat, i ≤ n ∧ v23 = .int .i64 (i : Int) ∧ Hid (CE w gP gB gr t t1 n C gc row B7 wr) ∧ Hid (C2 B7 rs row i v8 v9 wr)) (fun _ _ i _ => n - (intOf i).toNat)
    case atStart => exact ⟨0, by omega, rfl, hCE, hC2⟩
    case round =>
      clear hCE hC2 cM0
      obtain ⟨i, hi, rfl, hE, hq⟩ := hrel
      by_cases hin : i < n
      · have cS0 := hE.out.bB.cell 0
        have cS1 := hE.out.bB.cell 1
        have htk : t.testBit i = rs i := htb'.out i (by omega)
        have hinR : (i : Int) < (n : Int) := by omega
        have hpl := shl_len rs i
        have hcl := cov_len rs row i
        have hps := shl_succ rs i
        have hcs : cov rs row (i + 1) = cov rs row i ++ (if rs i = true then [] else if 0 ≤ row i then [row i] else []) := rfl
        cases hsi : rs i
        · rw [hsi] at htk hps hcs
          have cP0 := hE.out.bP.cell 0
          have cRi := hE.out.row.cell hin
          have hps' : Hid (shl rs (i + 1) = shl rs i) := by show _ = _; rw [hps]; simp
          by_cases hp : 0 ≤ row i
          · have hp' : decide (0 ≤ row i) = true := by simpa using hp
            have hcs' : Hid (cov rs row (i + 1) = cov rs row i ++ [row i]) := by show _ = _; rw [hcs, if_neg (by simp), if_pos hp]
            clear hps hsi hcs
            go_upto_region 13 with (first
              | (go_at_call 33; refine (m_has t t1 i _ (by omega) ht64).mono ?_; rintro e w8 ⟨rfl, hb8⟩; rw [htk]; have hE8 := hE.out.call hb8; have hq8 := hq.out.call hb8; have cP8 := hE8.bP.cell 0; have cR8 := hE8.row.cell hin))
            have hB8 := hE8.lt.2.2.2.2
            go_wp2_with (at_builtin; refine wpList_app rfl _ _ rfl B7 _ _ rfl (hq8.r9.more _) (by omega) (by simp; omega) ⟨w8.heap.size, 0, none⟩ 1 (row i) rfl (cell_one_new _ _ _) ?_; intro v' w9 hr9 hg9 hat9)
            have hba : Below w8.heap.size w8 (w8.alloc (.cells #[.int .i64 (row i)] 3)) := (Below.refl _ _).alloc (Nat.le_refl _) _
            have hq9 : Hid (C2 B7 rs row (i + 1) u8 v' w9) := (hq8.call hba).push9 hps'.out hcs'.out hr9 hg9 hat9
            have hE9 : Hid (CE w gP gB gr t t1 n C gc row B7 w9) := (hE8.call hba).fr (Fr.grown hg9) (fun x hx => (hq8.r9.at (mem_obs.1 hx)).1)
            go_roundw
            case rel => exact ⟨i + 1, by omega, by go_num, hE9, hq9⟩
            case measure => simp [intOf]; omega
          · have hp' : decide (0 ≤ row i) = false := by simpa using hp
            have hcs' : Hid (cov rs row (i + 1) = cov rs row i) := by show _ = _; rw [hcs, if_neg (by simp), if_neg hp]; simp
            clear hps hsi hcs
            go_wp2_with (first
              | (go_at_call 33; refine (m_has t t1 i _ (by omega) ht64).mono ?_; rintro e w8 ⟨rfl, hb8⟩; rw [htk]; have hE8 := hE.out.call hb8; have hq8 := hq.out.call hb8; have cP8 := hE8.bP.cell 0; have cR8 := hE8.row.cell hin))
            have hq9 : Hid (C2 B7 rs row (i + 1) u8 u9 w8) := ⟨by rw [hps'.out]; exact hq8.r8, by rw [hcs'.out]; exact hq8.r9, hq8.sep⟩
            go_roundw
            case rel => exact ⟨i + 1, by omega, by go_num, hE8, hq9⟩
            case measure => simp [intOf]; omega
        · rw [hsi] at htk hps hcs
          have hps' : Hid (shl rs (i + 1) = shl rs i ++ [(i : Int)]) := by show _ = _; rw [hps]; simp
          have hcs' : Hid (cov rs row (i + 1) = cov rs row i) := by show _ = _; rw [hcs]; simp
          clear hps hsi hcs
          go_upto_region 11 with (first
            | (go_at_call 33; refine (m_has t t1 i _ (by omega) ht64).mono ?_; rintro e w8 ⟨rfl, hb8⟩; rw [htk]))
          have hE8 := hE.out.call hb8
          have hq8 := hq.out.call hb8
          have hB8 := hE8.lt.2.2.2.2
          go_wp2_with (at_builtin; refine wpList_app rfl _ _ rfl B7 _ _ rfl (hq8.r8.more _) (by omega) (by simp; omega) ⟨w8.heap.size, 0, none⟩ 1 (i : Int) rfl (cell_one_new _ _ _) ?_; intro v' w9 hr9 hg9 hat9)
          have hba : Below w8.heap.size w8 (w8.alloc (.cells #[.int .i64 (i : Int)] 3)) := (Below.refl _ _).alloc (Nat.le_refl _) _
          have hq9 : Hid (C2 B7 rs row (i + 1) v' u9 w9) := (hq8.call hba).push8 hps'.out hcs'.out hr9 hg9 hat9
          have hE9 : Hid (CE w gP gB gr t t1 n C gc row B7 w9) := (hE8.call hba).fr (Fr.grown hg9) (fun x hx => (hq8.r8.at (mem_obs.1 hx)).1)
          go_roundw
          case rel => exact ⟨i + 1, by omega, by go_num, hE9, hq9⟩
          case measure => simp [intOf]; omega
      · have hin' : i = n := by omega
        subst hin'
        have hsl := shl_len rs i
        have hcl := cov_len rs row i
        obtain ⟨A8, c8, rfl⟩ := hq.out.r8.form
        obtain ⟨A9, c9, rfl⟩ := hq.out.r9.form
        go_wp2_with (go_at_call 51; refine (sort_row hq.out.r9 (by omega)).mono ?_; rintro e w8 ⟨rfl, hr8, hg8⟩)
        go_ret3
        obtain ⟨A1, n1, c1, he1, hil1⟩ := (row_kept hq.out.r8 hg8 (fun g e e2 => hq.out.sep g e e2.symm)).il (by omega)
        obtain ⟨A2, n2, c2, he2, hil2⟩ := hr8.il (by rw [srt_len]; omega)
        rw [he1, he2]
        exact ⟨_, _, _, _, _, _, _, _, _, rfl, hil1, hil2, hS1, hE.out.lo.grown hg8 hE.out.lo.size (fun b hb => by have := (hq.out.r9.at hb).1; have := hE.out.lt.1; omega)⟩
  · rw [h1] at hV
    have hV' := Lib.hid hV
    have hS : Hid (coverS rows cols ls = ([], [], 1)) := if_neg (by rw [h1]; omega)
    clear hV h1
    unfold PCv
    obtain ⟨S, hS2⟩ : ∃ S, S = coverS rows cols ls := ⟨_, rfl⟩
    rw [← hS2] at hS ⊢
    clear hS2 hO
    go_enter Try.func21, Try.ntmps21
    go_wp2_with (first
      | (go_at_call 27; (with_reducible refine hV'.out.mono ?_); rintro e w2 ⟨rfl, hb2⟩; have hO2 := Lib.hid (hO'.out.call hb2)))
    go_ret3
    exact ⟨_, _, _, _, _, _, _, _, _, rfl, IL.nil _, IL.nil _, hS, hO2.out.1⟩

end Go.Proofs.Ytjbhnfejpgjghaa
