/- The greatest weight: what is computed (plain), for the program and the reference. -/
import Derived.Test.YtjbhnfejpgjghaaMc
import Derived.Test.YtjbhnfejpgjghaaNo
import Derived.Test.YtjbhnfejpgjghaaMi
namespace Go.Proofs.Ytjbhnfejpgjghaa
open Go.RowKit
set_option linter.unusedSimpArgs false
set_option linter.unusedVariables false

/-- one row's columns from the k-th on; out is the best so far -/
def heavyL (rec : Nat → Int) (s : Nat) : Nat → List Int → Int → Int
  | _, [], out => out
  | k, x :: xs, out => if (decide (x < 0) || s.testBit k) = true then heavyL rec s (k + 1) xs out
    else heavyL rec s (k + 1) xs (if 0 ≤ rec (s ||| 2 ^ k) then max out (rec (s ||| 2 ^ k) + x) else out)

/-- the greatest sum of the last m rows with the columns that are not in s, -1 for none -/
def heavy (ls : List (List Int)) : Nat → Nat → Int
  | 0, _ => 0
  | m + 1, s => heavyL (heavy ls m) s 0 (ls.getD (ls.length - (m + 1)) []) (-1)

theorem heavyL_bd {rec : Nat → Int} {s : Nat} {B : Int} (hB : ∀ t, -1 ≤ rec t ∧ rec t ≤ B) (h0 : 0 ≤ B) : ∀ (l : List Int) (k : Nat) (out : Int), (∀ x ∈ l, x ≤ 3) → -1 ≤ out → out ≤ B + 3 → -1 ≤ heavyL rec s k l out ∧ heavyL rec s k l out ≤ B + 3 := by
  intro l
  induction l with
  | nil => intro k out _ h1 h2; exact ⟨h1, h2⟩
  | cons x l ih =>
    intro k out hx h1 h2
    have hx3 := hx x (List.mem_cons_self ..)
    have hl : ∀ y ∈ l, y ≤ 3 := fun y hy => hx y (List.mem_cons_of_mem _ hy)
    unfold heavyL
    split
    · exact ih _ _ hl h1 h2
    · have := hB (s ||| 2 ^ k)
      apply ih _ _ hl
      · split <;> omega
      · split <;> omega

theorem heavy_bd {ls : List (List Int)} (h : ∀ l ∈ ls, ∀ x ∈ l, x ≤ 3) : ∀ m s, -1 ≤ heavy ls m s ∧ heavy ls m s ≤ 3 * (m : Int) := by
  intro m
  induction m with
  | zero => intro s; show (-1 : Int) ≤ 0 ∧ (0 : Int) ≤ _; omega
  | succ m ih =>
    intro s
    have h1 : ∀ x ∈ ls.getD (ls.length - (m + 1)) [], x ≤ 3 := by
      intro x hx
      rw [List.getD_eq_getElem?_getD] at hx
      cases hg : ls[ls.length - (m + 1)]? with
      | none => rw [hg] at hx; cases hx
      | some l => rw [hg] at hx; exact h l (List.mem_of_getElem? hg) x hx
    have := heavyL_bd (rec := heavy ls m) (s := s) (B := 3 * (m : Int)) (fun t => ih t) (by omega) (ls.getD (ls.length - (m + 1)) []) 0 (-1) h1 (by omega) (by omega)
    show -1 ≤ heavyL _ _ _ _ _ ∧ heavyL _ _ _ _ _ ≤ _
    omega

theorem isT_of {ls : List (List Int)} (h : isT ls = true) : 1 ≤ ls.length ∧ ls.length ≤ 10 ∧ ∀ l ∈ ls, l.length = ls.length ∧ ∀ x ∈ l, -1 ≤ x ∧ x ≤ 3 := by
  unfold isT at h
  simp only [Bool.and_eq_true, Bool.not_eq_true', Bool.or_eq_false_iff, decide_eq_false_iff_not] at h
  obtain ⟨⟨h1, h2⟩, h3⟩ := h
  refine ⟨by omega, by omega, fun l hl => ?_⟩
  have h4 := List.all_eq_true.1 h3 l hl
  unfold okR at h4
  simp only [Bool.and_eq_true, beq_iff_eq] at h4
  refine ⟨h4.1, fun x hx => ?_⟩
  have h5 := List.all_eq_true.1 h4.2 x hx
  unfold okX at h5
  simp only [Bool.not_eq_true', Bool.or_eq_false_iff, decide_eq_false_iff_not] at h5
  omega

/-- the least columns with which the greatest weight is left: row by row -/
def leastW (ls : List (List Int)) (s : Nat) (left : Int) (m : Nat) : Nat → List Int → Option Nat
  | _, [] => none
  | k, x :: xs => if (decide (x < 0) || s.testBit k) = true then leastW ls s left m (k + 1) xs
    else if 0 ≤ heavy ls m (s ||| 2 ^ k) ∧ heavy ls m (s ||| 2 ^ k) = left - x then some k else leastW ls s left m (k + 1) xs

/-- .. for the first i rows: what was chosen, the set, the rest -/
def walkW (ls : List (List Int)) : Nat → List Int × Nat × Int
  | 0 => ([], 0, heavy ls ls.length 0)
  | i + 1 => match leastW ls (walkW ls i).2.1 (walkW ls i).2.2 (ls.length - (i + 1)) 0 (ls.getD i []) with
    | none => walkW ls i
    | some k => ((walkW ls i).1 ++ [(k : Int)], (walkW ls i).2.1 ||| 2 ^ k, (walkW ls i).2.2 - (ls.getD i []).getD k 0)

end Go.Proofs.Ytjbhnfejpgjghaa

/- The reference's greatest weight: heaviest, with what is kept. -/
namespace Go.Proofs.Ytjbhnfejpgjghaa
open Go.RowKit
set_option linter.unusedSimpArgs false
set_option linter.unusedVariables false

theorem i64_and_nat (a b : Nat) (ha : a < 4611686018427387904) (hb : b < 4611686018427387904) : bits .and .i64 (a : Int) (b : Int) = ((a &&& b : Nat) : Int) := by
  have hx : a &&& b < 2 ^ 62 := Nat.and_lt_two_pow _ (by omega)
  show IntKind.i64.wrap ((BitVec.ofInt 64 (a : Int) &&& BitVec.ofInt 64 (b : Int)).toNat : Int) = _
  rw [BitVec.toNat_and, ofInt_u64 a (by omega), ofInt_u64 b (by omega), IntKind.wrap_i64]
  omega
theorem i64_or_nat (a b : Nat) (ha : a < 4611686018427387904) (hb : b < 4611686018427387904) : bits .or .i64 (a : Int) (b : Int) = ((a ||| b : Nat) : Int) := by
  have hx : a ||| b < 2 ^ 62 := Nat.or_lt_two_pow (by omega) (by omega)
  show IntKind.i64.wrap ((BitVec.ofInt 64 (a : Int) ||| BitVec.ofInt 64 (b : Int)).toNat : Int) = _
  rw [BitVec.toNat_or, ofInt_u64 a (by omega), ofInt_u64 b (by omega), IntKind.wrap_i64]
  omega
theorem i64_and1 (x : Nat) (hx : x < 4611686018427387904) : bits .and .i64 (x : Int) 1 = ((x % 2 : Nat) : Int) := by
  have h := i64_and_nat x 1 hx (by omega)
  rw [Nat.and_one_is_mod] at h
  exact h

/-- where the kept numbers lie -/
structure HT where
  w0 : World
  A : Option Addr
  c : Nat
  ls : List (List Int)
  gK : Nat
  gr : Nat → Nat

def HT.n (z : HT) : Nat := z.ls.length

def HT.Fine (z : HT) : Prop := L2 z.w0 z.A z.n z.c z.ls ∧ isT z.ls = true ∧ z.w0.heap.size ≤ z.gK ∧ (∀ i, i < z.n → z.w0.heap.size ≤ z.gr i ∧ z.gr i ≠ z.gK) ∧ (∀ i j, i < z.n → j < z.n → z.gr i = z.gr j → i = j)

def HK (z : HT) (kept : Nat → Nat → Int) (w : World) : Prop :=
  Below z.w0.heap.size z.w0 w ∧ Blk w z.gK 23 ((List.range z.n).map fun i => Value.slice (some ⟨z.gr i, 0, none⟩) (2 ^ z.n) (2 ^ z.n)).toArray ∧ (∀ i, i < z.n → RF w (z.gr i) (2 ^ z.n) (kept i)) ∧
  ∀ i s, i < z.n → s < 2 ^ z.n → kept i s = -2 ∨ kept i s = heavy z.ls (z.n - i) s

theorem HK.cell {z : HT} {kept : Nat → Nat → Int} {w : World} (h : HK z kept w) {i s : Nat} (hi : i < z.n) (hs : s < 2 ^ z.n) :
    w.cell? ⟨z.gK, i, none⟩ = some (.slice (some ⟨z.gr i, 0, none⟩) (2 ^ z.n) (2 ^ z.n)) ∧ w.cell? ⟨z.gr i, s, none⟩ = some (.int .i64 (kept i s)) ∧ w.frozen? ⟨z.gr i, s, none⟩ = false := by
  refine ⟨?_, (h.2.2.1 i hi).cell hs, (h.2.2.1 i hi).frozen s⟩
  rw [h.2.1.cell i]
  simp [hi]

theorem HK.set {z : HT} (hz : z.Fine) {kept : Nat → Nat → Int} {w : World} (h : HK z kept w) {i s : Nat} (hi : i < z.n) (hs : s < 2 ^ z.n) :
    HK z (upd kept i (upd (kept i) s (heavy z.ls (z.n - i) s))) (w.setCell ⟨z.gr i, s, none⟩ (.int .i64 (heavy z.ls (z.n - i) s))) := by
  obtain ⟨h1, h2, h3, h4⟩ := h
  obtain ⟨-, -, -, f1, f2⟩ := hz
  refine ⟨h1.setCell (f1 i hi).1 _, h2.far (p := ⟨z.gr i, s, none⟩) (f1 i hi).2.symm _, fun j hj => ?_, fun j t hj ht => ?_⟩
  · by_cases e : j = i
    · subst e
      rw [upd_same]
      exact (h3 j hj).set s _
    · rw [upd_other _ _ _ _ e]
      exact (h3 j hj).other (fun h => e (f2 j i hj hi h)) _ _
  · by_cases e : j = i
    · subst e
      rw [upd_same]
      by_cases e2 : t = s
      · subst e2; rw [upd_same]; exact .inr rfl
      · rw [upd_other _ _ _ _ e2]; exact h4 j t hj ht
    · rw [upd_other _ _ _ _ e]
      exact h4 j t hj ht

/-- the rows that are written -/
def HT.rows (z : HT) : List Nat := (List.range z.n).map z.gr
theorem HT.mem_rows {z : HT} {i : Nat} (hi : i < z.n) : z.gr i ∈ z.rows := List.mem_map.2 ⟨i, List.mem_range.2 hi, rfl⟩

def PH (z : HT) (w : World) (r : Int) (e : Ending) (w' : World) : Prop := e = .returned (.int .i64 r) ∧ Fr z.rows w w' ∧ ∃ kept, HK z kept w'

def H1 (z : HT) (w : World) (m s : Nat) (l : List Int) (v9 v37 : Value) (wr : World) : Prop :=
  ∃ (k : Nat) (out : Int), k ≤ z.n ∧ v37 = .int .i64 (k : Int) ∧ v9 = .int .i64 out ∧ -1 ≤ out ∧ out ≤ 3 * (m : Int) + 3 ∧ Hid (heavyL (heavy z.ls m) s 0 l (-1) = heavyL (heavy z.ls m) s k (l.drop k) out) ∧ Fr z.rows w wr ∧ ∃ kept, HK z kept wr

set_option maxRecDepth 100000 in
set_option maxHeartbeats 1000000 in
theorem ref_heaviest (z : HT) (hz : z.Fine) : ∀ (m i s : Nat) (kept : Nat → Nat → Int) (w : World), i + m = z.n → s < 2 ^ z.n → HK z kept w →
    Calls Try.prog 36 #[.slice z.A z.n z.c, .int .i64 (i : Int), .int .i64 (s : Int), .slice (some ⟨z.gK, 0, none⟩) z.n z.n] w (PH z w (heavy z.ls m s)) := by
  intro m
  induction m with
  | zero =>
    intro i s kept w hi hs hk
    have hin : i = z.n := by omega
    subst hin
    have hee : ((z.n : Int) == (z.n : Int)) = true := by simp
    go_enter Try.func36, Try.ntmps36
    go_wp2_with fail
    go_ret
    exact ⟨rfl, Fr.refl _ _, kept, hk⟩
  | succ m ih =>
    intro i s kept w hi hs hk
    have ih' := Lib.hid ih
    clear ih
    have hin : i < z.n := by omega
    have hne : ((i : Int) == (z.n : Int)) = false := by simp; omega
    obtain ⟨c1, c2, f2⟩ := hk.cell hin hs
    have hni : z.n - i = m + 1 := by omega
    have hib : (i : Int) < z.n := by omega
    have hsb : (s : Int) < ((2 ^ z.n : Nat) : Int) := by omega
    by_cases hkn : kept i s = -2
    · rw [hkn] at c2
      obtain ⟨t1, t2, t3⟩ := isT_of hz.2.1
      have hn10 : z.n ≤ 10 := t2
      obtain ⟨gA, oA, l, A', n', c', hA, hgA, hl, hcl, hl1⟩ := (hz.1.below hk.1 (Nat.le_refl _)).cell hin
      have hll := t3 l (List.mem_of_getElem? hl)
      have hn' : n' = z.n := hl1.1.symm.trans hll.1
      subst hn'
      have hlb := Lib.hid hll
      have hrow : z.ls.getD (z.ls.length - (m + 1)) [] = l := by
        have e : z.ls.length - (m + 1) = i := by have : z.ls.length = z.n := rfl; omega
        rw [e, List.getD_eq_getElem?_getD, hl]
        rfl
      have hhv : Hid (heavy z.ls (m + 1) s = heavyL (heavy z.ls m) s 0 l (-1)) := by show heavyL _ _ _ _ _ = _; rw [hrow]
      have hH : H1 z w m s l (.int .i64 (-1)) (.int .i64 0) w := ⟨0, -1, by omega, rfl, rfl, by omega, by omega, rfl, Fr.refl _ _, kept, hk⟩
      have hL0 := Lib.hid hz.1
      have hl0 : ∀ wx, Below z.w0.heap.size z.w0 wx → L1 wx A' z.n c' l := by
        intro wx hb
        obtain ⟨gB, oB, l2, A2, n2, c2', hA2, hgB, hl2, hcl2, hl12⟩ := hz.1.cell hin
        have h1 : wx.cell? ⟨gB, oB + i, none⟩ = some (.slice A2 n2 c2') := (hb.cell (p := ⟨gB, oB + i, none⟩) hgB).trans hcl2
        have h2 : w.cell? ⟨gB, oB + i, none⟩ = some (.slice A2 n2 c2') := (hk.1.cell (p := ⟨gB, oB + i, none⟩) hgB).trans hcl2
        have e1 : gA = gB ∧ oA = oB := by rw [hA] at hA2; simpa using hA2
        obtain ⟨rfl, rfl⟩ := e1
        rw [hcl] at h2
        have e2 : A' = A2 ∧ z.n = n2 ∧ c' = c2' := by simpa using h2
        obtain ⟨rfl, rfl, rfl⟩ := e2
        have e3 : l = l2 := by rw [hl] at hl2; injection hl2
        subst e3
        exact hl12.below hb (Nat.le_refl _)
      have hl0' := Lib.hid hl0
      have hbd := Lib.hid (heavy_bd (ls := z.ls) (fun l hl x hx => (t3 l hl).2 x hx |>.2))
      have hs10 : s < 1024 := Nat.lt_of_lt_of_le hs (by have : 2 ^ z.n ≤ 2 ^ 10 := Nat.pow_le_pow_right (by omega) hn10; simpa using this)
      rw [hA]
      have hA' := Lib.hid hA
      have hm10 : m ≤ 10 := by omega
      have ih2 := ih'.out
      rw [hA] at ih2
      have ih3 := Lib.hid ih2
      clear ih2
      clear hl0 hll hrow hl hkn hk hl1 t3 hA
      have hne2 : ((-2 : Int) != -2) = false := by simp
      go_enter Try.func36, Try.ntmps36
      go_upto_region 7 with fail
      go_loopw [9, 37] (fun v9 v37 wr => H1 z w m s l v9 v37 wr) (fun _ k _ => z.n - (intOf k).toNat)
      case atStart => exact hH
      case round =>
        clear hH c1 c2 f2 hcl
        obtain ⟨k, out, hk, rfl, rfl, ho1, ho2, hsc, hF, kept2, hK⟩ := hrel
        by_cases hkn : k < z.n
        · obtain ⟨gl, ol, x, hAl, hgl, hx, hx64, hcx⟩ := (hl0'.out _ hK.1).cell hkn
          have hd : l.drop k = x :: l.drop (k + 1) := by
            have h1 := (List.getElem?_eq_some_iff.1 hx).1
            rw [List.drop_eq_getElem_cons h1]
            congr 1
            exact (List.getElem?_eq_some_iff.1 hx).2
          rw [hd] at hsc
          have hx3 := hlb.out.2 x (List.mem_of_getElem? hx)
          subst hAl
          by_cases hx0 : x < 0
          · have hx0' : decide (x < 0) = true := by simpa using hx0
            have hsc2 : Hid (heavyL (heavy z.ls m) s 0 l (-1) = heavyL (heavy z.ls m) s (k + 1) (l.drop (k + 1)) out) := by
              show _ = _
              rw [hsc.out, heavyL, if_pos (by rw [hx0']; rfl)]
            go_wp2_with fail
            exact ⟨⟨k + 1, out, by omega, by go_num, rfl, ho1, ho2, hsc2, hF, kept2, hK⟩, by simp [intOf]; omega⟩
          · have hx0' : decide (x < 0) = false := by simpa using hx0
            obtain ⟨X, hX⟩ : ∃ X, X = s / 2 ^ k := ⟨_, rfl⟩
            have hXb : X < 1024 := by rw [hX]; exact Nat.lt_of_le_of_lt (Nat.div_le_self _ _) hs10
            have hdv : (s : Int) / (2 : Int) ^ k = (X : Int) := by rw [hX, Int.natCast_ediv]; norm_cast
            have hand := i64_and1 X (by omega)
            have htb : s.testBit k = decide (X % 2 = 1) := by rw [testBit_div, hX]
            have hX' := Lib.hid hX
            clear hX
            by_cases hb : X % 2 = 1
            · have hbt : (((X % 2 : Nat) : Int) == 1) = true := by simp; omega
              have hsc2 : Hid (heavyL (heavy z.ls m) s 0 l (-1) = heavyL (heavy z.ls m) s (k + 1) (l.drop (k + 1)) out) := by
                show _ = _
                rw [hsc.out, heavyL, if_pos (by rw [htb]; simp [hb])]
              go_wp2_with fail
              exact ⟨⟨k + 1, out, by omega, by go_num, rfl, ho1, ho2, hsc2, hF, kept2, hK⟩, by simp [intOf]; omega⟩
            · have hbt : (((X % 2 : Nat) : Int) == 1) = false := by simp; omega
              have hsc2 : Hid (heavyL (heavy z.ls m) s 0 l (-1) = heavyL (heavy z.ls m) s (k + 1) (l.drop (k + 1)) (if 0 ≤ heavy z.ls m (s ||| 2 ^ k) then max out (heavy z.ls m (s ||| 2 ^ k) + x) else out)) := by
                show _ = _
                rw [hsc.out, heavyL, if_neg (by rw [htb, hx0']; simp [hb])]
              have hk2 : 2 ^ k < 2 ^ z.n := Nat.pow_lt_pow_right (by omega) hkn
              have ht : s ||| 2 ^ k < 2 ^ z.n := Nat.or_lt_two_pow hs hk2
              have hk10 : 2 ^ k < 1024 := Nat.pow_lt_pow_right (n := 10) (by omega) (by omega)
              have hpi : (2 : Int) ^ k = ((2 ^ k : Nat) : Int) := by norm_cast
              have hor := i64_or_nat s (2 ^ k) (by omega) (by omega)
              obtain ⟨p, hp⟩ : ∃ p, p = 2 ^ k := ⟨_, rfl⟩
              rw [← hp] at hk2 ht hk10 hpi hor hsc2
              have hdvp : (s : Int) / (p : Int) = (X : Int) := by rw [← hpi]; exact hdv
              obtain ⟨t, ht'⟩ : ∃ t, t = s ||| p := ⟨_, rfl⟩
              rw [← ht'] at ht hor hsc2
              have hwp : IntKind.i64.wrap (p : Int) = (p : Int) := by rw [IntKind.wrap_i64]; omega
              have ih4 := ih3.out (i + 1) t kept2 wr (by omega) ht hK
              rw [show ((i + 1 : Nat) : Int) = (i : Int) + 1 from by omega] at ih4
              have hbt2 := hbd.out m t
              obtain ⟨rv, hrv⟩ : ∃ rv, rv = heavy z.ls m t := ⟨_, rfl⟩
              rw [← hrv] at ih4 hbt2 hsc2
              have ih5 := Lib.hid ih4
              clear ih4 hp ht' hrv
              by_cases h0 : 0 ≤ rv
              · have h0' : decide (0 ≤ rv) = true := by simpa using h0
                have hsc3 := hsc2.out
                rw [if_pos h0, show max out (rv + x) = (if out < rv + x then rv + x else out) from by rw [Int.max_def]; split <;> split <;> omega] at hsc3
                have hsc4 := Lib.hid hsc3
                clear hsc3 hsc2
                go_wp2_with (go_at_call 36; (with_reducible refine ih5.out.mono ?_); rintro e w2 ⟨rfl, hF3, kept3, hK3⟩)
                exact ⟨⟨k + 1, _, by omega, by go_num, rfl, by split <;> omega, by split <;> omega, hsc4, hF.trans hF3, kept3, hK3⟩, by simp [intOf]; omega⟩
              · have h0' : decide (0 ≤ rv) = false := by simpa using h0
                have hsc3 := hsc2.out
                rw [if_neg h0] at hsc3
                have hsc4 := Lib.hid hsc3
                clear hsc3 hsc2
                go_wp2_with (go_at_call 36; (with_reducible refine ih5.out.mono ?_); rintro e w2 ⟨rfl, hF3, kept3, hK3⟩)
                exact ⟨⟨k + 1, out, by omega, by go_num, rfl, ho1, ho2, hsc4, hF.trans hF3, kept3, hK3⟩, by simp [intOf]; omega⟩
        · have hkn' : k = z.n := by omega
          have hdn : l.drop k = [] := List.drop_eq_nil_of_le (by have := hlb.out.1; have : z.ls.length = z.n := rfl; omega)
          rw [hdn] at hsc
          have hfin : Hid (heavy z.ls (m + 1) s = out) := by
            show _ = _
            rw [hhv.out, hsc.out, heavyL]
          obtain ⟨c1, c2, f2⟩ := hK.cell hin hs
          have hKs := HK.set hz hK hin hs
          rw [hni, hfin.out] at hKs
          go_wp2_with fail
          go_ret
          rw [hfin.out]
          exact ⟨rfl, hF.set (p := ⟨z.gr i, s, none⟩) (HT.mem_rows hin) _, _, hKs⟩
    · have hkv := (hk.2.2.2 i s hin hs).resolve_left hkn
      rw [hni] at hkv
      have hnn : (kept i s != -2) = true := by simpa using hkn
      rw [hkv] at c2 hnn
      obtain ⟨r, hr⟩ : ∃ r, r = heavy z.ls (m + 1) s := ⟨_, rfl⟩
      rw [← hr] at c2 hnn ⊢
      have hk' := Lib.hid hk
      clear hkv hkn hk hr
      go_enter Try.func36, Try.ntmps36
      go_wp2_with fail
      go_ret
      exact ⟨rfl, Fr.refl _ _, kept, hk'.out⟩

end Go.Proofs.Ytjbhnfejpgjghaa
