/- The reference: the greatest common divisor, a fraction in lowest terms. -/
import Derived.Deep.CutRange
import Derived.Test.YtgoojlnfobjplaaRk
import Derived.Test.YtgoojlnfobjplaaRf
import Derived.Test.YtgoojlnfobjplaaZk
namespace Go.Proofs.Ytgoojlnfobjplaa
open Go.RowKit
set_option linter.unusedSimpArgs false
set_option linter.unusedVariables false
attribute [local go_sem] qn30 qe30

theorem r_parts (A B : Option Addr) (n c m d : Nat) (xs ys : List Nat) (w : World) (hx : U32 w A n c xs) (hy : U32 w B m d ys) (tx : Tr xs) (ty : Tr ys) (hn : n ≤ 390000) (hm : m ≤ 390000) (h0 : 0 < val ys) :
    Calls Try.prog 59 #[.slice A n c, .slice B m d] w (PParts w (val xs) (val ys)) := by
  rcases Nat.lt_or_ge (val xs) (val ys) with h | h
  · exact r_parts1 A B n c m d xs ys w hx hy tx ty (by omega) (by omega) h
  · have hl := len_le_of_val hx.2.1 ty h
    rw [hx.1, hy.1] at hl
    rcases (show m = 0 ∨ m = 1 ∨ 2 ≤ m by omega) with h1 | h1 | h1
    · have := (Tr.pos hy ty).1 h1
      omega
    · subst h1
      obtain ⟨y, rfl⟩ : ∃ y, ys = [y] := List.length_eq_one_iff.1 hy.1
      exact r_parts2 A B n c d xs y w hx hy tx ty (by omega) (by simpa [val] using h0) h
    · exact r_parts3 A B n c m d xs ys w hx hy tx ty hn h1 hl h

theorem len_le {w : World} {A : Option Addr} {l c k : Nat} {zs : List Nat} (hR : U32 w A l c zs) (ht : Tr zs) (hv : val zs < 4294967296 ^ k) : l ≤ k := by
  have h := len_of_lt ht hv
  have := hR.1
  omega

set_option maxRecDepth 100000 in
set_option maxHeartbeats 1000000 in
theorem r_divisor (A B : Option Addr) (n c m d : Nat) (xs ys : List Nat) (w : World) (hx : U32 w A n c xs) (hy : U32 w B m d ys) (tx : Tr xs) (ty : Tr ys) (hn : n ≤ 390000) (hm : m ≤ 390000) :
    Calls Try.prog 58 #[.slice A n c, .slice B m d] w (PW w (Nat.gcd (val xs) (val ys))) := by
  obtain ⟨g, hg'⟩ : ∃ g, g = Nat.gcd (val xs) (val ys) := ⟨_, rfl⟩
  rw [← hg']
  have hg := Lib.hid hg'.symm
  clear hg'
  go_enter Try.func58, Try.ntmps58
  go_wp2_with fail
  go_loopg [0, 1] (val ys) (fun gk v0 v1 wr => ∃ (A B : Option Addr) (n c m d : Nat) (xs ys : List Nat), gk = val ys ∧ v0 = .slice A n c ∧ v1 = .slice B m d ∧ U32 wr A n c xs ∧ U32 wr B m d ys ∧ Tr xs ∧ Tr ys ∧ n ≤ 390000 ∧ m ≤ 390000 ∧ Hid (Nat.gcd (val xs) (val ys) = g) ∧ Below w.heap.size w wr)
  case atStart => exact ⟨A, B, n, c, m, d, xs, ys, rfl, rfl, rfl, hx, hy, tx, ty, hn, hm, hg, Below.refl _ _⟩
  case round =>
    clear hx hy tx ty hn hm hg
    obtain ⟨A, B, n, c, m, d, xs, ys, hgk', rfl, rfl, hx, hy, tx, ty, hn, hm, hg, hb⟩ := hrel
    have hgk := Lib.hid hgk'
    clear hgk'
    have hp := Lib.hid (Tr.pos hy ty)
    rcases Nat.eq_zero_or_pos m with h0 | h0
    · subst h0
      have hv : Hid (val xs = g) := by
        have h1 := hg.out
        rw [hp.out.1 rfl, Nat.gcd_zero_right] at h1
        exact h1
      go_wp2_with fail
      go_ret
      exact ⟨A, n, c, xs, rfl, hx, tx, hv.out, hb⟩
    · have hv0 : 0 < val ys := by
        rcases Nat.eq_zero_or_pos (val ys) with h | h
        · have := hp.out.2 h; omega
        · exact h
      have hv0 := Lib.hid hv0
      go_wp2_with fail
      refine (r_parts A B n c m d xs ys _ hx hy tx ty hn hm hv0.out).mono ?_
      rintro e w3 ⟨A1, l1, c1, os, B1, k1, d1, rs, rfl, -, -, -, hR, htr, hvr, hb3⟩
      have hy3 := hy.below hb3 (Nat.le_refl _)
      have hb4 := hb.trans (hb3.mono hb.size)
      have hlt : Hid (val rs < val ys) := by show _ < _; rw [hvr]; exact Nat.mod_lt _ hv0.out
      have hk1 : k1 ≤ 390000 := by
        have h1 := val_lt ys hy.2.1
        rw [hy.1] at h1
        have := len_le hR htr (Nat.lt_trans hlt.out h1)
        omega
      have hg3 : Hid (Nat.gcd (val ys) (val rs) = g) := by
        have h1 := hg.out
        show _ = _
        rw [hvr, Nat.gcd_comm, ← Nat.gcd_rec, Nat.gcd_comm]
        exact h1
      clear hvr
      go_wp2_with fail
      go_roundg (val rs)
      case rel => exact ⟨B, B1, m, d, k1, d1, ys, rs, rfl, rfl, rfl, hy3, hR, ty, htr, hm, hk1, hg3, hb4⟩
      case measure => have h1 := hgk.out; have h2 := hlt.out; omega

/-- a fraction's fields -/
structure Qw where
  n : Wv
  d : Wv

/-- its fields in memory say the fraction r -/
def QW (w : World) (q : Qw) (r : Rat) : Prop := WR w q.n r.num ∧ ∃ dd : Int, WR w q.d dd ∧ (dd = (r.den : Int) ∨ (dd = 0 ∧ r = 0))

theorem QW.below {w w' : World} {q r B} (h : QW w q r) (hb : Below B w w') (hB : w.heap.size ≤ B) : QW w' q r := by
  obtain ⟨h1, dd, h2, h3⟩ := h
  exact ⟨h1.below hb hB, dd, h2.below hb hB, h3⟩
theorem QW.set {w w' : World} {q r g} (h : QW w q r) (hN : NoW w g) (hs : SetB g w w') : QW w' q r := by
  obtain ⟨h1, dd, h2, h3⟩ := h
  exact ⟨h1.set hN hs, dd, h2.set hN hs, h3⟩
theorem Own.qw {w w1 : World} {bs : List (TypeId × Array Value)} {q r} (h : Own w bs w1) (hz : QW w q r) : QW w1 q r := hz.below h.1 (Nat.le_refl _)

/-- a fraction comes out -/
def PF (w : World) (r : Rat) (e : Ending) (w' : World) : Prop :=
  ∃ q : Qw, e = .returned (.agg #[.slice q.n.A q.n.l q.n.c, .bool q.n.g, .slice q.d.A q.d.l q.d.c, .bool q.d.g]) ∧ QW w' q r ∧ Below w.heap.size w w'

theorem NoW.w4 {w : World} {g : Nat} {t : TypeId} {A B : Option Addr} {l c k d : Nat} {s u : Bool} (h : Blk w g t #[.slice A l c, .bool s, .slice B k d, .bool u]) : NoW w g := by
  intro i u
  rw [h.cell i]
  rcases i with _ | _ | _ | _ | i <;> simp
theorem SetB.set4 (w : World) (g : Nat) (a b c d : Nat) (u v x y : Value) : SetB g w ((((w.setCell ⟨g, a, none⟩ u).setCell ⟨g, b, none⟩ v).setCell ⟨g, c, none⟩ x).setCell ⟨g, d, none⟩ y) := ((((SetB.refl g w).setCell rfl u).setCell rfl v).setCell rfl x).setCell rfl y
theorem Own.setW4 {w w1 : World} {bs : List (TypeId × Array Value)} (h : Own w bs w1) (i a b c d : Nat) (u v x y : Value) : Below w.heap.size w ((((w1.setCell ⟨w.heap.size + i, a, none⟩ u).setCell ⟨w.heap.size + i, b, none⟩ v).setCell ⟨w.heap.size + i, c, none⟩ x).setCell ⟨w.heap.size + i, d, none⟩ y) :=
  ((((h.1.setCell (p := ⟨w.heap.size + i, a, none⟩) (Nat.le_add_right _ _) _).setCell (p := ⟨w.heap.size + i, b, none⟩) (Nat.le_add_right _ _) _).setCell (p := ⟨w.heap.size + i, c, none⟩) (Nat.le_add_right _ _) _).setCell (p := ⟨w.heap.size + i, d, none⟩) (Nat.le_add_right _ _) _)
theorem blkW4 {w : World} {g : Nat} {t : TypeId} {a b c d : Value} (h : Blk w g t #[a, b, c, d]) : (w.cell? ⟨g, 0, none⟩ = some a ∧ w.cell? ⟨g, 1, none⟩ = some b ∧ w.cell? ⟨g, 2, none⟩ = some c ∧ w.cell? ⟨g, 3, none⟩ = some d) ∧ w.frozen? ⟨g, 0, none⟩ = false ∧ w.frozen? ⟨g, 1, none⟩ = false ∧ w.frozen? ⟨g, 2, none⟩ = false ∧ w.frozen? ⟨g, 3, none⟩ = false := ⟨⟨h.cell 0, h.cell 1, h.cell 2, h.cell 3⟩, h.frozen 0, h.frozen 1, h.frozen 2, h.frozen 3⟩
theorem Blk.setW2 {w : World} {g : Nat} {t : TypeId} {a b : Value} (h : Blk w g t #[a, b]) (u v : Value) : Blk ((w.setCell ⟨g, 0, none⟩ u).setCell ⟨g, 1, none⟩ v) g t #[u, v] := by
  unfold Blk at h ⊢
  simp [World.setCell, Array.getElem?_modify, h]
theorem heap_set2 (w : World) (g : Nat) (u1 u2 : Value) (k : Nat) (hk : k ≠ g) : ((w.setCell ⟨g, 0, none⟩ u1).setCell ⟨g, 1, none⟩ u2).heap[k]? = w.heap[k]? :=
  (Below.heap_setCell _ ⟨g, 1, none⟩ u2 k hk).trans (Below.heap_setCell _ ⟨g, 0, none⟩ u1 k hk)

theorem Own.updW {w w1 w2 : World} {bs : List (TypeId × Array Value)} (h : Own w bs w1) (i : Nat) (t : TypeId) (cs : Array Value) (hi : i < bs.length) (hb : Below w.heap.size w w2) (hz : w1.heap.size ≤ w2.heap.size)
    (hf : ∀ g, g ≠ w.heap.size + i → w2.heap[g]? = w1.heap[g]?) (hB : Blk w2 (w.heap.size + i) t cs) : Own w (bs.set i (t, cs)) w2 := by
  refine ⟨hb, by rw [List.length_set]; exact Nat.le_trans h.2.1 hz, fun j t' cs' hj => ?_⟩
  by_cases e : i = j
  · subst e
    rw [List.getElem?_set_self hi] at hj
    injection hj with hj
    injection hj with h1 h2
    subst h1 h2
    exact hB
  · rw [List.getElem?_set_ne e] at hj
    exact (hf _ (by omega)).trans (h.2.2 j t' cs' hj)

theorem Own.put2 {w w1 : World} {bs : List (TypeId × Array Value)} (h : Own w bs w1) (i : Nat) {t : TypeId} {a b : Value} (hi : bs[i]? = some (t, #[a, b])) (u1 u2 : Value) :
    Own w (bs.set i (t, #[u1, u2])) ((w1.setCell ⟨w.heap.size + i, 0, none⟩ u1).setCell ⟨w.heap.size + i, 1, none⟩ u2) :=
  h.updW i t _ (List.getElem?_eq_some_iff.1 hi).1 (h.setW2 i 0 1 u1 u2) (SetB.set2 w1 (w.heap.size + i) 0 1 u1 u2).1 (heap_set2 _ _ _ _) (Blk.setW2 (h.2.2 i t _ hi) u1 u2)

theorem quo_signN {n : Int} {g : Nat} : n.tdiv (g : Int) = if decide (n < 0) = true then -((n.natAbs / g : Nat) : Int) else ((n.natAbs / g : Nat) : Int) := by
  by_cases hn : n < 0
  · rw [if_pos (by simpa using hn)]
    obtain ⟨u, rfl⟩ : ∃ u : Nat, n = -(u : Int) := ⟨n.natAbs, by omega⟩
    rw [Int.neg_tdiv, Int.natAbs_neg]
    rfl
  · rw [if_neg (by simpa using hn)]
    obtain ⟨u, rfl⟩ : ∃ u : Nat, n = (u : Int) := ⟨n.natAbs, by omega⟩
    rfl
theorem tdiv_sg (n : Int) (g a : Nat) (ha : a = n.natAbs) : n.tdiv (g : Int) = if decide (n < 0) = true then -((a / g : Nat) : Int) else ((a / g : Nat) : Int) := by
  have h := quo_signN (n := n) (g := g)
  subst ha
  exact h

end Go.Proofs.Ytgoojlnfobjplaa

/- The reference: a fraction in lowest terms. -/
namespace Go.Proofs.Ytgoojlnfobjplaa
open Go.RowKit
set_option linter.unusedSimpArgs false
set_option linter.unusedVariables false
attribute [local go_sem] qn30 qe30

theorem val_one {xs : List Nat} (ht : Tr xs) (h : val xs = 1) : xs = [1] := by
  rcases xs with _ | ⟨a, _ | ⟨b, r⟩⟩
  · simp [val] at h
  · simp [val] at h
    rw [h]
  · exfalso
    have h2 := ht.low (by simp)
    have h3 : (4294967296 : Nat) ^ 1 ≤ 4294967296 ^ ((a :: b :: r).length - 1) := Nat.pow_le_pow_right (by omega) (by simp)
    omega

/-- the state behind the division by the greatest common divisor -/
def CutR (w : World) (n m : Int) (t t' : TypeId) (wc : World) : Prop :=
  ∃ z y : Wv, Hid (Own w [(t, #[.slice z.A z.l z.c, .bool z.g]), (t, #[.slice y.A y.l y.c, .bool y.g]), (t', #[.slice none 0 0, .bool false, .slice none 0 0, .bool false])] wc) ∧ WR wc z n ∧ WR wc y m

theorem twoputW {w w2 : World} {za zb z1 z2 : Wv} {t : TypeId} {r} {a b : Int} (hO : Own w ((t, #[.slice za.A za.l za.c, .bool za.g]) :: (t, #[.slice zb.A zb.l zb.c, .bool zb.g]) :: r) w2) (h1 : WR w2 z1 a) (h2 : WR w2 z2 b) {w' : World}
    (hw : w' = ((((w2.setCell ⟨w.heap.size, 0, none⟩ (.slice z1.A z1.l z1.c)).setCell ⟨w.heap.size, 1, none⟩ (.bool z1.g)).setCell ⟨w.heap.size + 1, 0, none⟩ (.slice z2.A z2.l z2.c)).setCell ⟨w.heap.size + 1, 1, none⟩ (.bool z2.g))) :
    Own w ((t, #[.slice z1.A z1.l z1.c, .bool z1.g]) :: (t, #[.slice z2.A z2.l z2.c, .bool z2.g]) :: r) w' ∧ WR w' z1 a ∧ WR w' z2 b := by
  subst hw
  have p1 := hO.put2 0 rfl (.slice z1.A z1.l z1.c) (.bool z1.g)
  have s1 := SetB.set2 w2 w.heap.size 0 1 (.slice z1.A z1.l z1.c) (.bool z1.g)
  have n1 : NoW w2 w.heap.size := NoW.w hO.b0
  have h1' := h1.set n1 s1
  have h2' := h2.set n1 s1
  rw [Nat.add_zero] at p1
  generalize ((w2.setCell ⟨w.heap.size, 0, none⟩ (.slice z1.A z1.l z1.c)).setCell ⟨w.heap.size, 1, none⟩ (.bool z1.g)) = w3 at *
  have p2 := p1.put2 1 rfl (.slice z2.A z2.l z2.c) (.bool z2.g)
  have s2 := SetB.set2 w3 (w.heap.size + 1) 0 1 (.slice z2.A z2.l z2.c) (.bool z2.g)
  have n2 : NoW w3 (w.heap.size + 1) := NoW.w p1.b1
  exact ⟨p2, h1'.set n2 s2, h2'.set n2 s2⟩

theorem ratio_one {n : Int} : (Rat.divInt n 1).num = n ∧ ((Rat.divInt n 1).den : Int) = 1 := over_one (by omega) (by simp)

set_option maxRecDepth 100000 in
set_option maxHeartbeats 8000000 in
theorem r_ratio (z y : Wv) (n m : Int) (w : World) (hz : WR w z n) (hy : WR w y m) (hF : Fit n) (hG : Fit m) (hm : 0 < m) :
    Calls Try.prog 31 #[.agg #[.slice z.A z.l z.c, .bool z.g], .agg #[.slice y.A y.l y.c, .bool y.g]] w (PF w (Rat.divInt n m)) := by
  have hu := Try.underlying32
  have hu2 := Try.underlying34
  have hlz := hz.len hF
  have hly := hy.len hG
  obtain ⟨A, l, c, s⟩ := z
  obtain ⟨B, k, d, t⟩ := y
  obtain rfl : t = false := by obtain ⟨ys, -, -, -, h⟩ := hy; have h : t = decide (m < 0) := h; rw [h]; simp; omega
  simp only at hlz hly
  have hO0 := Lib.hid (Own.three w 32 32 34 #[.slice A l c, .bool s] #[.slice B k d, .bool false] #[.slice none 0 0, .bool false, .slice none 0 0, .bool false])
  obtain ⟨c2, c3, -, -⟩ := blkW2 hO0.out.b1
  have hmh := Lib.hid hm
  have hm0 : decide (m = 0) = false := by simp; omega
  clear hm
  go_enter Try.func31, Try.ntmps31
  go_wp2_with fail
  have hn0 := r_isNought ⟨B, k, d, false⟩ m _ (hO0.out.wr hy)
  rw [hm0] at hn0
  refine hn0.mono ?_
  clear hn0 hm0
  rintro e w1 ⟨rfl, hb1⟩
  have hO1 := Lib.hid (hO0.out.call hb1)
  clear hO0 hb1 c2 c3
  obtain ⟨c2, c3, -, -⟩ := blkW2 hO1.out.b1
  obtain ⟨om, hom'⟩ : ∃ om, om = decide (m = 1) := ⟨_, rfl⟩
  have ho := r_isOne ⟨B, k, d, false⟩ m w1 (hO1.out.wr hy)
  rw [← hom'] at ho
  have hom := Lib.hid hom'
  clear hom'
  go_wp2_with fail
  refine ho.mono ?_
  clear ho
  rintro e w2 ⟨rfl, hb2⟩
  have hO2 := Lib.hid (hO1.out.call hb2)
  clear hO1 hb2 c2 c3
  obtain ⟨c0, c1, -, -⟩ := blkW2 hO2.out.b0
  obtain ⟨c2, c3, -, -⟩ := blkW2 hO2.out.b1
  obtain ⟨⟨d0, d1, d2, d3⟩, f0, f1, f2, f3⟩ := blkW4 hO2.out.b2
  cases om with
  | true =>
    have hm1 : m = 1 := by have := hom.out; simpa using this.symm
    have hq := ratio_one (n := n)
    have hres : Hid (QW w2 ⟨⟨A, l, c, s⟩, ⟨B, k, d, false⟩⟩ (Rat.divInt n m)) := by
      subst hm1
      exact ⟨by rw [hq.1]; exact hO2.out.wr hz, 1, hO2.out.wr hy, .inl hq.2.symm⟩
    clear hm1 hq
    go_wp2_with fail
    refine bodyPost_ret (v := .agg #[.slice A l c, .bool s, .slice B k d, .bool false]) (by simp [results, Try.results31, go_sem, d0, d1, d2, d3, f0, f1, f2, f3]) rfl ⟨⟨⟨A, l, c, s⟩, ⟨B, k, d, false⟩⟩, rfl, hres.out.set (NoW.w4 hO2.out.b2) (SetB.set4 _ _ _ _ _ _ _ _ _ _), hO2.out.setW4 2 _ _ _ _ _ _ _ _⟩
  | false =>
    clear d0 d1 d2 d3 f0 f1 f2 f3 hom
    obtain ⟨xs, hx, htx, hvx', hsx'⟩ := hz
    obtain ⟨ys, hys, hty, hvy', hsy'⟩ := hy
    simp only at hx hys hsx'
    have hvx := Lib.hid hvx'
    have hvy := Lib.hid hvy'
    have hsx := Lib.hid hsx'
    clear hvx' hvy' hsx' hsy'
    have hO2d := Lib.hid hO2.out.drew
    go_wp2_with fail
    refine (r_divisor A B l c k d xs ys _ (hO2.out.u32 hx) (hO2.out.u32 hys) htx hty (by omega) (by omega)).mono ?_
    rintro e w3 ⟨C, lg, cg, gs, rfl, hg, htg, hvg', hb3⟩
    have hvg := Lib.hid hvg'
    have hO3 := Lib.hid (hO2.out.call hb3)
    have hlg := Lib.hid hg.1
    have hvm : Hid (0 < val ys) := by have h1 := hvy.out; have h2 := hmh.out; show 0 < _; omega
    have hvg0 : Hid (0 < val gs) := by show 0 < _; rw [hvg.out]; exact Nat.gcd_pos_of_pos_right _ hvm.out
    have hlgb : lg ≤ 300000 := by
      have h1 : val gs ≤ val ys := by rw [hvg.out]; exact Nat.gcd_le_right _ hvm.out
      have h2 := val_lt ys hys.2.1
      rw [hys.1] at h2
      have := len_le hg htg (Nat.lt_of_le_of_lt h1 h2)
      omega
    have hnum : Hid ((Rat.divInt n m).num = n.tdiv (val gs : Int) ∧ ((Rat.divInt n m).den : Int) = m.tdiv (val gs : Int)) := by
      have e1 : (Int.gcd n m : Int) = (val gs : Int) := by rw [hvg.out, hvx.out, hvy.out]; rfl
      have h1 := over_num (n := n) hmh.out
      have h2 := over_den (n := n) hmh.out
      rw [e1] at h1 h2
      exact ⟨h1, h2⟩
    clear hvg' hb3 c0 c1 c2 c3
    obtain ⟨bg, hbg'⟩ : ∃ bg, bg = decide (val gs ≠ 1) := ⟨_, rfl⟩
    have hbg := Lib.hid hbg'
    clear hbg'
    go_upto_region 8 with (fail)
    go_cut [37] from 29 to 37 (fun v37 wc => wc = w3 ∧ v37 = .bool bg)
    case first =>
      by_cases h1 : lg = 1
      · subst h1
        obtain ⟨g, o, u, rfl, hgl, hu0, hul, hcu⟩ := hg.cell (k := 0) (by omega)
        have hgu : gs = [u] := by
          have := hlg.out
          rcases gs with _ | ⟨a, _ | ⟨b, r⟩⟩ <;> simp at this hu0
          rw [hu0]
        rw [Nat.add_zero] at hcu
        by_cases h2 : u = 1
        · have h3 : ((u : Int) != 1) = false := by simp [h2]
          have hb : Hid (bg = false) := by show _ = _; rw [hbg.out, hgu, h2]; simp [val]
          clear hu0 hgu h2
          go_wp2_with fail
          go_meet
          exact ⟨rfl, by rw [hb.out]⟩
        · have h3 : ((u : Int) != 1) = true := by simp; omega
          have hb : Hid (bg = true) := by show _ = _; rw [hbg.out, hgu]; simp [val, h2]
          clear hu0 hgu h2
          go_wp2_with fail
          go_meet
          exact ⟨rfl, by rw [hb.out]⟩
      · have h3 : ((lg : Int) != 1) = true := by simp; omega
        have hb : Hid (bg = true) := by
          show _ = _
          rw [hbg.out]
          simp
          intro h
          have h4 := val_one htg h
          have h5 := hlg.out
          rw [h4] at h5
          simp at h5
          omega
        clear h1
        go_wp2_with fail
        go_meet
        exact ⟨rfl, by rw [hb.out]⟩
    case rest =>
      obtain ⟨rfl, rfl⟩ := hcut
      go_upto_if 37 with (fail)
      go_cut [6] from 38 to 57 (fun v6 wc => CutR w (Rat.divInt n m).num (Rat.divInt n m).den 32 34 wc)
      case first =>
        cases bg with
        | false =>
          have hg1 : val gs = 1 := by have := hbg.out; simpa using this.symm
          have hz2 : WR wc ⟨A, l, c, s⟩ (Rat.divInt n m).num := by rw [hnum.out.1, hg1]; exact ⟨xs, hO3.out.u32 hx, htx, by simpa using hvx.out, by simpa using hsx.out⟩
          have hy2 : WR wc ⟨B, k, d, false⟩ (Rat.divInt n m).den := by rw [hnum.out.2, hg1]; exact ⟨ys, hO3.out.u32 hys, hty, by simpa using hvy.out, by have := hmh.out; simp; omega⟩
          clear hg1
          go_wp2_with fail
          go_meet
          exact ⟨⟨A, l, c, s⟩, ⟨B, k, d, false⟩, hO3, hz2, hy2⟩
        | true =>
          obtain ⟨c0, c1, -, -⟩ := blkW2 hO3.out.b0
          go_wp2_with fail
          refine (r_parts A C l c lg cg xs gs _ (hO3.out.u32 hx) hg htx htg (by omega) (by omega) hvg0.out).mono ?_
          rintro e w4 ⟨A1, l1, k1, os, B1, m1, d1, rs, rfl, hU1, ht1, hv1', -, -, -, hb4⟩
          have hv1 := Lib.hid hv1'
          have hO4 := Lib.hid (hO3.out.call hb4)
          have hg4 := hg.below hb4 (Nat.le_refl _)
          clear hv1' hb4 c0 c1
          obtain ⟨c2, c3, -, -⟩ := blkW2 hO4.out.b1
          go_wp2_with fail
          refine (r_parts B C k d lg cg ys gs _ (hO4.out.u32 hys) hg4 hty htg (by omega) (by omega) hvg0.out).mono ?_
          rintro e w5 ⟨A2, l2, k2, os2, B2, m2, d2, rs2, rfl, hU2, ht2, hv2', -, -, -, hb5⟩
          have hv2 := Lib.hid hv2'
          have hO5 := Lib.hid (hO4.out.call hb5)
          have hU15 := hU1.below hb5 (Nat.le_refl _)
          clear hv2' hb5 c2 c3 hg4
          obtain ⟨c0, c1, -, -⟩ := blkW2 hO5.out.b0
          have hl1 : l1 ≤ 300000 := by
            have h1 : val os ≤ val xs := by rw [hv1.out]; exact Nat.div_le_self _ _
            have h2 := val_lt xs hx.2.1
            rw [hx.1] at h2
            have := len_le hU1 ht1 (Nat.lt_of_le_of_lt h1 h2)
            omega
          have hl2 : l2 ≤ 300000 := by
            have h1 : val os2 ≤ val ys := by rw [hv2.out]; exact Nat.div_le_self _ _
            have h2 := val_lt ys hys.2.1
            rw [hys.1] at h2
            have := len_le hU2 ht2 (Nat.lt_of_le_of_lt h1 h2)
            omega
          go_wp2_with fail
          refine (r_signed A1 l1 k1 s os _ hU15 ht1 (by omega) (Rat.divInt n m).num (by show _ = _; rw [hnum.out.1, hsx.out, hv1.out]; exact tdiv_sg n (val gs) (val xs) hvx.out)).mono ?_
          rintro e w6 ⟨z1, rfl, hz1, hb6⟩
          have hO6 := Lib.hid (hO5.out.call hb6)
          have hU26 := hU2.below hb6 (Nat.le_refl _)
          clear hb6 c0 c1
          go_wp2_with fail
          refine (r_signed A2 l2 k2 false os2 _ hU26 ht2 (by omega) (Rat.divInt n m).den (by show _ = _; rw [hnum.out.2, hv2.out, tdiv_sg m (val gs) (val ys) hvy.out]; have := hmh.out; rw [if_neg (by simp; omega)]; simp)).mono ?_
          rintro e w7 ⟨y1, rfl, hy1, hb7⟩
          have hO7 := Lib.hid (hO6.out.call hb7)
          have hz17 := hz1.below hb7 (Nat.le_refl _)
          clear hb7
          obtain ⟨c0, c1, f0, f1⟩ := blkW2 hO7.out.b0
          obtain ⟨c2, c3, f2, f3⟩ := blkW2 hO7.out.b1
          go_wp2_with fail
          go_meet
          obtain ⟨q1, q2, q3⟩ := twoputW (za := ⟨A, l, c, s⟩) (zb := ⟨B, k, d, false⟩) hO7.out hz17 hy1 rfl
          exact ⟨z1, y1, q1, q2, q3⟩
      case rest =>
        obtain ⟨z, y, hO, hz, hy⟩ := hcut
        clear hO3
        obtain ⟨c0, c1, -, -⟩ := blkW2 hO.out.b0
        obtain ⟨c2, c3, -, -⟩ := blkW2 hO.out.b1
        obtain ⟨⟨d0, d1, d2, d3⟩, f0, f1, f2, f3⟩ := blkW4 hO.out.b2
        have hres : QW wc ⟨z, y⟩ (Rat.divInt n m) := ⟨hz, _, hy, .inl rfl⟩
        go_wp2_with fail
        refine bodyPost_ret (v := .agg #[.slice z.A z.l z.c, .bool z.g, .slice y.A y.l y.c, .bool y.g]) (by simp [results, Try.results31, go_sem, d0, d1, d2, d3, f0, f1, f2, f3]) rfl ⟨⟨z, y⟩, rfl, hres.set (NoW.w4 hO.out.b2) (SetB.set4 _ _ _ _ _ _ _ _ _ _), hO.out.setW4 2 _ _ _ _ _ _ _ _⟩

end Go.Proofs.Ytgoojlnfobjplaa
