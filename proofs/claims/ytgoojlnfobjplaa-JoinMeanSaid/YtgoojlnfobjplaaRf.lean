/- Integers of the reference: sum, product, comparison, as an int. -/
import Derived.Deep.RegionHeld3
import Derived.Test.YtgoojlnfobjplaaRd
import Derived.Test.YtgoojlnfobjplaaZg
namespace Go.Proofs.Ytgoojlnfobjplaa
open Go.RowKit
set_option linter.unusedSimpArgs false
set_option linter.unusedVariables false
attribute [local go_sem] qn30 qe30

theorem keep22 {w w1 : World} {z y : Wv} {t : TypeId} {r} (h : Own w ((t, #[.slice z.A z.l z.c, .bool z.g]) :: (t, #[.slice y.A y.l y.c, .bool y.g]) :: r) w1) : w1.cell? ⟨w.heap.size, 0, none⟩ = some (.slice z.A z.l z.c) ∧ w1.cell? ⟨w.heap.size, 1, none⟩ = some (.bool z.g) ∧ w1.cell? ⟨w.heap.size + 1, 0, none⟩ = some (.slice y.A y.l y.c) ∧ w1.cell? ⟨w.heap.size + 1, 1, none⟩ = some (.bool y.g) :=
  ⟨h.b0.cell 0, h.b0.cell 1, h.b1.cell 0, h.b1.cell 1⟩

theorem keep22s {w w1 w2 : World} {z y : Wv} {t : TypeId} {r} (h : Own w ((t, #[.slice z.A z.l z.c, .bool z.g]) :: (t, #[.slice y.A y.l y.c, .bool y.g]) :: r) w1) (hs : SetB (w.heap.size + 1 + 1) w1 w2) : w2.cell? ⟨w.heap.size, 0, none⟩ = some (.slice z.A z.l z.c) ∧ w2.cell? ⟨w.heap.size, 1, none⟩ = some (.bool z.g) ∧ w2.cell? ⟨w.heap.size + 1, 0, none⟩ = some (.slice y.A y.l y.c) ∧ w2.cell? ⟨w.heap.size + 1, 1, none⟩ = some (.bool y.g) := by
  have k : ∀ p : Addr, p.block < w.heap.size + 1 + 1 → w2.cell? p = w1.cell? p := fun p hp => hs.2 p (by omega)
  obtain ⟨h1, h2, h3, h4⟩ := keep22 h
  exact ⟨(k ⟨w.heap.size, 0, none⟩ (by show w.heap.size < _; omega)).trans h1, (k ⟨w.heap.size, 1, none⟩ (by show w.heap.size < _; omega)).trans h2,
    (k ⟨w.heap.size + 1, 0, none⟩ (by show w.heap.size + 1 < _; omega)).trans h3, (k ⟨w.heap.size + 1, 1, none⟩ (by show w.heap.size + 1 < _; omega)).trans h4⟩

theorem mul_len {A B : Option Addr} {l c k d l1 : Nat} {xs ys zs : List Nat} {w w1 : World} {C : Option Addr} {c1 : Nat} (hU : U32 w A l c xs) (hV : U32 w B k d ys) (hR : U32 w1 C l1 c1 zs) (ht : Tr zs) (hv : val zs = val xs * val ys) : l1 ≤ l + k := by
  have h1 := val_lt xs hU.2.1
  have h2 := val_lt ys hV.2.1
  have h3 := len_of_lt (k := l + k) ht (by
    rw [hv, Nat.pow_add, ← hU.1, ← hV.1]
    exact Nat.mul_lt_mul'' h1 h2)
  have := hR.1
  omega

theorem add_len {A B : Option Addr} {l c k d l1 N : Nat} {xs ys zs : List Nat} {w w1 : World} {C : Option Addr} {c1 : Nat} (hU : U32 w A l c xs) (hV : U32 w B k d ys) (hR : U32 w1 C l1 c1 zs) (ht : Tr zs) (hv : val zs ≤ val xs + val ys) (hl : l ≤ N) (hk : k ≤ N) : l1 ≤ N + 1 := by
  have h1 := val_lt xs hU.2.1
  have h2 := val_lt ys hV.2.1
  rw [hU.1] at h1
  rw [hV.1] at h2
  have h3 : (4294967296 : Nat) ^ l ≤ 4294967296 ^ N := Nat.pow_le_pow_right (by omega) hl
  have h4 : (4294967296 : Nat) ^ k ≤ 4294967296 ^ N := Nat.pow_le_pow_right (by omega) hk
  have h5 := len_of_lt (k := N + 1) ht (by rw [Nat.pow_succ]; omega)
  have := hR.1
  omega

theorem PIend {w w2 : World} {x y : TypeId × Array Value} {t : TypeId} {a b : Value} {z2 : Wv} {n : Int} (hO : Own w [x, y, (t, #[a, b])] w2) (hab : NoW w2 (w.heap.size + 1 + 1)) (h : WR w2 z2 n) (u v : Value) : WR ((w2.setCell ⟨w.heap.size + 1 + 1, 0, none⟩ u).setCell ⟨w.heap.size + 1 + 1, 1, none⟩ v) z2 n := h.set hab (SetB.set2 _ _ _ _ _ _)

set_option maxRecDepth 100000 in
set_option maxHeartbeats 4000000 in
theorem r_mul (z y : Wv) (n m : Int) (w : World) (hz : WR w z n) (hy : WR w y m) (hF : Fit n) (hG : Fit m) :
    Calls Try.prog 33 #[.agg #[.slice z.A z.l z.c, .bool z.g], .agg #[.slice y.A y.l y.c, .bool y.g]] w (PI w (n * m)) := by
  have hu := Try.underlying32
  have hlz := hz.len hF
  have hly := hy.len hG
  obtain ⟨xs, hx, htx, hvx', hsx'⟩ := hz
  obtain ⟨ys, hys, hty, hvy', hsy'⟩ := hy
  have hsx := Lib.hid hsx'
  have hsy := Lib.hid hsy'
  have hvx := Lib.hid hvx'
  have hvy := Lib.hid hvy'
  clear hsx' hsy' hvx' hvy'
  have hO0 := Lib.hid (Own.three w 32 32 32 #[.slice z.A z.l z.c, .bool z.g] #[.slice y.A y.l y.c, .bool y.g] #[.slice none 0 0, .bool false])
  go_enter Try.func33, Try.ntmps33
  go_wp2_with fail
  go_region_held3 (fun w' => w'.cell? ⟨w.heap.size, 0, none⟩ = some (.slice z.A z.l z.c) ∧ w'.cell? ⟨w.heap.size, 1, none⟩ = some (.bool z.g) ∧ w'.cell? ⟨w.heap.size + 1, 0, none⟩ = some (.slice y.A y.l y.c) ∧ w'.cell? ⟨w.heap.size + 1, 1, none⟩ = some (.bool y.g))
    (first | (with_reducible exact keep22s hO2.out (SetB.set2 _ _ _ _ _ _)) | (with_reducible exact keep22 hO2.out) | (with_reducible exact keep22 hO1.out) | (with_reducible exact keep22 hO0.out.drew) | go_keep)
    (first
      | (go_at_call 62; refine (r_times z.A y.A z.l z.c y.l y.c xs ys _ (hO0.out.drew.u32 hx) (hO0.out.drew.u32 hys) (by omega) (by omega)).mono ?_; rintro e w1 ⟨A1, l1, c1, zs, rfl, hU1, hT1, hv1, hb1⟩; have hl1 := mul_len hx hys hU1 hT1 hv1; have hO1 := Lib.hid (hO0.out.drew.call hb1); have hv1 := Lib.hid hv1; clear hb1)
      | (go_at_call 60; refine (r_signed A1 l1 c1 _ zs _ hU1 hT1 (by omega) (n * m) (by rw [hsx.out, hsy.out]; exact mul_sign hvx.out hvy.out hv1.out)).mono ?_; rintro e w2 ⟨z2, rfl, hz2, hb2⟩; have hO2 := Lib.hid (hO1.out.call hb2); obtain ⟨hc0, hc1, hf0, hf1⟩ := blkW2 hO2.out.b2; clear hb2))
  go_wp2_with fail
  refine bodyPost_ret (v := .agg #[.slice z2.A z2.l z2.c, .bool z2.g]) (by simp [results, Try.results33, go_sem, hc0, hc1, hf0, hf1]) rfl ⟨z2, rfl, hz2.set (NoW.w (hO2.out).b2) (SetB.set2 _ _ _ _ _ _), (hO2.out).setW2 2 _ _ _ _⟩

end Go.Proofs.Ytgoojlnfobjplaa

/- Integers of the reference: sum, comparison. -/
namespace Go.Proofs.Ytgoojlnfobjplaa
open Go.RowKit
set_option linter.unusedSimpArgs false
set_option linter.unusedVariables false
attribute [local go_sem] qn30 qe30

theorem add_sg {n m : Int} {v a b : Nat} (h1 : a = n.natAbs) (h2 : b = m.natAbs) (he : decide (n < 0) = decide (m < 0)) (h3 : v = a + b) : n + m = if decide (n < 0) = true then -(v : Int) else (v : Int) := by
  by_cases hn : n < 0 <;> by_cases hm : m < 0 <;> simp [hn, hm] at he ⊢ <;> omega
theorem add_sg2 {n m : Int} {v a b : Nat} (h1 : a = n.natAbs) (h2 : b = m.natAbs) (he : decide (n < 0) ≠ decide (m < 0)) (hle : b ≤ a) (h3 : v = a - b) : n + m = if decide (n < 0) = true then -(v : Int) else (v : Int) := by
  by_cases hn : n < 0 <;> by_cases hm : m < 0 <;> simp [hn, hm] at he ⊢ <;> omega
theorem add_sg3 {n m : Int} {v a b : Nat} (h1 : a = n.natAbs) (h2 : b = m.natAbs) (he : decide (n < 0) ≠ decide (m < 0)) (hle : a ≤ b) (h3 : v = b - a) : n + m = if decide (m < 0) = true then -(v : Int) else (v : Int) := by
  by_cases hn : n < 0 <;> by_cases hm : m < 0 <;> simp [hn, hm] at he ⊢ <;> omega

theorem cmpN_nn {a b : Nat} (h : b ≤ a) : 0 ≤ cmpN a b := by
  unfold cmpN
  rw [if_neg (by omega)]
  split <;> omega

set_option maxRecDepth 100000 in
set_option maxHeartbeats 4000000 in
theorem r_add (z y : Wv) (n m : Int) (w : World) (hz : WR w z n) (hy : WR w y m) (hF : Fit n) (hG : Fit m) :
    Calls Try.prog 75 #[.agg #[.slice z.A z.l z.c, .bool z.g], .agg #[.slice y.A y.l y.c, .bool y.g]] w (PI w (n + m)) := by
  have hu := Try.underlying32
  have hlz := hz.len hF
  have hly := hy.len hG
  obtain ⟨xs, hx, htx, hvx', hsx'⟩ := hz
  obtain ⟨ys, hys, hty, hvy', hsy'⟩ := hy
  have hsx := Lib.hid hsx'
  have hsy := Lib.hid hsy'
  have hvx := Lib.hid hvx'
  have hvy := Lib.hid hvy'
  clear hsx' hsy' hvx' hvy'
  have hO0 := Lib.hid (Own.three w 32 32 32 #[.slice z.A z.l z.c, .bool z.g] #[.slice y.A y.l y.c, .bool y.g] #[.slice none 0 0, .bool false])
  obtain ⟨ha0, ha1, hb0, hb1⟩ := keep22 hO0.out
  by_cases he : z.g = y.g
  · have heh : Hid (decide (n < 0) = decide (m < 0)) := by show _ = _; rw [← hsx.out, ← hsy.out]; exact he
    have heb : (z.g == y.g) = true := by simp [he]
    clear he
    go_enter Try.func75, Try.ntmps75
    go_wp2_with fail
    clear ha0 ha1 hb0 hb1
    go_region_held3 (fun w' => w'.cell? ⟨w.heap.size, 0, none⟩ = some (.slice z.A z.l z.c) ∧ w'.cell? ⟨w.heap.size, 1, none⟩ = some (.bool z.g) ∧ w'.cell? ⟨w.heap.size + 1, 0, none⟩ = some (.slice y.A y.l y.c) ∧ w'.cell? ⟨w.heap.size + 1, 1, none⟩ = some (.bool y.g))
      (first | (with_reducible exact keep22s hO2.out (SetB.set2 _ _ _ _ _ _)) | (with_reducible exact keep22 hO2.out) | (with_reducible exact keep22 hO1.out) | (with_reducible exact keep22 hO0.out.drew) | go_keep)
      (first
        | (go_at_call 82; refine (r_plus z.A y.A z.l z.c y.l y.c xs ys _ (hO0.out.drew.u32 hx) (hO0.out.drew.u32 hys) (by omega) (by omega)).mono ?_; rintro e w1 ⟨A1, l1, c1, zs, rfl, hU1, hT1, hv1, hb1⟩; have hl1 := add_len hx hys hU1 hT1 (Nat.le_of_eq hv1) hlz hly; have hO1 := Lib.hid (hO0.out.drew.call hb1); have hv1 := Lib.hid hv1; clear hb1)
        | (go_at_call 60; refine (r_signed A1 l1 c1 _ zs _ hU1 hT1 (by omega) (n + m) (by rw [hsx.out]; exact add_sg hvx.out hvy.out heh.out hv1.out)).mono ?_; rintro e w2 ⟨z2, rfl, hz2, hb2⟩; have hO2 := Lib.hid (hO1.out.call hb2); obtain ⟨hc0, hc1, hf0, hf1⟩ := blkW2 hO2.out.b2; clear hb2))
    go_wp2_with fail
    refine bodyPost_ret (v := .agg #[.slice z2.A z2.l z2.c, .bool z2.g]) (by simp [results, Try.results75, go_sem, hc0, hc1, hf0, hf1]) rfl ⟨z2, rfl, hz2.set (NoW.w (hO2.out).b2) (SetB.set2 _ _ _ _ _ _), (hO2.out).setW2 2 _ _ _ _⟩
  · have heh : Hid (decide (n < 0) ≠ decide (m < 0)) := by show _ ≠ _; rw [← hsx.out, ← hsy.out]; exact he
    have heb : (z.g == y.g) = false := by simpa using he
    clear he
    obtain ⟨cc, hcc'⟩ : ∃ cc, cc = cmpN (val xs) (val ys) := ⟨_, rfl⟩
    have hcc := Lib.hid hcc'
    clear hcc'
    by_cases hle : val ys ≤ val xs
    · have hc0 : 0 ≤ cc := by rw [hcc.out]; exact cmpN_nn hle
      have hle := Lib.hid hle
      go_enter Try.func75, Try.ntmps75
      go_wp2_with fail
      have ho := r_order z.A y.A z.l z.c y.l y.c xs ys _ (hO0.out.u32 hx) (hO0.out.u32 hys) htx hty (by omega) (by omega)
      rw [← hcc.out] at ho
      refine ho.mono ?_
      clear ho
      rintro e w3 ⟨rfl, hb3⟩
      have hO0 := Lib.hid (hO0.out.call hb3)
      clear hb3 ha0 ha1 hb0 hb1
      go_wp2_with fail
      go_region_held3 (fun w' => w'.cell? ⟨w.heap.size, 0, none⟩ = some (.slice z.A z.l z.c) ∧ w'.cell? ⟨w.heap.size, 1, none⟩ = some (.bool z.g) ∧ w'.cell? ⟨w.heap.size + 1, 0, none⟩ = some (.slice y.A y.l y.c) ∧ w'.cell? ⟨w.heap.size + 1, 1, none⟩ = some (.bool y.g))
        (first | (with_reducible exact keep22s hO2.out (SetB.set2 _ _ _ _ _ _)) | (with_reducible exact keep22 hO2.out) | (with_reducible exact keep22 hO1.out) | (with_reducible exact keep22 hO0.out.drew) | go_keep)
        (first
          | (go_at_call 83; refine (r_less z.A y.A z.l z.c y.l y.c xs ys _ (hO0.out.drew.u32 hx) (hO0.out.drew.u32 hys) (by omega) (by have h4 := len_le_of_val hx.2.1 hty hle.out; have h5 := hx.1; have h6 := hys.1; omega) hle).mono ?_; rintro e w1 ⟨A1, l1, c1, zs, rfl, hU1, hT1, hv1, hb1⟩; have hl1 := add_len hx hys hU1 hT1 (by omega) hlz hly; have hO1 := Lib.hid (hO0.out.drew.call hb1); have hv1 := Lib.hid hv1; clear hb1)
          | (go_at_call 60; refine (r_signed A1 l1 c1 _ zs _ hU1 hT1 (by omega) (n + m) (by rw [hsx.out]; exact add_sg2 hvx.out hvy.out heh.out hle.out hv1.out)).mono ?_; rintro e w2 ⟨z2, rfl, hz2, hb2⟩; have hO2 := Lib.hid (hO1.out.call hb2); obtain ⟨hc0, hc1, hf0, hf1⟩ := blkW2 hO2.out.b2; clear hb2))
      go_wp2_with fail
      refine bodyPost_ret (v := .agg #[.slice z2.A z2.l z2.c, .bool z2.g]) (by simp [results, Try.results75, go_sem, hc0, hc1, hf0, hf1]) rfl ⟨z2, rfl, hz2.set (NoW.w (hO2.out).b2) (SetB.set2 _ _ _ _ _ _), (hO2.out).setW2 2 _ _ _ _⟩
    · have hc0 : cc < 0 := by rw [hcc.out, cmpN_lt (by omega)]; omega
      have hle : Hid (val xs ≤ val ys) := by show _ ≤ _; omega
      go_enter Try.func75, Try.ntmps75
      go_wp2_with fail
      have ho := r_order z.A y.A z.l z.c y.l y.c xs ys _ (hO0.out.u32 hx) (hO0.out.u32 hys) htx hty (by omega) (by omega)
      rw [← hcc.out] at ho
      refine ho.mono ?_
      clear ho
      rintro e w3 ⟨rfl, hb3⟩
      have hO0 := Lib.hid (hO0.out.call hb3)
      clear hb3 ha0 ha1 hb0 hb1
      go_wp2_with fail
      go_region_held3 (fun w' => w'.cell? ⟨w.heap.size, 0, none⟩ = some (.slice z.A z.l z.c) ∧ w'.cell? ⟨w.heap.size, 1, none⟩ = some (.bool z.g) ∧ w'.cell? ⟨w.heap.size + 1, 0, none⟩ = some (.slice y.A y.l y.c) ∧ w'.cell? ⟨w.heap.size + 1, 1, none⟩ = some (.bool y.g))
        (first | (with_reducible exact keep22s hO2.out (SetB.set2 _ _ _ _ _ _)) | (with_reducible exact keep22 hO2.out) | (with_reducible exact keep22 hO1.out) | (with_reducible exact keep22 hO0.out.drew) | go_keep)
        (first
          | (go_at_call 83; refine (r_less y.A z.A y.l y.c z.l z.c ys xs _ (hO0.out.drew.u32 hys) (hO0.out.drew.u32 hx) (by omega) (by have h4 := len_le_of_val hys.2.1 htx hle.out; have h5 := hx.1; have h6 := hys.1; omega) hle).mono ?_; rintro e w1 ⟨A1, l1, c1, zs, rfl, hU1, hT1, hv1, hb1⟩; have hl1 := add_len hx hys hU1 hT1 (by omega) hlz hly; have hO1 := Lib.hid (hO0.out.drew.call hb1); have hv1 := Lib.hid hv1; clear hb1)
          | (go_at_call 60; refine (r_signed A1 l1 c1 _ zs _ hU1 hT1 (by omega) (n + m) (by rw [hsy.out]; exact add_sg3 hvx.out hvy.out heh.out hle.out hv1.out)).mono ?_; rintro e w2 ⟨z2, rfl, hz2, hb2⟩; have hO2 := Lib.hid (hO1.out.call hb2); obtain ⟨hc0, hc1, hf0, hf1⟩ := blkW2 hO2.out.b2; clear hb2))
      go_wp2_with fail
      refine bodyPost_ret (v := .agg #[.slice z2.A z2.l z2.c, .bool z2.g]) (by simp [results, Try.results75, go_sem, hc0, hc1, hf0, hf1]) rfl ⟨z2, rfl, hz2.set (NoW.w (hO2.out).b2) (SetB.set2 _ _ _ _ _ _), (hO2.out).setW2 2 _ _ _ _⟩

def cmpI (a b : Int) : Int := if a < b then -1 else if b < a then 1 else 0

theorem cmp_pos {n m : Int} {a b : Nat} (h1 : a = n.natAbs) (h2 : b = m.natAbs) (hn : ¬ n < 0) (hm : ¬ m < 0) : cmpI n m = cmpN a b := by
  unfold cmpI cmpN
  split <;> split <;> (try split) <;> (try split) <;> omega
theorem cmp_neg {n m : Int} {a b : Nat} (h1 : a = n.natAbs) (h2 : b = m.natAbs) (hn : n < 0) (hm : m < 0) : cmpI n m = -cmpN a b := by
  unfold cmpI cmpN
  split <;> split <;> (try split) <;> (try split) <;> omega

theorem cmpN_in (a b : Nat) : -1 ≤ cmpN a b ∧ cmpN a b ≤ 1 := by
  unfold cmpN
  split
  · omega
  · split <;> omega

set_option maxRecDepth 100000 in
set_option maxHeartbeats 4000000 in
theorem r_cmp (z y : Wv) (n m : Int) (w : World) (hz : WR w z n) (hy : WR w y m) (hlz : z.l ≤ 1000000) (hly : y.l ≤ 1000000) :
    Calls Try.prog 35 #[.agg #[.slice z.A z.l z.c, .bool z.g], .agg #[.slice y.A y.l y.c, .bool y.g]] w fun e w' => e = .returned (.int .i64 (cmpI n m)) ∧ Below w.heap.size w w' := by
  have hu := Try.underlying32
  obtain ⟨A, l, c, s⟩ := z
  obtain ⟨B, k, d, t⟩ := y
  obtain ⟨xs, hx, htx, hvx', hsx'⟩ := hz
  obtain ⟨ys, hys, hty, hvy', hsy'⟩ := hy
  simp only at hx hys hsx' hsy' hlz hly
  have hsx := Lib.hid hsx'
  have hsy := Lib.hid hsy'
  have hvx := Lib.hid hvx'
  have hvy := Lib.hid hvy'
  clear hsx' hsy' hvx' hvy'
  have hO0 := Lib.hid (Own.two w 32 32 #[.slice A l c, .bool s] #[.slice B k d, .bool t])
  obtain ⟨ha0, ha1, -, -⟩ := blkW2 hO0.out.b0
  obtain ⟨hb0, hb1, -, -⟩ := blkW2 hO0.out.b1
  obtain ⟨cc, hcc'⟩ : ∃ cc, cc = cmpN (val xs) (val ys) := ⟨_, rfl⟩
  have hci : -1 ≤ cc ∧ cc ≤ 1 := by rw [hcc']; exact cmpN_in _ _
  have hcc := Lib.hid hcc'
  clear hcc'
  have ho := r_order A B l c k d xs ys _ (hO0.out.u32 hx) (hO0.out.u32 hys) htx hty hlz hly
  rw [← hcc.out] at ho
  have ho := Lib.hid ho
  cases s <;> cases t
  · have hr : Hid (cmpI n m = cc) := by rw [hcc.out]; exact cmp_pos hvx.out hvy.out (by have := hsx.out; simpa using this) (by have := hsy.out; simpa using this)
    go_enter Try.func35, Try.ntmps35
    go_wp2_with fail
    refine ho.out.mono ?_
    clear ho
    rintro e w3 ⟨rfl, hb3⟩
    have hO1 := Lib.hid (hO0.out.call hb3)
    go_wp2_with fail
    go_ret
    exact ⟨by rw [hr.out]; rfl, hO1.out.1⟩
  · have hr : Hid (cmpI n m = 1) := by have h1 := hsx.out; have h2 := hsy.out; simp at h1 h2; show _ = _; unfold cmpI; rw [if_neg (by omega), if_pos (by omega)]
    go_enter Try.func35, Try.ntmps35
    go_wp2_with fail
    go_ret
    exact ⟨by rw [hr.out]; rfl, hO0.out.1⟩
  · have hr : Hid (cmpI n m = -1) := by have h1 := hsx.out; have h2 := hsy.out; simp at h1 h2; show _ = _; unfold cmpI; rw [if_pos (by omega)]
    go_enter Try.func35, Try.ntmps35
    go_wp2_with fail
    go_ret
    exact ⟨by rw [hr.out]; rfl, hO0.out.1⟩
  · have hr : Hid (cmpI n m = -cc) := by rw [hcc.out]; exact cmp_neg hvx.out hvy.out (by have := hsx.out; simpa using this) (by have := hsy.out; simpa using this)
    go_enter Try.func35, Try.ntmps35
    go_wp2_with fail
    refine ho.out.mono ?_
    clear ho
    rintro e w3 ⟨rfl, hb3⟩
    have hO1 := Lib.hid (hO0.out.call hb3)
    go_wp2_with fail
    go_ret
    exact ⟨by rw [hr.out]; rfl, hO1.out.1⟩

end Go.Proofs.Ytgoojlnfobjplaa

/- Integers of the reference: as an int. -/
namespace Go.Proofs.Ytgoojlnfobjplaa
open Go.RowKit
set_option linter.unusedSimpArgs false
set_option linter.unusedVariables false
attribute [local go_sem] qn30 qe30

theorem or_w0 (x : Nat) (hx : x < 4294967296) : bits .or .u64 ((val [] : Nat) : Int) (x : Int) = (x : Int) := by
  rw [u64_or_nat _ _ (by simp [val]) (by omega)]
  simp [val]
theorem or_w1 (a x : Nat) (ha : a < 4294967296) (hx : x < 4294967296) : bits .or .u64 (a : Int) ((x : Int) * 4294967296) = ((a + 4294967296 * x : Nat) : Int) := by
  have e : (x : Int) * 4294967296 = ((2 ^ 32 * x : Nat) : Int) := by omega
  rw [e, u64_or_nat _ _ (by omega) (by omega), Nat.or_comm, ← Nat.two_pow_add_eq_or_of_lt (by simpa using ha)]
  congr 1
  omega

/-- an integer as an int, if it is one -/
def PSm (w : World) (n : Int) (e : Ending) (w' : World) : Prop :=
  Below w.heap.size w w' ∧ ∃ m b, e = .returned (.tuple #[.int .i64 m, .bool b]) ∧ ((b = true ∧ m = n ∧ In64 n) ∨ (b = false ∧ ¬ In64 n))

set_option maxRecDepth 100000 in
set_option maxHeartbeats 4000000 in
theorem r_small (z : Wv) (n : Int) (w : World) (hz : WR w z n) :
    Calls Try.prog 56 #[.agg #[.slice z.A z.l z.c, .bool z.g]] w (PSm w n) := by
  have hu := Try.underlying32
  obtain ⟨A, l, c, s⟩ := z
  obtain ⟨xs, hx, ht, hv', hs'⟩ := hz
  simp only at hx hs'
  have hs := Lib.hid hs'
  have hv := Lib.hid hv'
  have hl := Lib.hid hx.1
  clear hs' hv'
  have hO := Lib.hid (Own.one w 32 #[.slice A l c, .bool s])
  obtain ⟨ha0, ha1, -, -⟩ := blkW2 hO.out.b0
  by_cases h2 : 2 < l
  · have hbig : Hid (¬ In64 n) := by
      have h3 := ht.low (by rintro rfl; have := hl.out; simp at this; omega)
      have h4 : (4294967296 : Nat) ^ 2 ≤ 4294967296 ^ (xs.length - 1) := Nat.pow_le_pow_right (by omega) (by have := hl.out; omega)
      have h5 := hv.out
      show ¬ _
      unfold In64
      omega
    go_enter Try.func56, Try.ntmps56
    go_wp2_with fail
    go_ret2
    exact ⟨hO.out.1, 0, false, rfl, .inr ⟨rfl, hbig.out⟩⟩
  · go_enter Try.func56, Try.ntmps56
    go_wp2_with fail
    go_loopw [4, 5] (fun v4 v5 wr => ∃ j : Nat, j ≤ l ∧ v5 = .int .i64 j ∧ v4 = .int .u64 (val (xs.take j)) ∧ wr = w.alloc (.cells #[.slice A l c, .bool s] 32)) (fun _ j _ => l - (intOf j).toNat)
    case atStart => exact ⟨0, by omega, rfl, by simp [val], rfl⟩
    case round =>
      obtain ⟨j, hj, rfl, rfl, rfl⟩ := hrel
      by_cases hlt : j < l
      · obtain ⟨gx, ox, x, rfl, hgx, hxk', hxl, hcx⟩ := hx.cellD hO.out.1 (Nat.le_refl _) hlt
        have hxk := Lib.hid hxk'
        clear hxk'
        rcases (show j = 0 ∨ j = 1 by omega) with rfl | rfl
        · rw [Nat.add_zero] at hcx
          go_wp2_with fail
          go_roundw
          case rel => exact ⟨1, by omega, by go_num, congrArg _ (by rw [or_w0 x hxl]; have e := val_take_succ xs 0 x hxk.out; rw [e]; try simp [val]), trivial⟩
          case measure => simp [intOf]; omega
        · go_wp2_with fail
          go_roundw
          case rel => exact ⟨2, by omega, by go_num, congrArg _ (by rw [or_w1 _ x (by have h1 := val_lt (xs.take 1) (Bd_take hx.2.1 1); have h2 : (4294967296 : Nat) ^ (xs.take 1).length ≤ 4294967296 ^ 1 := Nat.pow_le_pow_right (by omega) (by rw [List.length_take]; omega); omega) hxl]; have e := val_take_succ xs 1 x hxk.out; rw [e]; try simp), trivial⟩
          case measure => simp [intOf]; omega
      · have : j = l := by omega
        subst this
        obtain ⟨V, hV⟩ : ∃ V, V = val (xs.take j) := ⟨_, rfl⟩
        rw [← hV]
        have hVn : Hid (V = n.natAbs) := by show _ = _; rw [hV, List.take_of_length_le (by have := hl.out; omega)]; exact hv.out
        have hVb : Hid (V < 18446744073709551616) := by
          have h1 := val_lt (xs.take j) (Bd_take hx.2.1 j)
          have h3 : (4294967296 : Nat) ^ (xs.take j).length ≤ 4294967296 ^ 2 := Nat.pow_le_pow_right (by omega) (by rw [List.length_take]; omega)
          show _ < _
          omega
        clear hV
        cases s with
        | true =>
          go_wp2_with fail
          go_ret2
          have h1 := hVn.out
          have h2 := hVb.out
          have h3 := hs.out
          simp at h3
          refine ⟨hO.out.1, _, _, rfl, ?_⟩
          unfold In64
          by_cases h : V ≤ 9223372036854775808
          · exact .inl ⟨by simp; omega, by unfold wrap64; (try rw [IntKind.wrap_u64]); omega, by omega⟩
          · exact .inr ⟨by simp; omega, by omega⟩
        | false =>
          go_wp2_with fail
          go_ret2
          have h1 := hVn.out
          have h2 := hVb.out
          have h3 := hs.out
          simp at h3
          refine ⟨hO.out.1, _, _, rfl, ?_⟩
          unfold In64
          by_cases h : V < 9223372036854775808
          · exact .inl ⟨by simp; omega, by unfold wrap64; (try rw [IntKind.wrap_u64]); omega, by omega⟩
          · exact .inr ⟨by simp; omega, by omega⟩

end Go.Proofs.Ytgoojlnfobjplaa
