/- Quotient and rest of two amounts, in the reference: small divisors. -/
import Derived.Test.YtgoojlnfobjplaaRi
import Derived.Test.YtgoojlnfobjplaaZr1
namespace Go.Proofs.Ytgoojlnfobjplaa
open Go.RowKit
set_option linter.unusedSimpArgs false
set_option linter.unusedVariables false
attribute [local go_sem] qn30 qe30

/-- quotient and rest come out -/
def PParts (w : World) (a b : Nat) (e : Ending) (w' : World) : Prop :=
  ∃ A l c os B k d rs, e = .returned (.tuple #[.slice A l c, .slice B k d]) ∧ U32 w' A l c os ∧ Tr os ∧ val os = a / b ∧ U32 w' B k d rs ∧ Tr rs ∧ val rs = a % b ∧ Below w.heap.size w w'

set_option maxRecDepth 100000 in
set_option maxHeartbeats 1000000 in
theorem r_parts1 (A B : Option Addr) (n c m d : Nat) (xs ys : List Nat) (w : World) (hx : U32 w A n c xs) (hy : U32 w B m d ys) (tx : Tr xs) (ty : Tr ys) (hn : n ≤ 700000) (hm : m ≤ 700000) (hlt : Hid (val xs < val ys)) :
    Calls Try.prog 59 #[.slice A n c, .slice B m d] w (PParts w (val xs) (val ys)) := by
  have hc := Lib.hid (cmpN_lt hlt.out)
  go_enter Try.func59, Try.ntmps59
  go_wp2_with fail
  have ho := r_order A B n c m d xs ys _ hx hy tx ty (by omega) (by omega)
  rw [hc.out] at ho
  refine ho.mono ?_
  clear ho
  rintro e w1 ⟨rfl, hb1⟩
  have hx1 := hx.below hb1 (Nat.le_refl _)
  go_wp2_with fail
  go_ret2
  exact ⟨none, 0, 0, [], A, n, c, xs, rfl, U32.nil _, Tr_nil, (Nat.div_eq_of_lt hlt.out).symm, hx1, tx, (Nat.mod_eq_of_lt hlt.out).symm, hb1⟩

set_option maxRecDepth 100000 in
set_option maxHeartbeats 1000000 in
theorem r_parts2 (A B : Option Addr) (n c d : Nat) (xs : List Nat) (y : Nat) (w : World) (hx : U32 w A n c xs) (hy : U32 w B 1 d [y]) (tx : Tr xs) (ty : Tr [y]) (hn : n ≤ 700000) (hy0 : 0 < y) (hle : Hid (val [y] ≤ val xs)) :
    Calls Try.prog 59 #[.slice A n c, .slice B 1 d] w (PParts w (val xs) (val [y])) := by
  obtain ⟨i0, hi, hz0, hz1, hz2⟩ := info_parts info32
  have hyl : y < 4294967296 := hy.2.1 y (by simp)
  have hxl := Lib.hid hx.1
  go_enter Try.func59, Try.ntmps59
  go_wp2_with fail
  refine (r_order A B n c 1 d xs [y] _ hx hy tx ty (by omega) (by omega)).mono ?_
  rintro e w1 ⟨rfl, hb1⟩
  obtain ⟨cv, hcv, hcd⟩ : ∃ cv : Int, cv = cmpN (val xs) (val [y]) ∧ ¬ cv < 0 := ⟨_, rfl, by unfold cmpN; rw [if_neg (by have := hle.out; omega)]; split <;> omega⟩
  rw [← hcv]
  clear hcv hle
  have hx1 := hx.below hb1 (Nat.le_refl _)
  have hy1 := hy.below hb1 (Nat.le_refl _)
  go_wp2_with (at_make; refine wpList_make_full _ rfl _ _ 30 rfl w1.heap.size 85 i0 (.int .u32 0) 1 Try.underlying30 hi hz0 hz1 .i64 .i64 _ _ n rfl rfl ?c1 ?c1' ?c2 ?c3 ?c4 ?_; rotate_left 5; intro w2 hown hg1)
  case c1 => simp
  case c1' => simp
  case c2 => rw [hz2]; omega
  case c3 => simp [maxLen]; omega
  case c4 => exact Nat.le_refl _
  have hb0 : Below w1.heap.size w1 w2 := (Below.refl _ _).grown hg1 (Nat.le_refl _) (by intro k hk; cases hk)
  rw [made_zeros] at hown
  clear hg1
  obtain ⟨gy, oy, y', rfl, hgy, hyk', hyl', hcy1⟩ := hy1.cell (k := 0) (by omega)
  obtain rfl : y = y' := by simpa using hyk'
  rw [Nat.add_zero] at hcy1
  clear hyk' hyl'
  have hn1 : gy ≠ w1.heap.size := by omega
  have hn2 : w1.heap.size ≠ gy := by omega
  go_loopw [7, 8] (fun v7 v8 wr => ∃ (j : Int) (r : Nat) (L : List Nat), -1 ≤ j ∧ j < n ∧ v8 = .int .i64 j ∧ v7 = .int .u64 r ∧ r < 4294967296 ∧ wr.ownsRow w1.heap.size 85 1 (.slice (some ⟨w1.heap.size, 0, none⟩) n n) n (vs L) ∧ Bd L ∧ Hid (DV xs L y (j + 1).toNat r) ∧ Below w1.heap.size w1 wr) (fun _ i _ => (intOf i + 1).toNat)
  case atStart => exact ⟨(n : Int) - 1, 0, List.replicate n 0, by omega, by omega, rfl, rfl, by omega, hown, Bd_zeros _, by rw [show ((n : Int) - 1 + 1).toNat = n by omega]; exact DV.start hxl.out hy0, hb0⟩
  case round =>
    clear hown hb0
    obtain ⟨j, r, L, hj0, hjn, rfl, rfl, hrl, hown, hbd, hD, hb⟩ := hrel
    by_cases hj : 0 ≤ j
    · obtain ⟨k, rfl⟩ := Int.eq_ofNat_of_zero_le hj
      obtain ⟨gx, ox, x, rfl, hgx, hxk', hxb, hcx⟩ := (hx1.below hb (Nat.le_refl _)).cell (k := k) (by omega)
      have hcy := (hb.cell (p := ⟨gy, oy, none⟩) hgy).trans hcy1
      have hfr := hown.frozenAt k
      obtain ⟨o, ho', hco⟩ := row_cell hown (k := k) (by omega)
      clear ho'
      have hD' : Hid (DV xs L y (k + 1) r) := by have := hD.out; rwa [show ((k : Int) + 1).toNat = k + 1 by omega] at this
      have hst := Lib.hid (hD'.out.step hxk')
      have hry := hD.out.2.1
      have hqb := dv_lt hry hxb
      have hor := or_shl hrl hxb
      have hpb := Nat.mod_lt (r * 4294967296 + x) hy0
      clear hxk' hD hD'
      obtain ⟨s, hs⟩ : ∃ s, s = r * 4294967296 + x := ⟨_, rfl⟩
      rw [← hs] at hst hqb hor hpb
      have hdv := tdivN s y
      have hmd := tmodN s y
      obtain ⟨q, hq⟩ : ∃ q, q = s / y := ⟨_, rfl⟩
      obtain ⟨p, hp⟩ : ∃ p, p = s % y := ⟨_, rfl⟩
      rw [← hq] at hst hqb hdv
      rw [← hp] at hst hpb hmd
      have hp2 : p < 4294967296 := by omega
      obtain ⟨hor1, hor2⟩ := hor
      clear hq hp hs
      have hyne : ((y : Int) == 0) = false := by simp; omega
      go_wp2
      go_roundw
      case rel => exact ⟨(k : Int) - 1, p, L.set k q, by omega, by omega, rfl, rfl, hp2, row_set hown k q (by first | rfl | omega), Bd_set hbd hqb, by rw [show ((k : Int) - 1 + 1).toNat = k by omega]; exact hst, hb.setCell (Nat.le_refl _) _⟩
      case measure => simp [intOf] <;> omega
    · have : j = -1 := by omega
      subst this
      have hD := hD.out
      rw [show ((-1 : Int) + 1).toNat = 0 by omega] at hD
      obtain ⟨hv, hry, hll⟩ := hD
      rw [List.drop_zero, List.drop_zero] at hv
      have hq : Hid (val L = val xs / val [y] ∧ val [r] = val xs % val [y]) := by
        show _ ∧ _
        have e1 : val [y] = y := by simp [val]
        have e2 : val [r] = r := by simp [val]
        rw [e1, e2, hv]
        constructor
        · rw [Nat.mul_comm, Nat.mul_add_div (by omega), Nat.div_eq_of_lt hry]; rfl
        · rw [Nat.mul_comm, Nat.mul_add_mod, Nat.mod_eq_of_lt hry]
      have hU := U32.own hown hbd
      clear hv hll hown hcy1
      go_wp2_with fail
      refine (r_trim _ _ _ _ _ hU (by omega)).mono ?_
      rintro e w3 ⟨k', hk', rfl, hv', ht', hb3⟩
      have hU3 := (hU.take hk').below hb3 (Nat.le_refl _)
      have hb4 : Below w.heap.size w w3 := hb1.trans ((hb.trans (hb3.mono hb.size)).mono hb1.size)
      go_wp2_with fail
      have hX : U32 (w3.alloc (.cells #[.int .u32 (r : Int)] 85)) (some ⟨w3.heap.size, 0, none⟩) 1 1 [r] := U32.new2 (xs := [r]) rfl rfl (by intro x hx; simp at hx; omega) (by simp)
      refine (r_trim _ _ _ _ _ hX (by omega)).mono ?_
      rintro e w5 ⟨k2, hk2, rfl, hv2, ht2, hb5⟩
      have hX5 := (hX.take hk2).below hb5 (Nat.le_refl _)
      have hb6 := hb4.trans ((((Below.refl _ _).alloc (Nat.le_refl _) (.cells #[.int .u32 (r : Int)] 85)).trans (hb5.mono (by simp))).mono hb4.size)
      have hU5 := (hU3.below ((Below.refl _ _).alloc (Nat.le_refl _) (.cells #[.int .u32 (r : Int)] 85)) (Nat.le_refl _)).below hb5 (Nat.le_refl _)
      go_wp2_with fail
      go_ret2
      exact ⟨_, k', n, _, _, k2, 1, _, rfl, hU5, ht', hv'.out.trans hq.out.1, hX5, ht2, hv2.out.trans hq.out.2, hb6⟩

end Go.Proofs.Ytgoojlnfobjplaa

/- Quotient and rest of two amounts, in the reference: long division. -/
namespace Go.Proofs.Ytgoojlnfobjplaa
open Go.RowKit
set_option linter.unusedSimpArgs false
set_option linter.unusedVariables false
attribute [local go_sem] qn30 qe30

theorem U32.gb {w w' : World} {g' o n c g : Nat} {xs : List Nat} (h : U32 w (some ⟨g', o, none⟩) n c xs) (hb : w.grownBy w' (some g)) (hne : g' ≠ g) : U32 w' (some ⟨g', o, none⟩) n c xs := by
  obtain ⟨h1, h2, h3, h4, h5⟩ := h
  refine ⟨h1, h2, h3, h4, ?_⟩
  rcases h5 with ⟨h5, -⟩ | ⟨a, b, e, hl, hc⟩
  · cases h5
  · obtain ⟨rfl, rfl⟩ : g' = a ∧ o = b := by simpa using e
    exact .inr ⟨g', o, rfl, Nat.lt_of_lt_of_le hl hb.size, fun j u hu => gcell hb hl hne (hc j u hu)⟩
theorem Rw.gb {w w' : World} {g n g' : Nat} {L : List Nat} (h : Rw w g n L) (hb : w.grownBy w' (some g')) (hne : g ≠ g') : Rw w' g n L :=
  ⟨h.1.kept hb (.inr (by simpa [Value.ownBlock] using hne)), h.2⟩
theorem Rw.below {w w' : World} {g n C : Nat} {L : List Nat} (h : Rw w g n L) (hb : Below C w w') (hC : g < C) : Rw w' g n L := by
  refine ⟨?_, h.2⟩
  obtain ⟨h1, h2⟩ := h.1
  refine ⟨h1, ?_⟩
  rcases h2 with ⟨e, -⟩ | ⟨g', cap, cur, e, h3, h4, h5⟩
  · cases e
  · have e2 : g = g' := by injection e with e _ _; injection e with e; injection e
    exact .inr ⟨g', cap, cur, e, h3, (hb.block g' (by omega)).trans h4, h5⟩
theorem gblt {w w' : World} {g B : Nat} (h : w.grownBy w' (some g)) (hg : B ≤ g) (hs : B ≤ w.heap.size) : Below B w w' := (Below.refl _ _).grown h hs (fun b hb => by injection hb with hb; omega)

theorem sh_low {ys : List Nat} {e f t m : Nat} (hl : ys.length = m) (ht : ys[m - 1]? = some t) (hm : 0 < m) (hb : Bd ys) (hef : e * f = 4294967296) (hte : t * e < 4294967296) (he : 1 ≤ e) : val ys * e < 4294967296 ^ m := by
  obtain ⟨k, rfl⟩ : ∃ k, m = k + 1 := ⟨m - 1, by omega⟩
  rw [Nat.add_sub_cancel] at ht
  have h1 := val_take_succ ys k t ht
  rw [List.take_of_length_le (by omega)] at h1
  have h2 := val_take_lt (k := k) hb
  have h3 : t < f := by
    rcases Nat.lt_or_ge t f with h | h
    · exact h
    · have := Nat.mul_le_mul_left e h
      rw [Nat.mul_comm e t] at this
      omega
  have h4 : val ys < 4294967296 ^ k * (t + 1) := by rw [h1, Nat.mul_add]; omega
  have h5 : (t + 1) * e ≤ 4294967296 := by
    have := Nat.mul_le_mul_right e (show t + 1 ≤ f from h3)
    rw [Nat.mul_comm f e] at this
    omega
  have h6 : val ys * e < 4294967296 ^ k * (t + 1) * e := Nat.mul_lt_mul_of_pos_right h4 he
  have h7 : 4294967296 ^ k * ((t + 1) * e) ≤ 4294967296 ^ k * 4294967296 := Nat.mul_le_mul_left _ h5
  rw [Nat.pow_succ]
  rw [← Nat.mul_assoc] at h7
  omega

theorem fin_alg {a b o r e : Nat} (h1 : r * e + b * e * o = a * e) (h2 : r * e < b * e) (he : 1 ≤ e) : o = a / b ∧ r = a % b := by
  have h3 : r < b := Nat.lt_of_mul_lt_mul_right h2
  have h4 : a = b * o + r := by
    refine Nat.eq_of_mul_eq_mul_right he ?_
    rw [← h1, Nat.add_mul, Nat.mul_assoc, Nat.mul_assoc, Nat.mul_comm e o]
    omega
  rw [h4]
  constructor
  · rw [Nat.mul_add_div (by omega), Nat.div_eq_of_lt h3]; rfl
  · rw [Nat.mul_add_mod, Nat.mod_eq_of_lt h3]

set_option maxRecDepth 100000 in
set_option maxHeartbeats 8000000 in
theorem r_parts3 (A B : Option Addr) (n c m d : Nat) (xs ys : List Nat) (w : World) (hx : U32 w A n c xs) (hy : U32 w B m d ys) (tx : Tr xs) (ty : Tr ys) (hn : n ≤ 390000) (hm : 2 ≤ m) (hmn : m ≤ n) (hle : Hid (val ys ≤ val xs)) :
    Calls Try.prog 59 #[.slice A n c, .slice B m d] w (PParts w (val xs) (val ys)) := by
  obtain ⟨i0, hi, hz0, hz1, hz2⟩ := info_parts info32
  have hxl := Lib.hid hx.1
  have hyl := Lib.hid hy.1
  have hyb := Lib.hid hy.2.1
  go_enter Try.func59, Try.ntmps59
  go_wp2_with fail
  refine (r_order A B n c m d xs ys _ hx hy tx ty (by omega) (by omega)).mono ?_
  rintro e w1 ⟨rfl, hb1⟩
  obtain ⟨cv, hcv, hcd⟩ : ∃ cv : Int, cv = cmpN (val xs) (val ys) ∧ ¬ cv < 0 := ⟨_, rfl, by unfold cmpN; rw [if_neg (by have := hle.out; omega)]; split <;> omega⟩
  rw [← hcv]
  clear hcv hle
  have hx1 := hx.below hb1 (Nat.le_refl _)
  have hy1 := hy.below hb1 (Nat.le_refl _)
  obtain ⟨gy, oy, t, rfl, hgy, htk', htl, hct⟩ := hy1.cell (k := m - 1) (by omega)
  have hm1 : ((m : Int) == 1) = false := by simp; omega
  have ht0 : t ≠ 0 := ty.top hyl.out (by omega) htk'
  have htk := Lib.hid htk'
  clear htk'
  go_wp2_with fail
  refine (lead32 t ht0 htl _).mono ?_
  rintro e wd ⟨s, e, f, rfl, rfl, hs, hE, hte, he2', hf2', he1, hf1, hs0'⟩
  have he2 := Lib.hid he2'
  have hf2 := Lib.hid hf2'
  clear he2' hf2' hs0'
  go_wp2_with fail
  refine (r_shifted A n c xs s e f _ hx1 (by omega) hs hE he2.out he1 hf1).mono ?_
  rintro e' w2 ⟨LX, rfl, hRX, hvX, hb2⟩
  have hl1 := hRX.lt
  have hy2 := hy1.below hb2 (Nat.le_refl _)
  have hvX := Lib.hid hvX
  go_wp2_with fail
  refine (r_shifted _ m d ys s e f _ hy2 (by omega) hs hE he2.out he1 hf1).mono ?_
  rintro e' w3 ⟨LY, rfl, hRY, hvY, hb3⟩
  have hl2 := hRY.lt
  have hRX := hRX.below hb3 hRX.lt
  have hvY := Lib.hid hvY
  have hb3 := hb2.trans (hb3.mono hb2.size)
  go_wp2_with fail
  refine (r_trim _ _ _ _ _ hRY.u32 (by omega)).mono ?_
  rintro e' w4 ⟨k, hk, rfl, hvk, htr, hb4⟩
  have hRX := hRX.below hb4 hRX.lt
  have hY := (hRY.u32.take hk).below hb4 (Nat.le_refl _)
  have hl3 := hb4.size
  have hb4 := hb3.trans (hb4.mono hb3.size)
  obtain ⟨Vl, hVl⟩ : ∃ Vl, Vl = LY.take k := ⟨_, rfl⟩
  rw [← hVl] at hvk htr hY
  have hvV : Hid (val Vl = val ys * e) := hvk.out.trans hvY.out
  have hlow : Hid (4294967296 ^ (m - 1) ≤ val ys * e) := by
    have h2 := ty.low (by intro h; subst h; have := hyl.out; simp at this; omega)
    rw [hyl.out] at h2
    exact Nat.le_trans h2 (Nat.le_mul_of_pos_right _ he1)
  have hhi : Hid (val ys * e < 4294967296 ^ m) := sh_low hyl.out htk.out (by omega) hyb.out hE.out.2 hte.out he1
  obtain rfl : k = m := by
    have h1 := len_of_lt (k := m) htr (by rw [hvV.out]; exact hhi.out)
    have h2 := val_lt Vl hY.2.1
    rw [hY.1] at h1 h2
    rw [hvV.out] at h2
    have h3 := Nat.lt_of_le_of_lt hlow.out h2
    have h4 := (Nat.pow_lt_pow_iff_right (show 1 < 4294967296 by decide)).1 h3
    omega
  clear hVl hvk hRY hy2 hy1 hx1
  go_wp2_with (at_make; refine wpList_make_full _ rfl _ _ 30 rfl w4.heap.size 85 i0 (.int .u32 0) 1 Try.underlying30 hi hz0 hz1 .i64 .i64 _ _ (n - k + 1) rfl rfl ?c1 ?c1' ?c2 ?c3 ?c4 ?_; rotate_left 5; intro w5 hown hg1)
  case c1 => omega
  case c1' => omega
  case c2 => rw [hz2]; omega
  case c3 => simp [maxLen]; omega
  case c4 => exact Nat.le_refl _
  have hRO := Rw.new hown
  have hRX := hRX.grown hg1
  have hb5 : Below w1.heap.size w1 w5 := hb4.grown hg1 hb4.size (by intro k hk; cases hk)
  have hY := hY.below ((Below.refl _ _).grown hg1 (Nat.le_refl _) (by intro k hk; cases hk)) (Nat.le_refl _)
  have hl5 := hRO.lt
  obtain ⟨gX, hgX⟩ : ∃ gX, gX = w1.heap.size := ⟨_, rfl⟩
  obtain ⟨gY, hgY⟩ : ∃ gY, gY = w2.heap.size := ⟨_, rfl⟩
  obtain ⟨gO, hgO⟩ : ∃ gO, gO = w4.heap.size := ⟨_, rfl⟩
  rw [← hgX] at hl1 hRX hb5
  rw [← hgY] at hl1 hl2 hY
  rw [← hgO] at hl3 hRO hl5
  rw [← hgX, ← hgY, ← hgO]
  have hgXh := Lib.hid hgX
  clear hgX
  have hlt1 : gX < gY := hl1
  have hlt2 : gY < gO := by omega
  have hne1 : gX ≠ gY := by omega
  have hne2 : gX ≠ gO := by omega
  have hne3 : gY ≠ gO := by omega
  have hne4 : gY ≠ gX := by omega
  have hne5 : gO ≠ gX := by omega
  have hne6 : gO ≠ gY := by omega
  obtain ⟨ga, oa, v1, hA1, -, hv1', hv1b, hc1⟩ := hY.cell (k := k - 1) (by omega)
  obtain ⟨rfl, rfl⟩ : gY = ga ∧ 0 = oa := by simpa using hA1
  obtain ⟨gb, ob, v2, hA2, -, hv2', hv2b, hc2⟩ := hY.cell (k := k - 2) (by omega)
  obtain ⟨rfl, rfl⟩ : gY = gb ∧ 0 = ob := by simpa using hA2
  rw [Nat.zero_add] at hc1 hc2
  have hv1 := Lib.hid hv1'
  have hv2 := Lib.hid hv2'
  have hQ0 : Hid (QS (val xs * e) (val ys * e) (n - k + 1) LX (List.replicate (n - k + 1) 0)) := QS.start hvX.out hx.2.1 hxl.out hyl.out ty (by omega) hmn he1
  clear hgY hgO hown hg1 hA1 hA2 hv1' hv2' hl3 hb4 hb3
  go_quiet (fail)
  go_wp2_with fail
  clear hc1 hc2
  obtain ⟨w6, hw6⟩ : ∃ w6, w6 = w5.drewN nq := ⟨_, rfl⟩
  have hRX6 : Rw w6 gX (n + 1) LX := by rw [hw6]; exact hRX.drewN _
  have hRO6 : Rw w6 gO (n - k + 1) (List.replicate (n - k + 1) 0) := by rw [hw6]; exact hRO.drewN _
  have hY6 : U32 w6 (some ⟨gY, 0, none⟩) k (k + 1) Vl := by rw [hw6]; exact hY.drewN _
  have hb6 : Below gX w1 w6 := by rw [hw6]; exact bdN hb5 _
  rw [← hw6]
  clear hw6 hRX hRO hY hb5
  go_loopw [16] (fun v16 wr => ∃ (j : Nat) (z : Int) (U O : List Nat), j ≤ n - k + 1 ∧ z = (j : Int) - 1 ∧ v16 = .int .i64 z ∧ Rw wr gX (n + 1) U ∧ U32 wr (some ⟨gY, 0, none⟩) k (k + 1) Vl ∧ Rw wr gO (n - k + 1) O ∧ Hid (QS (val xs * e) (val ys * e) j U O) ∧ Below gX w1 wr) (fun i _ => (intOf i + 1).toNat)
  case atStart => exact ⟨n - k + 1, (n : Int) - k, LX, _, by omega, by omega, by first | rfl | (congr 1; omega), hRX6, hY6, hRO6, hQ0, hb6⟩
  case round =>
    clear hRX6 hY6 hRO6 hQ0 hb6
    obtain ⟨j, z, U, O, hjm, hz, rfl, hRX, hY, hRO, hQ, hb⟩ := hrel
    rcases Nat.eq_zero_or_pos j with h0 | h0
    · subst h0
      obtain rfl : z = -1 := by omega
      clear hjm hz
      have hXU := hRX.u32
      go_wp2_with fail
      refine (r_trim _ _ _ _ _ hXU (by omega)).mono ?_
      rintro e' w7 ⟨p, hp, rfl, hvp', htp, hb7⟩
      have hlX := hRX.lt
      have hlO := hRO.lt
      have hvp := Lib.hid hvp'.out
      have hRX7 := hRX.below hb7 hlX
      have hRO7 := hRO.below hb7 hlO
      have hb8 := hb.trans (hb7.mono (by omega))
      have hUb := Lib.hid hRX.2
      have hUl := Lib.hid hRX.len
      have hVm : Hid (val U < val ys * e) := by have := hQ.out.2.1; rwa [Nat.pow_zero, Nat.mul_one] at this
      have hpk : p ≤ k := by
        have h1 := len_of_lt (k := k) htp (by rw [hvp.out]; exact Nat.lt_trans hVm.out hhi.out)
        rw [List.length_take, hUl.out] at h1
        omega
      obtain ⟨u0, hu0, -, -⟩ := hRX.cell (k := 0) (by omega)
      have hRS0 : Hid (RS U U e 0) := RS.start U hQ.out rfl rfl hE.out hu0
      clear hvp' hRX hRO hY hb hb7 hu0 hXU
      go_wp2_with fail
      go_loopw [18] (fun v18 wq => ∃ (i : Nat) (L : List Nat), i ≤ p ∧ v18 = .int .i64 i ∧ Rw wq gX (n + 1) L ∧ Rw wq gO (n - k + 1) O ∧ Hid (RS U L e i) ∧ Hid (∀ j, i ≤ j → L[j]? = U[j]?) ∧ Below gX w1 wq) (fun i _ => p - (intOf i).toNat)
      case atStart => exact ⟨0, U, by omega, rfl, hRX7, hRO7, hRS0, fun _ _ => rfl, hb8⟩
      case round =>
        clear hRX7 hRO7 hRS0 hb8
        obtain ⟨i, L, hip, rfl, hRX, hRO, hRS, hLU, hb⟩ := hrel
        by_cases hlt : i < p
        · obtain ⟨x, hx0', hxb, hcx⟩ := hRX.cell (k := i) (by omega)
          have hfr := hRX.frozen i
          have hxU : U[i]? = some x := by rw [← hLU.out i (Nat.le_refl _)]; exact hx0'
          have hRl := Lib.hid hRX.len
          have hxe : (x : Int) / (2 : Int) ^ s = ((x / e : Nat) : Int) := by rw [he2.out]; rfl
          have hxeb : x / e < 4294967296 := Nat.lt_of_le_of_lt (Nat.div_le_self _ _) hxb
          obtain ⟨y, hyU, hyb, hcy⟩ : ∃ y, U[i + 1]? = some y ∧ y < 4294967296 ∧ wr.cell? ⟨gX, i + 1, none⟩ = some (.int .u32 (y : Int)) := by
            obtain ⟨y, h1, h2, h3⟩ := hRX.cell (k := i + 1) (by omega)
            exact ⟨y, by rw [← hLU.out (i + 1) (by omega)]; exact h1, h2, h3⟩
          have hst : RS U (L.set i (x / e + (y * f) % 4294967296)) e (i + 1) := hRS.out.step hE.out hxU hyU (by rw [hRl.out]; omega)
          have hor := or_sh2 (y := y) hE.out (by omega) hf1 he1 hxb
          have hy0 : p ≤ i + 1 → y = 0 := fun h => val_small (k := p) (by rw [← hvp.out]; exact val_take_lt hUb.out) h hyU
          have hy0 := Lib.hid hy0
          have hLU2 : Hid (∀ t j, i + 1 ≤ j → (L.set i t)[j]? = U[j]?) := fun t j hj => by rw [List.getElem?_set_ne (by omega)]; exact hLU.out j (by omega)
          have hYFb : y * f ≤ 4294967295 * 4294967296 := Nat.mul_le_mul (by omega) (by have h := hE.out.2; have := Nat.mul_le_mul_right f he1; omega)
          have hYF : (y : Int) * (2 : Int) ^ (32 - s) = ((y * f : Nat) : Int) := by rw [hf2.out, Int.natCast_mul]
          obtain ⟨YF, hYF'⟩ : ∃ YF, YF = y * f := ⟨_, rfl⟩
          rw [← hYF'] at hst hor hYFb hYF
          have hyf : (YF : Int) % 4294967296 = ((YF % 4294967296 : Nat) : Int) := by omega
          obtain ⟨xe, hxe'⟩ : ∃ xe, xe = x / e := ⟨_, rfl⟩
          obtain ⟨yf, hyf'⟩ : ∃ yf, yf = YF % 4294967296 := ⟨_, rfl⟩
          rw [← hxe', ← hyf'] at hor hst
          rw [← hxe'] at hxe hxeb
          rw [← hyf'] at hyf
          obtain ⟨tz, htz'⟩ : ∃ tz, tz = xe + yf := ⟨_, rfl⟩
          rw [← htz'] at hor hst
          obtain ⟨hor, htzb⟩ := hor
          have hst := Lib.hid hst
          have htz := Lib.hid htz'
          have hyfh := Lib.hid hyf'
          have hYFh := Lib.hid hYF'
          have hs4 : IntKind.u64.wrap (32 - (s : Int)) = 32 - (s : Int) := by rw [IntKind.wrap_u64]; omega
          have hj1 : ¬ ((i : Int) + 1 < 0) := by omega
          have hj4 : IntKind.i64.wrap ((i : Int) + 1) = (i : Int) + 1 := by rw [IntKind.wrap_i64]; omega
          have hyw : IntKind.u64.wrap (y : Int) = (y : Int) := by rw [IntKind.wrap_u64]; omega
          have hYFw : IntKind.u64.wrap (YF : Int) = (YF : Int) := by rw [IntKind.wrap_u64]; omega
          have hyf2 : IntKind.u32.wrap (YF : Int) = (yf : Int) := by rw [IntKind.wrap_u32]; omega
          have hRX2 := hRX.set i xe hxeb rfl
          have hRO2 := hRO.gb (gbs (gbr wr (some gX)) i (.int .u32 (xe : Int))) hne5
          have hb2 := hb.setCell (p := ⟨gX, i, none⟩) (Nat.le_refl _) (.int .u32 (xe : Int))
          clear hx0' hxU hyU hxe' htz' hyf' hYF'
          by_cases hlt2 : i + 1 < p
          · have hj2 : (i : Int) + 1 < (p : Int) := by omega
            obtain ⟨wa, hwa⟩ : ∃ wa, wa = wr.setCell ⟨gX, i, none⟩ (.int .u32 (xe : Int)) := ⟨_, rfl⟩
            have hcv : wa.cell? ⟨gX, i, none⟩ = some (.int .u32 (xe : Int)) := by
              obtain ⟨q, hq1, hq2, hq3⟩ := hRX2.cell (k := i) (by omega)
              rw [List.getElem?_set_self (by rw [hRl.out]; omega)] at hq1
              injection hq1 with hq1
              rw [hwa, hq3, hq1]
            have hcp2 : wa.cell? ⟨gX, i + 1, none⟩ = some (.int .u32 (y : Int)) := by
              rw [hwa, World.cell?_setCell_other _ _ _ _ (by simp)]
              exact hcy
            go_upto_region 27 with (fail)
            rw [← hwa] at hRX2 hRO2 hb2 ⊢
            clear hwa hcx hcy hfr
            have hfr := hRX2.frozen i
            have hS : (fun w' => w'.cell? ⟨gX, i, none⟩ = some (.int .u32 (xe : Int)) ∧ w'.cell? ⟨gX, i + 1, none⟩ = some (.int .u32 (y : Int))) wa.drew := ⟨hcv, hcp2⟩
            refine wp_region_K (S := (fun w' => w'.cell? ⟨gX, i, none⟩ = some (.int .u32 (xe : Int)) ∧ w'.cell? ⟨gX, i + 1, none⟩ = some (.int .u32 (y : Int)))) (K := [16]) (by kernel_rfl) ?_
            refine AnyK.take (i := 0) (v := .slice (some ⟨gX, 0, none⟩) p (n + 1)) rfl (by kernel_rfl) (by kernel_rfl) (by kernel_rfl) (by kernel_rfl) (by kernel_rfl) (by kernel_rfl) (fun _ _ _ h => h) (Or.inl ⟨by rfl, ?_⟩) hS ?_
            · rintro w' ⟨a0, a1⟩
              go_simp
            (try simp only [Act.put, List.setIfInBounds_toArray, List.set_cons_zero, List.set_cons_succ])
            refine AnyK.take (i := 1) (v := .int .i64 (i : Int)) rfl (by kernel_rfl) (by kernel_rfl) (by kernel_rfl) (by kernel_rfl) (by kernel_rfl) (by kernel_rfl) (fun _ _ _ h => h) (Or.inl ⟨by rfl, ?_⟩) hS ?_
            · rintro w' ⟨a0, a1⟩
              go_simp
            (try simp only [Act.put, List.setIfInBounds_toArray, List.set_cons_zero, List.set_cons_succ])
            refine AnyK.take (i := 2) (v := .pointer (some ⟨gX, i, none⟩)) rfl (by kernel_rfl) (by kernel_rfl) (by kernel_rfl) (by kernel_rfl) (by kernel_rfl) (by kernel_rfl) (fun _ _ _ h => h) (Or.inl ⟨by rfl, ?_⟩) hS ?_
            · rintro w' ⟨a0, a1⟩
              go_simp
            (try simp only [Act.put, List.setIfInBounds_toArray, List.set_cons_zero, List.set_cons_succ])
            refine AnyK.take (i := 3) (v := .int .u32 (xe : Int)) rfl (by kernel_rfl) (by kernel_rfl) (by kernel_rfl) (by kernel_rfl) (by kernel_rfl) (by kernel_rfl) (fun _ _ _ h => h) (Or.inl ⟨by rfl, ?_⟩) hS ?_
            · rintro w' ⟨a0, a1⟩
              go_simp
            (try simp only [Act.put, List.setIfInBounds_toArray, List.set_cons_zero, List.set_cons_succ])
            refine AnyK.take (i := 4) (v := .slice (some ⟨gX, 0, none⟩) p (n + 1)) rfl (by kernel_rfl) (by kernel_rfl) (by kernel_rfl) (by kernel_rfl) (by kernel_rfl) (by kernel_rfl) (fun _ _ _ h => h) (Or.inl ⟨by rfl, ?_⟩) hS ?_
            · rintro w' ⟨a0, a1⟩
              go_simp
            (try simp only [Act.put, List.setIfInBounds_toArray, List.set_cons_zero, List.set_cons_succ])
            refine AnyK.take (i := 5) (v := .int .i64 (i : Int)) rfl (by kernel_rfl) (by kernel_rfl) (by kernel_rfl) (by kernel_rfl) (by kernel_rfl) (by kernel_rfl) (fun _ _ _ h => h) (Or.inl ⟨by rfl, ?_⟩) hS ?_
            · rintro w' ⟨a0, a1⟩
              go_simp
            (try simp only [Act.put, List.setIfInBounds_toArray, List.set_cons_zero, List.set_cons_succ])
            refine AnyK.take (i := 6) (v := .int .i64 ((i : Int) + 1)) rfl (by kernel_rfl) (by kernel_rfl) (by kernel_rfl) (by kernel_rfl) (by kernel_rfl) (by kernel_rfl) (fun _ _ _ h => h) (Or.inl ⟨by rfl, ?_⟩) hS ?_
            · rintro w' ⟨a0, a1⟩
              go_simp
            (try simp only [Act.put, List.setIfInBounds_toArray, List.set_cons_zero, List.set_cons_succ])
            refine AnyK.take (i := 7) (v := .pointer (some ⟨gX, i + 1, none⟩)) rfl (by kernel_rfl) (by kernel_rfl) (by kernel_rfl) (by kernel_rfl) (by kernel_rfl) (by kernel_rfl) (fun _ _ _ h => h) (Or.inl ⟨by rfl, ?_⟩) hS ?_
            · rintro w' ⟨a0, a1⟩
              go_simp
            (try simp only [Act.put, List.setIfInBounds_toArray, List.set_cons_zero, List.set_cons_succ])
            refine AnyK.take (i := 8) (v := .int .u32 (y : Int)) rfl (by kernel_rfl) (by kernel_rfl) (by kernel_rfl) (by kernel_rfl) (by kernel_rfl) (by kernel_rfl) (fun _ _ _ h => h) (Or.inl ⟨by rfl, ?_⟩) hS ?_
            · rintro w' ⟨a0, a1⟩
              go_simp
            (try simp only [Act.put, List.setIfInBounds_toArray, List.set_cons_zero, List.set_cons_succ])
            refine AnyK.take (i := 9) (v := .int .u64 (y : Int)) rfl (by kernel_rfl) (by kernel_rfl) (by kernel_rfl) (by kernel_rfl) (by kernel_rfl) (by kernel_rfl) (fun _ _ _ h => h) (Or.inl ⟨by rfl, ?_⟩) hS ?_
            · rintro w' ⟨a0, a1⟩
              go_simp
            (try simp only [Act.put, List.setIfInBounds_toArray, List.set_cons_zero, List.set_cons_succ])
            refine AnyK.take (i := 10) (v := .int .u64 (s : Int)) rfl (by kernel_rfl) (by kernel_rfl) (by kernel_rfl) (by kernel_rfl) (by kernel_rfl) (by kernel_rfl) (fun _ _ _ h => h) (Or.inl ⟨by rfl, ?_⟩) hS ?_
            · rintro w' ⟨a0, a1⟩
              go_simp
            (try simp only [Act.put, List.setIfInBounds_toArray, List.set_cons_zero, List.set_cons_succ])
            refine AnyK.take (i := 11) (v := .int .u64 (32 - (s : Int))) rfl (by kernel_rfl) (by kernel_rfl) (by kernel_rfl) (by kernel_rfl) (by kernel_rfl) (by kernel_rfl) (fun _ _ _ h => h) (Or.inl ⟨by rfl, ?_⟩) hS ?_
            · rintro w' ⟨a0, a1⟩
              go_simp
            (try simp only [Act.put, List.setIfInBounds_toArray, List.set_cons_zero, List.set_cons_succ])
            refine AnyK.take (i := 12) (v := .int .u64 (YF : Int)) rfl (by kernel_rfl) (by kernel_rfl) (by kernel_rfl) (by kernel_rfl) (by kernel_rfl) (by kernel_rfl) (fun _ _ _ h => h) (Or.inl ⟨by rfl, ?_⟩) hS ?_
            · rintro w' ⟨a0, a1⟩
              go_simp
            (try simp only [Act.put, List.setIfInBounds_toArray, List.set_cons_zero, List.set_cons_succ])
            refine AnyK.take (i := 13) (v := .int .u32 (yf : Int)) rfl (by kernel_rfl) (by kernel_rfl) (by kernel_rfl) (by kernel_rfl) (by kernel_rfl) (by kernel_rfl) (fun _ _ _ h => h) (Or.inl ⟨by rfl, ?_⟩) hS ?_
            · rintro w' ⟨a0, a1⟩
              go_simp
            (try simp only [Act.put, List.setIfInBounds_toArray, List.set_cons_zero, List.set_cons_succ])
            refine AnyK.take (i := 14) (v := .int .u32 (tz : Int)) rfl (by kernel_rfl) (by kernel_rfl) (by kernel_rfl) (by kernel_rfl) (by kernel_rfl) (by kernel_rfl) (fun _ _ _ h => h) (Or.inl ⟨by rfl, ?_⟩) hS ?_
            · rintro w' ⟨a0, a1⟩
              go_simp
            (try simp only [Act.put, List.setIfInBounds_toArray, List.set_cons_zero, List.set_cons_succ])
            refine AnyK.take (i := 15) (v := .pointer (some ⟨gX, i, none⟩)) rfl (by kernel_rfl) (by kernel_rfl) (by kernel_rfl) (by kernel_rfl) (by kernel_rfl) (by kernel_rfl) (fun _ _ _ h => h) (Or.inl ⟨by rfl, ?_⟩) hS ?_
            · rintro w' ⟨a0, a1⟩
              go_simp
            (try simp only [Act.put, List.setIfInBounds_toArray, List.set_cons_zero, List.set_cons_succ])
            refine AnyK.one (i := 16) (by kernel_rfl) rfl (fun K' hK => ?_)
            go_simp
            refine hK.out _ _ (fun h => absurd h (Bool.eq_false_iff.1 (by kernel_rfl))) ?_
            clear hK
            (try simp only [Act.put, List.setIfInBounds_toArray, List.set_cons_zero, List.set_cons_succ])
            refine AnyK.done (by kernel_rfl) ?_ _
            go_wp2_with fail
            have hRX3 := hRX2.set i tz htzb rfl
            rw [List.set_set] at hRX3
            have hRO3 := hRO2.gb (gbs (gbr wa (some gX)) i (.int .u32 (tz : Int))) hne5
            go_roundw
            case rel => exact ⟨i + 1, L.set i tz, by omega, by go_num, hRX3, hRO3, hst, hLU2.out tz, (hb2.setCell (p := ⟨gX, i, none⟩) (Nat.le_refl _) _).drew⟩
            case measure => simp [intOf] <;> omega
          · have hj2 : ¬ ((i : Int) + 1 < (p : Int)) := by omega
            have htx : tz = xe := by
              have h1 := hy0.out (by omega)
              have h2 := hYFh.out
              have h3 := hyfh.out
              have h4 := htz.out
              rw [h1, Nat.zero_mul] at h2
              omega
            rw [htx] at hst
            clear htx htzb hor
            go_wp2_with fail
            go_roundw
            case rel => exact ⟨i + 1, L.set i xe, by omega, by go_num, hRX2, hRO2, hst, hLU2.out xe, hb2⟩
            case measure => simp [intOf] <;> omega
        · have : i = p := by omega
          subst this
          have hfin : Hid (val O = val xs / val ys ∧ val (L.take i) = val xs % val ys) := by
            obtain ⟨x, hxU, hR⟩ := hRS.out
            have hx0 : x = 0 := val_small (k := i) (by rw [← hvp.out]; exact val_take_lt hUb.out) (Nat.le_refl _) hxU
            rw [hx0, Nat.zero_mod, Nat.mul_zero, Nat.add_zero, hvp.out] at hR
            exact fin_alg (by rw [hR]; exact hQ.out.1) (by rw [hR]; exact hVm.out) he1
          have hOU := hRO.u32
          have hLUU := hRX.u32.take (k := i) (by omega)
          clear hRS hLU
          go_wp2_with fail
          refine (r_trim _ _ _ _ _ hOU (by omega)).mono ?_
          rintro e' w8 ⟨k1, hk1, rfl, hv1', ht1, hb9⟩
          have hO8 := (hOU.take hk1).below hb9 (Nat.le_refl _)
          have hL8 := hLUU.below hb9 (Nat.le_refl _)
          have hb10 := hb.trans (hb9.mono (by have := hRX.lt; omega))
          have hv1h := Lib.hid hv1'.out
          clear hv1'
          go_wp2_with fail
          refine (r_trim _ _ _ _ _ hL8 (by omega)).mono ?_
          rintro e' w9 ⟨k2, hk2, rfl, hv2', ht2, hb11⟩
          have hO9 := hO8.below hb11 (Nat.le_refl _)
          have hL9 := (hL8.take hk2).below hb11 (Nat.le_refl _)
          have hb12 := hb10.trans (hb11.mono (by have := hRX.lt; have := hb9.size; omega))
          have hv2h := Lib.hid hv2'.out
          clear hv2'
          go_wp2_with fail
          go_ret2
          exact ⟨_, k1, _, _, _, k2, _, _, rfl, hO9, ht1, hv1h.out.trans hfin.out.1, hL9, ht2, hv2h.out.trans hfin.out.2, hb1.trans (hb12.mono (by have := hgXh.out; have := hb1.size; omega))⟩
    · obtain ⟨i, rfl⟩ : ∃ i, j = i + 1 := ⟨j - 1, by omega⟩
      obtain rfl : z = (i : Int) := by omega
      clear hz h0
      obtain ⟨o, ho, hob, hco⟩ := hRO.cell (k := i) (by omega)
      have hfo := hRO.frozen i
      go_wp2_with fail
      rw [show i + k + 1 - i = k + 1 by omega]
      refine (r_word gX (n + 1) i (n + 1 - i) gY 0 k (k + 1) v1 v2 (val xs * e) (val ys * e) U Vl O _ hRX (by omega) (by omega) hY (by have := hRO.lt; omega) hne4 hm hvV hlow hv1 hv2 hQ (by show _ < _; rw [hRO.len]; omega)).mono ?_
      rintro e' w7 ⟨q, L, rfl, hqb, hRX7, hQ7, hg7⟩
      have hRO7 := hRO.gb hg7.out hne5
      have hY7 := hY.gb hg7.out hne4
      have hb7 : Below gX w1 w7 := hb.trans (gblt hg7.out (Nat.le_refl _) (by have := hRX.lt; omega))
      obtain ⟨o7, ho7, hob7, hco7⟩ := hRO7.cell (k := i) (by omega)
      have hfo7 := hRO7.frozen i
      have hg7h := hg7
      clear hRX hRO hY hQ hb ho hco hfo hg7 ho7
      go_wp2_with fail
      go_roundw
      case rel => exact ⟨i, (i : Int) - 1, L, O.set i q, by omega, rfl, rfl, hRX7.gb (gbs (gbr w7 (some gO)) i _) hne2, hY7.gb (gbs (gbr w7 (some gO)) i _) hne3, hRO7.set i q hqb rfl, hQ7, hb7.setCell (p := ⟨gO, i, none⟩) (by show gX ≤ gO; omega) _⟩
      case measure => simp [intOf] <;> omega

end Go.Proofs.Ytgoojlnfobjplaa
