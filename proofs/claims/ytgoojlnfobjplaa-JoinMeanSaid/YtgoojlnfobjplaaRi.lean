/- One word of a quotient, in the reference. -/
import Derived.Test.YtgoojlnfobjplaaRa
import Derived.Test.YtgoojlnfobjplaaZk8
import Derived.Test.YtgoojlnfobjplaaZk3
import Derived.Test.YtgoojlnfobjplaaZk6
namespace Go.Proofs.Ytgoojlnfobjplaa
open Go.RowKit
set_option linter.unusedSimpArgs false
set_option linter.unusedVariables false
attribute [local go_sem] qn30 qe30

theorem gbs {a w : World} {g : Nat} (h : a.grownBy w (some g)) (i : Nat) (u : Value) : a.grownBy (w.setCell ⟨g, i, none⟩ u) (some g) :=
  ⟨h.os, h.tape, h.output, by simpa [World.setCell] using h.size, fun j hj hne => (Below.heap_setCell w ⟨g, i, none⟩ u j (by rintro rfl; exact hne rfl)).trans (h.block j hj hne)⟩
theorem gbd {a w : World} {row : Option Nat} (h : a.grownBy w row) (n : Nat) : a.grownBy (w.drewN n) row := ⟨h.os, h.tape, h.output, h.size, h.block⟩
theorem gbr (w : World) (row : Option Nat) : w.grownBy w row := ⟨rfl, rfl, rfl, Nat.le_refl _, fun _ _ _ => rfl⟩
theorem gcell {w w' : World} {g g' k : Nat} {v : Value} (h : w.grownBy w' (some g)) (hl : g' < w.heap.size) (hne : g' ≠ g) (hc : w.cell? ⟨g', k, none⟩ = some v) : w'.cell? ⟨g', k, none⟩ = some v := by
  rw [← hc]
  unfold World.cell?
  rw [h.block g' hl (fun e => hne (by injection e))]

/-- the product is being taken away, with the word above it -/
def MSX (U L : List Nat) (j q : Nat) (Vl : List Nat) (m i bw cy V : Nat) : Prop :=
  (i ≤ m ∧ cy < 4294967296 ∧ MS U L j q Vl i bw cy) ∨ (i = m + 1 ∧ cy = 0 ∧ val L + 4294967296 ^ j * (q * V) = val U + 4294967296 ^ (j + m + 1) * bw ∧ L.length = U.length ∧ ∀ k, j + m + 1 ≤ k → L[k]? = U[k]?)

/-- the divisor is being given back, with the word above it -/
def ABX (L M : List Nat) (j : Nat) (Vl : List Nat) (m i c : Nat) (X V : Nat) (O : List Nat) : Prop :=
  (i ≤ m ∧ c ≤ 1 ∧ AB L M j Vl i c) ∨ (i = m + 1 ∧ c ≤ 1 ∧ QS X V j M O)

/-- a word of the quotient comes out, the row is what is left -/
def PWord (w : World) (g N j X V : Nat) (O : List Nat) (e : Ending) (w' : World) : Prop :=
  ∃ (q : Nat) (L : List Nat), e = .returned (.int .u32 (q : Int)) ∧ q < 4294967296 ∧ Rw w' g N L ∧ Hid (QS X V j L (O.set j q)) ∧ Hid (w.grownBy w' (some g))

set_option maxRecDepth 100000 in
set_option maxHeartbeats 8000000 in
theorem r_word (g N j c gy oy m d v1 v2 X V : Nat) (U Vl O : List Nat) (w : World) (hR : Rw w g N U) (hjm : j + m < N) (hN : N ≤ 400000) (hV : U32 w (some ⟨gy, oy, none⟩) m d Vl) (hgy : gy < w.heap.size) (hne : gy ≠ g) (h2 : 2 ≤ m) (hval : Hid (val Vl = V)) (hlow : Hid (4294967296 ^ (m - 1) ≤ V))
    (hv1 : Hid (Vl[m - 1]? = some v1)) (hv2 : Hid (Vl[m - 2]? = some v2)) (hQ : Hid (QS X V (j + 1) U O)) (hjO : Hid (j < O.length)) :
    Calls Try.prog 78 #[.slice (some ⟨g, j, none⟩) (m + 1) c, .slice (some ⟨gy, oy, none⟩) m d, .int .u64 v1, .int .u64 v2] w (PWord w g N j X V O) := by
  have hv1b : v1 < 4294967296 := hV.2.1 _ (List.mem_of_getElem? hv1.out)
  have hv2b : v2 < 4294967296 := hV.2.1 _ (List.mem_of_getElem? hv2.out)
  have hVlen := Lib.hid hV.1
  have hVb := Lib.hid hV.2.1
  obtain ⟨u0, hu0, hu0b, hc0⟩ := hR.cell (k := j + m) (by omega)
  obtain ⟨u1, hu1, hu1b, hc1⟩ := hR.cell (k := j + (m - 1)) (by omega)
  obtain ⟨u2, hu2, hu2b, hc2⟩ := hR.cell (k := j + (m - 2)) (by omega)
  have hW : Hid (VW V (val (U.drop j)) (u0 * 4294967296 + u1) u2 v1 v2) := hQ.out.view hR.2 hV.2.1 hV.1 hval.out h2 hlow.out hu0 (by rw [show j + m - 1 = j + (m - 1) by omega]; exact hu1) (by rw [show j + m - 2 = j + (m - 2) by omega]; exact hu2) hv1.out hv2.out
  have hv1p : 0 < v1 := by obtain ⟨W, U3, V3, -, -, -, -, -, -, h, -, -⟩ := hW.out; exact h
  have hu2h := Lib.hid hu2
  clear hu0 hu1 hu2
  obtain ⟨hor1, hor2⟩ := or_shl hu0b hu1b
  obtain ⟨tp, htp⟩ : ∃ tp, tp = u0 * 4294967296 + u1 := ⟨_, rfl⟩
  rw [← htp] at hor1 hor2 hW
  have hdv := tdivN tp v1
  have htpb : tp < 18446744073709551616 := by omega
  have hvne : ((v1 : Int) == 0) = false := by simp; omega
  obtain ⟨q0, hq0'⟩ : ∃ q0, q0 = tp / v1 := ⟨_, rfl⟩
  rw [← hq0'] at hdv
  have hq0 := Lib.hid hq0'
  have hq0b : q0 < 18446744073709551616 := by rw [hq0']; exact Nat.lt_of_le_of_lt (Nat.div_le_self _ _) htpb
  clear htp hq0'
  have hg0 := Lib.hid (gbr w (some g))
  go_enter Try.func78, Try.ntmps78
  go_wp2_with fail
  go_quiet (fail)
  obtain ⟨wq, hwq⟩ : ∃ wq, wq = w.drewN nq := ⟨_, rfl⟩
  have hRq : Rw wq g N U := by rw [hwq]; exact hR.drewN _
  have hgq : Hid (w.grownBy wq (some g)) := by rw [hwq]; exact gbd hg0.out _
  rw [← hwq]
  clear hwq hc0 hc1 hc2 hor1 hor2 hg0
  go_upto_region 3 with (fail)
  go_cut [11] from 33 to 36 (fun v11 wc => wc = wq ∧ ∃ q : Nat, v11 = .int .u64 q ∧ q < 4294967296 ∧ q * v1 ≤ tp ∧ Hid (Qh V (val (U.drop j)) tp v1 q (tp - q * v1)))
  case first =>
    have hini := hW.out.init
    rw [← hq0.out] at hini
    have hini := Lib.hid hini
    by_cases hc : q0 ≤ 4294967295
    · have hc' : ¬ (4294967295 : Int) < (q0 : Int) := by omega
      have hc2 : (q0 : Int) ≤ 4294967295 := by omega
      go_wp2_with fail
      go_meet
      have h1 := hini.out.1
      exact ⟨rfl, q0, congrArg _ (by omega), by omega, by omega, by obtain ⟨a1, a2⟩ := hini.out; exact ⟨by omega, a2⟩⟩
    · have hc' : (4294967295 : Int) < (q0 : Int) := by omega
      have hc2 : ¬ (q0 : Int) ≤ 4294967295 := by omega
      go_wp2_with fail
      go_meet
      have h1 := hini.out.1
      have h3 : 4294967295 * v1 ≤ q0 * v1 := Nat.mul_le_mul_right _ (by omega)
      exact ⟨rfl, 4294967295, congrArg _ (by omega), by omega, by omega, by
        refine ⟨by omega, ?_⟩
        obtain ⟨W, U3, V3, -, -, -, -, -, hlt, -, -, -⟩ := hW.out
        have := Nat.div_lt_of_lt_mul hlt
        omega⟩
  case rest =>
    obtain ⟨rfl, q, rfl, hqb, hqt, hQ1⟩ := hcut
    have hqm : (q : Int) * (v1 : Int) = ((q * v1 : Nat) : Int) := by rw [Int.natCast_mul]
    obtain ⟨qv, hqv'⟩ : ∃ qv, qv = q * v1 := ⟨_, rfl⟩
    rw [← hqv'] at hqm hqt hQ1
    have hqvb : qv < 18446744073709551616 := by omega
    obtain ⟨r, hr⟩ : ∃ r, r = tp - qv := ⟨_, rfl⟩
    have hsub : (tp : Int) - (qv : Int) = (r : Int) := by omega
    have hrb : r < 18446744073709551616 := by omega
    rw [← hr] at hQ1
    clear hqv' hr hdv hvne
    go_upto_block 0 with fail
    go_cut [11] from 42 to 63 (fun v11 wq => ∃ q : Nat, v11 = .int .u64 q ∧ Hid (GQ V (val (U.drop j)) q) ∧ Rw wq g N U ∧ Hid (w.grownBy wq (some g)))
    case first =>
      go_wp2_with fail
      go_loopw [11, 12] (fun v11 v12 wq => ∃ q r : Nat, v11 = .int .u64 q ∧ v12 = .int .u64 r ∧ q < 4294967296 ∧ r < 18446744073709551616 ∧ Hid (Qh V (val (U.drop j)) tp v1 q r) ∧ Rw wq g N U ∧ Hid (w.grownBy wq (some g))) (fun i _ _ => (intOf i).toNat)
      case atStart => exact ⟨q, r, rfl, rfl, hqb, hrb, hQ1, hRq, hgq⟩
      case round =>
        clear hRq hgq hQ1 hqb hrb hqm hqt hqvb hsub
        obtain ⟨q, r, rfl, rfl, hqb, hrb, hQ1, hRq, hgq⟩ := hrel
        obtain ⟨u2', hu2', -, hc2⟩ := hRq.cell (k := j + (m - 2)) (by omega)
        obtain rfl : u2 = u2' := by have h := hu2h.out; rw [hu2'] at h; injection h with h; exact h.symm
        clear hu2'
        by_cases hrB : 4294967296 ≤ r
        · have hg : decide ((r : Int) < 4294967296) = false := by simp; omega
          have hrB' := Lib.hid hrB
          clear hrB
          go_wp2_with fail
          go_meet
          exact ⟨q, rfl, hW.out.brk hQ1.out hrB'.out, hRq, hgq⟩
        · have hg : decide ((r : Int) < 4294967296) = true := by simp; omega
          have hrb2 : r < 4294967296 := by omega
          clear hrB hrb
          obtain ⟨hor3, hor4⟩ := or_shl hrb2 hu2b
          have hqvb : q * v2 < 18446744073709551616 := by
            have h := Nat.mul_le_mul (show q ≤ 4294967295 by omega) (show v2 ≤ 4294967295 by omega)
            omega
          have hqv : (q : Int) * (v2 : Int) = ((q * v2 : Nat) : Int) := by rw [Int.natCast_mul]
          obtain ⟨rl, hrl'⟩ : ∃ rl, rl = r * 4294967296 + u2 := ⟨_, rfl⟩
          obtain ⟨qv, hqv'⟩ : ∃ qv, qv = q * v2 := ⟨_, rfl⟩
          rw [← hrl'] at hor3 hor4
          rw [← hqv'] at hqv hqvb
          have hrl := Lib.hid hrl'
          have hqvh := Lib.hid hqv'
          clear hrl' hqv'
          by_cases hc : rl < qv
          · have hci : (rl : Int) < (qv : Int) := by omega
            have hc' := Lib.hid hc
            have hq0 : 0 < q := by
              rcases Nat.eq_zero_or_pos q with h0 | h0
              · have h1 := hqvh.out
                rw [h0, Nat.zero_mul] at h1
                omega
              · exact h0
            clear hc
            obtain ⟨p, hqp⟩ : ∃ p, q = p + 1 := ⟨q - 1, by omega⟩
            have hQ2 : Hid (Qh V (val (U.drop j)) tp v1 p (r + v1)) := by have h := hW.out.dec2 hQ1.out (by have h1 := hrl.out; have h2 := hqvh.out; have h3 := hc'.out; omega); rwa [hqp, Nat.add_sub_cancel] at h
            have hqm : (q : Int) - 1 = (p : Int) := by omega
            have hpb : p < 18446744073709551616 := by omega
            have hqph := Lib.hid hqp
            clear hQ1 hqp
            go_wp2_with fail
            go_roundw
            case rel => exact ⟨p, r + v1, rfl, by go_num, by have := hqph.out; omega, by omega, hQ2, hRq, hgq⟩
            case measure => have := hqph.out; simp [intOf] <;> omega
          · have hci : decide ((rl : Int) < (qv : Int)) = false := by simp; omega
            go_wp2_with fail
            go_meet
            exact ⟨q, rfl, hW.out.exit hQ1.out (by omega) (by have h1 := hrl.out; have h2 := hqvh.out; omega), hRq, hgq⟩
    case rest =>
      clear hRq hgq hQ1 hqb hqm hqt hqvb hsub hrb
      obtain ⟨q, rfl, hGQ, hRq, hgq⟩ := hcut
      have hqb : q < 4294967296 := hGQ.out.2.2
      have hUb := Lib.hid hR.2
      have hUl := Lib.hid hR.len
      go_wp2_with fail
      go_loopw [13, 14, 15] (fun v13 v14 v15 wq => ∃ (i bw cy : Nat) (L : List Nat), i ≤ m + 1 ∧ bw ≤ 1 ∧ v13 = .int .u64 bw ∧ v14 = .int .u64 cy ∧ v15 = .int .i64 i ∧ Rw wq g N L ∧ Hid (MSX U L j q Vl m i bw cy V) ∧ Hid (w.grownBy wq (some g))) (fun _ _ i _ => m + 1 - (intOf i).toNat)
      case atStart => exact ⟨0, 0, 0, U, by omega, by omega, rfl, rfl, rfl, hRq, .inl ⟨by omega, by omega, MS.start _ _ _ _⟩, hgq⟩
      case round =>
        clear hRq hgq
        obtain ⟨i, bw, cy, L, him, hbw, rfl, rfl, rfl, hRq, hMX, hgq⟩ := hrel
        by_cases hlt : i < m
        · have hle : (i : Int) ≤ (m : Int) := by omega
          obtain ⟨hcy, hMS'⟩ : cy < 4294967296 ∧ MS U L j q Vl i bw cy := by
            rcases hMX.out with ⟨-, h1, h2⟩ | ⟨h1, -⟩
            · exact ⟨h1, h2⟩
            · omega
          have hMS := Lib.hid hMS'
          clear hMX hMS'
          obtain ⟨u, hu, hub, hcu⟩ := hRq.cell (k := j + i) (by omega)
          obtain ⟨gy', oy', v, hA', -, hv, hvb, hcv'⟩ := hV.cell hlt
          obtain ⟨rfl, rfl⟩ : gy = gy' ∧ oy = oy' := by simpa using hA'
          have hcv := gcell hgq.out hgy hne hcv'
          have hfr := hRq.frozen (j + i)
          have hqvb : q * v ≤ 18446744065119617025 := Nat.mul_le_mul (show q ≤ 4294967295 by omega) (show v ≤ 4294967295 by omega)
          have hqv : (q : Int) * (v : Int) = ((q * v : Nat) : Int) := by rw [Int.natCast_mul]
          have hst : ∀ t bw', t + bw + (q * v + cy) % 4294967296 = u + 4294967296 * bw' → MS U (L.set (j + i) t) j q Vl (i + 1) bw' ((q * v + cy) / 4294967296) := fun t bw' ht => hMS.out.step hu hv ht
          obtain ⟨qv, hqv'⟩ : ∃ qv, qv = q * v := ⟨_, rfl⟩
          rw [← hqv'] at hqv hqvb hst
          obtain ⟨pp, hpp'⟩ : ∃ pp, pp = qv + cy := ⟨_, rfl⟩
          obtain ⟨pm, hpm'⟩ : ∃ pm, pm = pp % 4294967296 := ⟨_, rfl⟩
          obtain ⟨pd, hpd'⟩ : ∃ pd, pd = pp / 4294967296 := ⟨_, rfl⟩
          rw [← hpp', ← hpm', ← hpd'] at hst
          have hpp : (cy : Int) + (qv : Int) = (pp : Int) := by omega
          have hppb : pp < 18446744073709551616 := by omega
          have hpm : (pp : Int) % 4294967296 = (pm : Int) := by omega
          have hpd : (pp : Int) / 4294967296 = (pd : Int) := by omega
          have hpmb : pm < 4294967296 := by omega
          have hpdb : pd < 4294967296 := by omega
          have hst := Lib.hid hst
          clear hpp' hpm' hpd' hqv' hu hv hMS hA' hcv'
          by_cases hd : u < bw + pm
          · have hdi : (u : Int) - (pm : Int) - (bw : Int) < 0 := by omega
            go_wp2_with fail
            go_roundw
            case rel => exact ⟨i + 1, 1, pd, L.set (j + i) (u + 4294967296 - bw - pm), by omega, by omega, congrArg _ (by first | omega | (simp only [IntKind.wrap_u64]; omega)), rfl, by go_num, hRq.set (j + i) _ (by omega) (by first | omega | (simp only [IntKind.wrap_u64]; omega)), .inl ⟨by omega, hpdb, hst.out _ _ (by omega)⟩, gbs hgq.out _ _⟩
            case measure => simp [intOf] <;> omega
          · have hdi : ¬ (u : Int) - (pm : Int) - (bw : Int) < 0 := by omega
            go_wp2_with fail
            go_roundw
            case rel => exact ⟨i + 1, 0, pd, L.set (j + i) (u - bw - pm), by omega, by omega, congrArg _ (by first | omega | (simp only [IntKind.wrap_u64]; omega)), rfl, by go_num, hRq.set (j + i) _ (by omega) (by first | omega | (simp only [IntKind.wrap_u64]; omega)), .inl ⟨by omega, hpdb, hst.out _ _ (by omega)⟩, gbs hgq.out _ _⟩
            case measure => simp [intOf] <;> omega
        · by_cases hle : i ≤ m
          · have : i = m := by omega
            subst this
            have hle2 : (i : Int) ≤ (i : Int) := by omega
            obtain ⟨hcy, hMS'⟩ : cy < 4294967296 ∧ MS U L j q Vl i bw cy := by
              rcases hMX.out with ⟨-, h1, h2⟩ | ⟨h1, -⟩
              · exact ⟨h1, h2⟩
              · omega
            have hMS := Lib.hid hMS'
            clear hMX hMS'
            obtain ⟨u, hu, hub, hcu⟩ := hRq.cell (k := j + i) (by omega)
            have hfr := hRq.frozen (j + i)
            have hfin : ∀ t bw', t + bw + cy = u + 4294967296 * bw' → val (L.set (j + i) t) + 4294967296 ^ j * (q * V) = val U + 4294967296 ^ (j + i + 1) * bw' := fun t bw' ht => hMS.out.fin hVlen.out hval.out hu ht
            have hfin := Lib.hid hfin
            have hhi := Lib.hid hMS.out.2.2
            have hLl := Lib.hid hMS.out.2.1
            clear hu hMS
            by_cases hd : u < bw + cy
            · have hdi : (u : Int) - (cy : Int) - (bw : Int) < 0 := by omega
              go_wp2_with fail
              go_roundw
              case rel => exact ⟨i + 1, 1, 0, L.set (j + i) (u + 4294967296 - bw - cy), by omega, by omega, congrArg _ (by first | omega | (simp only [IntKind.wrap_u64]; omega)), congrArg _ (by first | omega | (simp only [IntKind.wrap_u64]; omega)), by go_num, hRq.set (j + i) _ (by omega) (by first | omega | (simp only [IntKind.wrap_u64]; omega)), .inr ⟨rfl, rfl, hfin.out _ _ (by omega), by rw [List.length_set]; exact hLl.out, fun k hk => by rw [List.getElem?_set_ne (by omega)]; exact hhi.out k (by omega)⟩, gbs hgq.out _ _⟩
              case measure => simp [intOf] <;> omega
            · have hdi : ¬ (u : Int) - (cy : Int) - (bw : Int) < 0 := by omega
              go_wp2_with fail
              go_roundw
              case rel => exact ⟨i + 1, 0, 0, L.set (j + i) (u - bw - cy), by omega, by omega, congrArg _ (by first | omega | (simp only [IntKind.wrap_u64]; omega)), congrArg _ (by first | omega | (simp only [IntKind.wrap_u64]; omega)), by go_num, hRq.set (j + i) _ (by omega) (by first | omega | (simp only [IntKind.wrap_u64]; omega)), .inr ⟨rfl, rfl, hfin.out _ _ (by omega), by rw [List.length_set]; exact hLl.out, fun k hk => by rw [List.getElem?_set_ne (by omega)]; exact hhi.out k (by omega)⟩, gbs hgq.out _ _⟩
              case measure => simp [intOf] <;> omega
          · have : i = m + 1 := by omega
            subst this
            have hle2 : ¬ ((m : Int) + 1 ≤ (m : Int)) := by omega
            obtain ⟨hL', hLl', hhi'⟩ : val L + 4294967296 ^ j * (q * V) = val U + 4294967296 ^ (j + m + 1) * bw ∧ L.length = U.length ∧ ∀ k, j + m + 1 ≤ k → L[k]? = U[k]? := by
              rcases hMX.out with ⟨h1, -⟩ | ⟨-, -, h1⟩
              · omega
              · exact h1
            have hL := Lib.hid hL'
            have hhi := Lib.hid hhi'
            clear hMX hL' hLl' hhi'
            rcases (show bw = 0 ∨ bw = 1 by omega) with rfl | rfl
            · have hQn : Hid (QS X V j L (O.set j q)) := MS.done0 (m := m) hQ.out hGQ.out hUb.out (by rw [hUl.out]; omega) hjO.out hW.out.pos hL.out
              clear hL hhi
              go_wp2_with fail
              go_ret
              exact ⟨q, L, rfl, hqb, hRq, hQn, hgq⟩
            · have hLb : Hid (Bd L) := hRq.2
              have hq0 : 0 < q := MS.qpos (m := m) hQ.out hVb.out hLb.out (by rw [hUl.out]; omega) hval.out hVlen.out hL.out hhi.out
              obtain ⟨p, hqp⟩ : ∃ p, q = p + 1 := ⟨q - 1, by omega⟩
              have hqm : (q : Int) - 1 = (p : Int) := by omega
              have hpb : p < 4294967296 := by omega
              have hqph := Lib.hid hqp
              clear hqp
              go_wp2_with fail
              go_loopw [14, 17] (fun v14 v17 wq => ∃ (i c : Nat) (M : List Nat), i ≤ m + 1 ∧ v14 = .int .u64 c ∧ v17 = .int .i64 i ∧ Rw wq g N M ∧ Hid (ABX L M j Vl m i c X V (O.set j (q - 1))) ∧ Hid (w.grownBy wq (some g))) (fun _ i _ => m + 1 - (intOf i).toNat)
              case atStart => exact ⟨0, 0, L, by omega, rfl, rfl, hRq, .inl ⟨by omega, by omega, AB.start _ _ _⟩, hgq⟩
              case round =>
                clear hRq hgq
                obtain ⟨i, c, M, him, rfl, rfl, hRq, hAX, hgq⟩ := hrel
                by_cases hlt : i < m
                · have hle : (i : Int) ≤ (m : Int) := by omega
                  obtain ⟨hc1, hAB'⟩ : c ≤ 1 ∧ AB L M j Vl i c := by
                    rcases hAX.out with ⟨-, h1, h2⟩ | ⟨h1, -⟩
                    · exact ⟨h1, h2⟩
                    · omega
                  have hAB := Lib.hid hAB'
                  clear hAX hAB'
                  obtain ⟨y, hy, hyb, hcy'⟩ := hRq.cell (k := j + i) (by omega)
                  obtain ⟨gy', oy', v, hA', -, hv, hvb, hcv'⟩ := hV.cell hlt
                  obtain ⟨rfl, rfl⟩ : gy = gy' ∧ oy = oy' := by simpa using hA'
                  have hcv := gcell hgq.out hgy hne hcv'
                  have hfr := hRq.frozen (j + i)
                  have hst := hAB.out.step hy hv
                  obtain ⟨ss, hss'⟩ : ∃ ss, ss = y + v + c := ⟨_, rfl⟩
                  rw [← hss'] at hst
                  have hst := Lib.hid hst
                  have hss : (c : Int) + (y : Int) + (v : Int) = (ss : Int) := by omega
                  have hssb : ss < 8589934592 := by omega
                  clear hss' hy hv hAB hA' hcv'
                  go_wp2_with fail
                  go_roundw
                  case rel => exact ⟨i + 1, ss / 4294967296, M.set (j + i) (ss % 4294967296), by omega, by go_num, by go_num, hRq.set (j + i) _ (by omega) (by omega), .inl ⟨by omega, by omega, hst.out⟩, gbs hgq.out _ _⟩
                  case measure => simp [intOf] <;> omega
                · by_cases hle : i ≤ m
                  · have : i = m := by omega
                    subst this
                    have hle2 : (i : Int) ≤ (i : Int) := by omega
                    obtain ⟨hc1, hAB'⟩ : c ≤ 1 ∧ AB L M j Vl i c := by
                      rcases hAX.out with ⟨-, h1, h2⟩ | ⟨h1, -⟩
                      · exact ⟨h1, h2⟩
                      · omega
                    have hAB := Lib.hid hAB'
                    clear hAX hAB'
                    obtain ⟨y, hy, hyb, hcy'⟩ := hRq.cell (k := j + i) (by omega)
                    have hfr := hRq.frozen (j + i)
                    have hQn : Hid (QS X V j (M.set (j + i) ((y + c) % 4294967296)) (O.set j (q - 1))) := AB.done1 (c' := (y + c) / 4294967296) hQ.out hGQ.out hUb.out hVb.out hLb.out (by rw [hUl.out]; omega) hjO.out hW.out.pos hval.out hVlen.out hL.out hhi.out hAB.out hy (by omega) (Bd_set hRq.2 (by omega))
                    clear hy hAB
                    go_wp2_with fail
                    go_roundw
                    case rel => exact ⟨i + 1, (y + c) / 4294967296, M.set (j + i) ((y + c) % 4294967296), by omega, congrArg _ (by omega), by go_num, hRq.set (j + i) _ (by omega) (by omega), .inr ⟨rfl, by omega, hQn.out⟩, gbs hgq.out _ _⟩
                    case measure => simp [intOf] <;> omega
                  · have : i = m + 1 := by omega
                    subst this
                    have hle2 : ¬ ((m : Int) + 1 ≤ (m : Int)) := by omega
                    have hQn : Hid (QS X V j M (O.set j p)) := by
                      rcases hAX.out with ⟨h1, -⟩ | ⟨-, -, h1⟩
                      · omega
                      · rwa [show q - 1 = p by have := hqph.out; omega] at h1
                    clear hAX
                    go_wp2_with fail
                    go_ret
                    exact ⟨p, M, rfl, hpb, hRq, hQn, hgq⟩

end Go.Proofs.Ytgoojlnfobjplaa

/- An amount by some bits to the left, in the reference. -/
namespace Go.Proofs.Ytgoojlnfobjplaa
open Go.RowKit
set_option linter.unusedSimpArgs false
set_option linter.unusedVariables false
attribute [local go_sem] qn30 qe30

/-- the words below i are shifted, the word i holds what came over -/
def SHF (xs L : List Nat) (e i : Nat) : Prop :=
  ∃ c, L[i]? = some c ∧ c < e ∧ val (L.take i) + 4294967296 ^ i * c = val (xs.take i) * e ∧ ∀ k, i < k → k < L.length → L[k]? = some 0

theorem SHF.start {xs : List Nat} {n e : Nat} (he : 1 ≤ e) : SHF xs (List.replicate (n + 1) 0) e 0 :=
  ⟨0, by simp, by omega, by simp [val], fun k _ hk => by rw [List.getElem?_replicate]; simp at hk; simp [hk]⟩

theorem shf_alg {P X V E c lo hi x : Nat} (h : V + P * c = X * E) (hx : lo + 4294967296 * hi = x * E) : V + P * (c + lo) + P * 4294967296 * hi = (X + P * x) * E := by
  have e1 : P * (lo + 4294967296 * hi) = P * (x * E) := by rw [hx]
  grind

theorem SHF.step {xs L : List Nat} {e i x c lo hi : Nat} (h : SHF xs L e i) (hx : xs[i]? = some x) (hc : L[i]? = some c) (hlo : lo + 4294967296 * hi = x * e) (hlx : x < 4294967296) (hll : lo < 4294967296) (hl : i + 1 < L.length) : SHF xs ((L.set i (c + lo)).set (i + 1) hi) e (i + 1) := by
  obtain ⟨c', h1, h2, h3, h4⟩ := h
  obtain rfl : c = c' := by rw [hc] at h1; injection h1
  refine ⟨hi, by rw [List.getElem?_set_self (by rw [List.length_set]; omega)], ?_, ?_, fun k hk hkl => ?_⟩
  · have h5 : x * e < 4294967296 * e := Nat.mul_lt_mul_of_pos_right hlx (by omega)
    have h6 : 4294967296 * hi < 4294967296 * e := by omega
    exact Nat.lt_of_mul_lt_mul_left h6
  · have e1 : ((L.set i (c + lo)).set (i + 1) hi).take (i + 1) = (L.set i (c + lo)).take (i + 1) := by rw [List.take_set_of_le (Nat.le_refl _)]
    rw [e1, take_set_succ (by omega), val_take_succ _ _ _ hx, Nat.pow_succ]
    exact shf_alg h3 hlo
  · rw [List.length_set, List.length_set] at hkl
    rw [List.getElem?_set_ne (by omega), List.getElem?_set_ne (by omega)]
    exact h4 k (by omega) hkl

theorem SHF.last {xs L : List Nat} {e n : Nat} (h : SHF xs L e n) (hx : xs.length = n) (hl : L.length = n + 1) : val L = val xs * e := by
  obtain ⟨c, h1, h2, h3, h4⟩ := h
  rw [List.take_of_length_le (l := xs) (by omega)] at h3
  rw [← h3, ← val_take_succ _ _ _ h1, List.take_of_length_le (by omega)]

theorem or_sh3 {s e f c x : Nat} (h : ShE s e f) (hf : 1 ≤ f) (hc : c < e) : bits .or .u32 (c : Int) (((x * e) % 4294967296 : Nat) : Int) = ((c + (x * e) % 4294967296 : Nat) : Int) ∧ c + (x * e) % 4294967296 < 4294967296 := by
  obtain ⟨h1, h2⟩ := h
  have e1 : (x * e) % 4294967296 = e * (x % f) := by rw [← h2, Nat.mul_comm x e, Nat.mul_mod_mul_left]
  have e4 : e * (x % f) + e ≤ 4294967296 := by
    have : e * (x % f + 1) ≤ e * f := Nat.mul_le_mul_left _ (Nat.mod_lt _ (by omega))
    rw [Nat.mul_add] at this
    omega
  rw [e1]
  refine ⟨?_, by omega⟩
  have e5 : e * (x % f) ||| c = e * (x % f) + c := by
    rw [h1] at hc ⊢
    rw [Nat.two_pow_add_eq_or_of_lt hc]
  rw [u32_or_nat _ _ (by omega) (by omega), Nat.or_comm, e5, Nat.add_comm]

def PSh (w : World) (n v : Nat) (e : Ending) (w' : World) : Prop :=
  ∃ L, e = .returned (.slice (some ⟨w.heap.size, 0, none⟩) (n + 1) (n + 1)) ∧ Rw w' w.heap.size (n + 1) L ∧ val L = v ∧ Below w.heap.size w w'

set_option maxRecDepth 100000 in
set_option maxHeartbeats 4000000 in
theorem r_shifted (A : Option Addr) (n c : Nat) (xs : List Nat) (s e f : Nat) (w : World) (hx : U32 w A n c xs) (hn : n ≤ 400000) (hs : s ≤ 31) (hE : Hid (ShE s e f)) (he2 : (2 : Int) ^ s = (e : Int)) (he1 : 1 ≤ e) (hf1 : 1 ≤ f) :
    Calls Try.prog 77 #[.slice A n c, .int .u64 s] w (PSh w n (val xs * e)) := by
  obtain ⟨i0, hi, hz0, hz1, hz2⟩ := info_parts info32
  have hxl := Lib.hid hx.1
  have heb : e ≤ 4294967296 := by have h := hE.out.2; have := Nat.mul_le_mul_left e hf1; omega
  go_enter Try.func77, Try.ntmps77
  go_wp2_with (at_make; refine wpList_make_full _ rfl _ _ 30 rfl w.heap.size 85 i0 (.int .u32 0) 1 Try.underlying30 hi hz0 hz1 .i64 .i64 _ _ (n + 1) rfl rfl ?c1 ?c1' ?c2 ?c3 ?c4 ?_; rotate_left 5; intro w3 hown hg1)
  case c1 => simp
  case c1' => simp
  case c2 => rw [hz2]; omega
  case c3 => simp [maxLen]; omega
  case c4 => exact Nat.le_refl _
  have hb0 : Below w.heap.size w w3 := (Below.refl _ _).grown hg1 (Nat.le_refl _) (by intro k hk; cases hk)
  have hR0 := Rw.new hown
  clear hg1 hown
  go_loopw [6] (fun v6 wr => ∃ (i : Nat) (L : List Nat), i ≤ n ∧ v6 = .int .i64 i ∧ Rw wr w.heap.size (n + 1) L ∧ Hid (SHF xs L e i) ∧ Below w.heap.size w wr) (fun i _ => n - (intOf i).toNat)
  case atStart => exact ⟨0, _, by omega, rfl, hR0, SHF.start he1, hb0⟩
  case round =>
    clear hR0 hb0
    obtain ⟨i, L, him, rfl, hR, hS, hb⟩ := hrel
    by_cases hlt : i < n
    · obtain ⟨gx, ox, x, rfl, hgx, hxk', hxb, hcx⟩ := hx.cellD hb (Nat.le_refl _) hlt
      obtain ⟨cc, hc, hcb, hco⟩ := hR.cell (k := i) (by omega)
      obtain ⟨c2, -, -, hco2⟩ := hR.cell (k := i + 1) (by omega)
      have hfr := hR.frozen i
      have hfr2 := hR.frozen (i + 1)
      have hce : cc < e := by
        obtain ⟨c', h1, h2, -⟩ := hS.out
        rw [hc] at h1
        injection h1 with h1
        omega
      have hor := or_sh3 (x := x) hE.out hf1 hce
      have hst : ∀ lo hi, lo + 4294967296 * hi = x * e → lo < 4294967296 → SHF xs ((L.set i (cc + lo)).set (i + 1) hi) e (i + 1) := fun lo hi h1 h2 => hS.out.step hxk' hc h1 hxb h2 (by rw [hR.len]; omega)
      have hXb : x * e ≤ 4294967295 * 4294967296 := Nat.mul_le_mul (by omega) heb
      have hxe : (x : Int) * (e : Int) = ((x * e : Nat) : Int) := by rw [Int.natCast_mul]
      obtain ⟨X, hX⟩ : ∃ X, X = x * e := ⟨_, rfl⟩
      rw [← hX] at hxe hXb hor
      have hst := Lib.hid (hst (X % 4294967296) (X / 4294967296) (by omega) (by omega))
      have hXl : (X : Int) % 4294967296 = ((X % 4294967296 : Nat) : Int) := by omega
      obtain ⟨lo, hlo⟩ : ∃ lo, lo = X % 4294967296 := ⟨_, rfl⟩
      rw [← hlo] at hXl hor hst
      have hloh := Lib.hid hlo
      obtain ⟨hor1, hor2⟩ := hor
      clear hX hxk' hc hS hlo
      go_wp2_with fail
      go_roundw
      case rel => exact ⟨i + 1, _, by omega, by go_num, (hR.set i (cc + lo) hor2 (by omega)).set (i + 1) (X / 4294967296) (by omega) (by omega), hst.out, (hb.setCell (Nat.le_refl _) _).setCell (Nat.le_refl _) _⟩
      case measure => simp [intOf]; omega
    · have : n = i := by omega
      subst this
      have hv := hS.out.last hxl.out hR.len
      go_wp2_with fail
      go_ret
      exact ⟨L, rfl, hR, hv, hb⟩

end Go.Proofs.Ytgoojlnfobjplaa
