/- MatchDuals: the law's walk. -/
import Derived.Test.YtjbhnfejpgjghaaOe
import Derived.Test.YtjbhnfejpgjghaaMn
namespace Go.Proofs.Ytjbhnfejpgjghaa
open Go.RowKit
set_option linter.unusedSimpArgs false
set_option linter.unusedVariables false

theorem fix_c {V : Nat → Nat → Int} {m : Nat → Nat} {n t : Nat} (hm : ∀ i, i < n → m i < n) (h : Fixd V m n t) {i : Nat} (hi : i < n) : (orb V m n t).1 i = (orb V m n t).2 (m i) - V i (m i) := by
  rw [← h.1 i hi, ← h.2 (m i) (hm i hi)]
  rfl
theorem fix_d {V : Nat → Nat → Int} {m : Nat → Nat} {n t : Nat} (h : Fixd V m n t) {i k : Nat} (hi : i < n) (hk : k < n) (h0 : 0 ≤ V i k) : V i k ≤ (orb V m n t).2 k - (orb V m n t).1 i := by
  have h1 := h.2 k hk
  have h2 := dk_ge (V := V) (c := (orb V m n t).1) (k := k) (x := (orb V m n t).2 k) hi h0
  have h3 : (orb V m n (t + 1)).2 k = dk V (orb V m n t).1 k n ((orb V m n t).2 k) := rfl
  omega
theorem duals_sum {ls : List (List Int)} {m : Nat → Nat} (hm : Mt ls m) {t : Nat} (h : Fixd (Wt ls) m ls.length t) : sumF (fun i => (orb (Wt ls) m ls.length t).2 i - (orb (Wt ls) m ls.length t).1 i) ls.length = heavy ls ls.length 0 := by
  rw [sumF_sub, ← hm.sum]
  have h1 := sum_perm (orb (Wt ls) m ls.length t).2 _ _ hm.cho
  have h2 : sumF (orb (Wt ls) m ls.length t).1 ls.length = sumF (fun i => (orb (Wt ls) m ls.length t).2 (m i) - Wt ls i (m i)) ls.length := sumF_congr fun i hi => fix_c hm.cho.lt h hi
  rw [sumF_sub] at h2
  omega
theorem il_cell {w wx : World} {A : Option Addr} {n c : Nat} {N : Nat} {f : Nat → Int} (h : IL w A n c ((List.range N).map f)) (hb : Below w.heap.size w wx) (hN : 0 < N) : n = N ∧ ∃ g o, A = some ⟨g, o, none⟩ ∧ ∀ wx, Below w.heap.size w wx → ∀ j, j < N → wx.cell? ⟨g, o + j, none⟩ = some (.int .i64 (f j)) := by
  have hn : n = N := by have := h.1; simp at this; omega
  subst hn
  obtain ⟨g, o, -, rfl, -, -, -⟩ := h.cell (j := 0) hN
  refine ⟨rfl, g, o, rfl, fun wx hb j hj => ?_⟩
  obtain ⟨g2, o2, x, hA, hg, hx, hc⟩ := h.cell (j := j) hj
  obtain ⟨rfl, rfl⟩ : g = g2 ∧ o = o2 := by simpa using hA
  have e : f j = x := by simpa [hj] using hx
  rw [e]
  exact (hb.cell (p := ⟨g, o + j, none⟩) hg).trans hc

theorem tabrow {w2 : World} {gA oA n c : Nat} {ls : List (List Int)} (hL : L2 w2 (some ⟨gA, oA, none⟩) n c ls) (hT : isT ls = true) (hn : ls.length = n) {i : Nat} (hi : i < n) :
    ∃ gl ol cl, ∀ wr, Below w2.heap.size w2 wr → wr.cell? ⟨gA, oA + i, none⟩ = some (.slice (some ⟨gl, ol, none⟩) n cl) ∧ ∀ k, k < n → wr.cell? ⟨gl, ol + k, none⟩ = some (.int .i64 (Wt ls i k)) := by
  obtain ⟨g, o, zs, A', n', c', hA, hg, hz, hc, h1⟩ := hL.cell hi
  obtain ⟨rfl, rfl⟩ : gA = g ∧ oA = o := by simpa using hA
  obtain ⟨l, hl, hl2, hll, -⟩ := isT_row hT (i := i) (by omega)
  obtain rfl : l = zs := by rw [hl] at hz; injection hz
  obtain rfl : n = n' := by rw [← h1.1, hll, hn]
  obtain ⟨gl, ol, -, rfl, -⟩ := h1.cell (j := 0) (by omega)
  refine ⟨gl, ol, c', fun wr hb => ⟨(hb.cell (p := ⟨gA, oA + i, none⟩) hg).trans hc, fun k hk => ?_⟩⟩
  obtain ⟨g2, o2, x, hA', hg2, hx, -, hcx⟩ := h1.cell hk
  obtain ⟨rfl, rfl⟩ : gl = g2 ∧ ol = o2 := by simpa using hA'
  have : Wt ls i k = x := by unfold Wt; rw [hl2, List.getD_eq_getElem?_getD, hx]; rfl
  rw [this]
  exact (hb.cell (p := ⟨gl, ol + k, none⟩) hg2).trans hcx
theorem sum_bd {f : Nat → Int} {n : Nat} (h : ∀ i, i < n → -30 ≤ f i ∧ f i ≤ 33) : ∀ i, i ≤ n → -30 * (i : Int) ≤ sumF f i ∧ sumF f i ≤ 33 * (i : Int) := by
  intro i
  induction i with
  | zero => intro _; show _ ≤ (0 : Int) ∧ (0 : Int) ≤ _; omega
  | succ i ih =>
    intro hi
    have := ih (by omega)
    have := h i (by omega)
    show _ ≤ sumF f i + f i ∧ sumF f i + f i ≤ _
    omega

set_option maxRecDepth 100000 in
set_option maxHeartbeats 1000000 in
theorem law13_MatchDuals (A : Option Addr) (n c : Nat) (ls : List (List Int)) (w : World) (hL : L2 w A n c ls) :
    Calls Try.prog 4 #[.slice A n c] w fun e w' => e = .returned (.bool true) ∧ Below w.heap.size w w' := by
  have hW := Lib.hid (m_weight A n c ls w hL)
  have hL' := Lib.hid hL
  have hcs : ∀ er : Int, (er ≠ 0) → (∀ a b c, weightS ls = (a, b, c) → c = er) → (∀ a b c, OffR ls a b c → c = er) → Calls Try.prog 4 #[.slice A n c] w fun e w' => e = .returned (.bool true) ∧ Below w.heap.size w w' := by
    intro er h0 h1 h2
    have h1' := Lib.hid h1
    have h2' := Lib.hid h2
    have hee : (er != er) = false := by simp
    have he0 : (er != 0) = true := by simpa using h0
    clear h1 h2 h0 hL
    go_enter Try.func4, Try.ntmps4
    go_upto_region 2 with (go_at_call 9; (with_reducible refine hW.out.mono ?_); rintro e w2 ⟨A1, n1, c1, sum, zs, er1, rfl, hil, hws, hb⟩)
    obtain rfl := h1'.out _ _ _ hws.out
    have hb2 := Lib.hid hb
    have hO := Lib.hid (m_offsets A n c ls w2 (hL'.out.below hb (Nat.le_refl _)))
    clear hb hW h1'
    go_wp2_with (first
      | (go_at_call 12; (with_reducible refine hO.out.mono ?_); rintro e w5 ⟨A3, n3, c3, A4, n4, c4, us, vs, er2, rfl, hil3, hil4, hof, hb⟩; obtain rfl := h2'.out _ _ _ hof; have hb5 := Lib.hid (hb2.out.trans (hb.mono hb2.out.size)))
      | (go_at_call 14; refine (law13_known _).mono ?_; rintro e w9 ⟨rfl, hb9⟩; have hb9' := Lib.hid (hb5.out.trans (hb9.mono hb5.out.size))))
    go_ret
    exact ⟨rfl, hb9'.out⟩
  rcases ws_cases ls with ⟨hT, hws⟩ | ⟨hT, hh, hws⟩ | ⟨hT, hh, hws⟩
  · refine hcs 1 (by omega) (fun a b c h => ?_) (fun a b c h => ?_)
    · rw [hws] at h; injection h with _ h; injection h with _ h; exact h.symm
    · rcases h with ⟨a1, rfl, rfl, rfl⟩ | ⟨a1, a2, rfl, rfl, rfl⟩ | ⟨a1, a2, rfl, a3⟩
      · rfl
      · rw [hT] at a1; cases a1
      · rw [hT] at a1; cases a1
  · refine hcs 4 (by omega) (fun a b c h => ?_) (fun a b c h => ?_)
    · rw [hws] at h; injection h with _ h; injection h with _ h; exact h.symm
    · rcases h with ⟨a1, rfl, rfl, rfl⟩ | ⟨a1, a2, rfl, rfl, rfl⟩ | ⟨a1, a2, rfl, a3⟩
      · rw [hT] at a1; cases a1
      · rfl
      · omega
  · clear hcs
    have hT' := Lib.hid hT
    have hM := Lib.hid (mW_mt hT hh)
    have hws' := Lib.hid hws
    have hof0 : Hid (∀ a b c, OffR ls a b c → c = 0 ∧ ∃ t, Fixd (Wt ls) (mW ls) ls.length t ∧ a = (List.range ls.length).map (orb (Wt ls) (mW ls) ls.length t).1 ∧ b = (List.range ls.length).map (orb (Wt ls) (mW ls) ls.length t).2) := by
      rintro a b c (⟨a1, rfl, rfl, rfl⟩ | ⟨a1, a2, rfl, rfl, rfl⟩ | ⟨a1, a2, rfl, a3⟩)
      · rw [hT] at a1; cases a1
      · omega
      · exact ⟨rfl, a3⟩
    obtain ⟨t1, t2, -⟩ := isT_of hT
    have hln := hL.1
    rw [hln] at t1 t2
    obtain ⟨gA, oA, -, -, -, -, rfl, -⟩ := hL.cell (j := 0) (by omega)
    clear hws hT hh hL
    go_enter Try.func4, Try.ntmps4
    go_upto_region 2 with (go_at_call 9; (with_reducible refine hW.out.mono ?_); rintro e w2 ⟨A1, n1, c1, sum, zs, er1, rfl, hil, hws, hb⟩; obtain ⟨rfl, rfl, rfl⟩ := ws_eq hws'.out hws)
    have hb2 := Lib.hid hb
    have hO := Lib.hid (m_offsets (some ⟨gA, oA, none⟩) n c ls w2 (hL'.out.below hb (Nat.le_refl _)))
    clear hb hW hws hil
    go_upto_region 3 with (go_at_call 12; (with_reducible refine hO.out.mono ?_); rintro e w5 ⟨A3, n3, c3, A4, n4, c4, us, vs, er2, rfl, hil3, hil4, hof, hb⟩)
    obtain ⟨rfl, t, hfx, rfl, rfl⟩ := hof0.out _ _ _ hof
    have hb5 := Lib.hid (hb2.out.trans (hb.mono hb2.out.size))
    have hsum := Lib.hid (duals_sum hM.out hfx)
    have hinv := (OInv.orb hT'.out hM.out t).bd hT'.out hM.out
    rw [hln] at hinv
    have hfd := fun i k hi hk h0 => fix_d hfx (i := i) (k := k) hi hk h0
    simp only [hln] at hfd hil3 hil4
    obtain ⟨hn3, g3, o3, rfl, hc3⟩ := il_cell hil3 (Below.refl _ _) (by omega)
    obtain ⟨hn4, g4, o4, rfl, hc4⟩ := il_cell hil4 (Below.refl _ _) (by omega)
    have hn3 := hn3.symm
    have hn4 := hn4.symm
    subst hn3 hn4
    clear hn3 hn4
    rw [hln] at hsum
    obtain ⟨sm, hsm⟩ : ∃ sm, sm = heavy ls n 0 := ⟨_, rfl⟩
    rw [← hsm] at hsum ⊢
    obtain ⟨cf, hcf⟩ : ∃ cf, cf = (orb (Wt ls) (mW ls) n t).1 := ⟨_, rfl⟩
    obtain ⟨df, hdf⟩ : ∃ df, df = (orb (Wt ls) (mW ls) n t).2 := ⟨_, rfl⟩
    rw [← hcf] at hc3 hinv hfd hsum
    rw [← hdf] at hc4 hinv hfd hsum
    have hc3' := Lib.hid hc3
    have hc4' := Lib.hid hc4
    have hfd' := Lib.hid hfd
    obtain ⟨hcb, hdb⟩ := hinv
    have hsb := Lib.hid (sum_bd (f := fun i => df i - cf i) (n := n) (fun i hi => by
      have h1 := hcb i hi
      have h2 := hdb i hi
      show -30 ≤ df i - cf i ∧ df i - cf i ≤ 33
      omega))
    have hcb' := Lib.hid hcb
    have hdb' := Lib.hid hdb
    have hL5 := Lib.hid (hL'.out.below hb5.out (Nat.le_refl _))
    have hln' := Lib.hid hln
    have hnn : ((n : Int) != (n : Int)) = false := by simp
    clear hc3 hc4 hfd hcb hdb hil3 hil4 hof hof0 hO hb hfx hcf hdf hsm hws' hL' hln
    go_wp2_with fail
    go_loopw [9, 45] (fun v9 v45 wr => ∃ i : Nat, i ≤ n ∧ v45 = .int .i64 (i : Int) ∧ v9 = .int .i64 (sumF (fun i => df i - cf i) i) ∧ Hid (Below w5.heap.size w5 wr)) (fun _ i _ => n - (intOf i).toNat)
    case atStart => exact ⟨0, by omega, rfl, rfl, Below.refl _ _⟩
    case round =>
      obtain ⟨i, hi, rfl, rfl, hb⟩ := hrel
      by_cases hin : i < n
      · have hiR : (i : Int) < (n : Int) := by omega
        obtain ⟨S, hS⟩ : ∃ S, S = sumF (fun i => df i - cf i) i := ⟨_, rfl⟩
        have hSb := hsb.out i hi
        rw [← hS] at hSb ⊢
        have hSn : Hid (sumF (fun i => df i - cf i) (i + 1) = S + (df i - cf i)) := by rw [hS]; rfl
        clear hS
        have e3 := hc3'.out wr hb.out i hin
        have e4 := hc4'.out wr hb.out i hin
        have hci := hcb'.out i hin
        have hdi := hdb'.out i hin
        obtain ⟨ci, hci'⟩ : ∃ ci, ci = cf i := ⟨_, rfl⟩
        obtain ⟨di, hdi'⟩ : ∃ di, di = df i := ⟨_, rfl⟩
        rw [← hci'] at e3 hci hSn
        rw [← hdi'] at e4 hdi hSn
        have w1 : IntKind.i64.wrap (di - ci) = di - ci := by rw [IntKind.wrap_i64]; omega
        have w2 : IntKind.i64.wrap (S + (di - ci)) = S + (di - ci) := by rw [IntKind.wrap_i64]; omega
        obtain ⟨gl, ol, cl, htr⟩ := tabrow hL5.out hT'.out hln'.out (i := i) hin
        have cw0 := (htr wr hb.out).1
        have htr' := Lib.hid htr
        have q1 := Lib.hid hci'
        have q2 := Lib.hid hdi'
        clear htr hci' hdi'
        go_wp2_with fail
        go_quiet (fail)
        go_wp2_with fail
        clear cw0 e3 e4
        have hbq : Hid (Below w5.heap.size w5 (wr.drewN nq)) := bdN hb.out _
        obtain ⟨wq, hwq⟩ : ∃ wq, wq = wr.drewN nq := ⟨_, rfl⟩
        rw [← hwq] at hbq ⊢
        clear hwq hb
        go_loopw [72] (fun v72 wr => ∃ k : Nat, k ≤ n ∧ v72 = .int .i64 (k : Int) ∧ Hid (Below w5.heap.size w5 wr)) (fun k _ => n - (intOf k).toNat)
        case atStart => exact ⟨0, by omega, rfl, hbq⟩
        case round =>
          clear hbq
          obtain ⟨k, hk, rfl, hb⟩ := hrel
          by_cases hkn : k < n
          · have hkR : (k : Int) < (n : Int) := by omega
            have cx := (htr'.out wr hb.out).2 k hkn
            have e3 := hc3'.out wr hb.out i hin
            have e4 := hc4'.out wr hb.out k hkn
            have hdk := hdb'.out k hkn
            have hfk := hfd'.out i k hin hkn
            rw [← q1.out] at e3 hfk
            obtain ⟨V, hV⟩ : ∃ V, V = Wt ls i k := ⟨_, rfl⟩
            obtain ⟨y, hy⟩ : ∃ y, y = df k := ⟨_, rfl⟩
            rw [← hV] at cx hfk
            rw [← hy] at e4 hdk hfk
            have w3 : IntKind.i64.wrap (y - ci) = y - ci := by rw [IntKind.wrap_i64]; omega
            have hc0 : decide (ci < 0) = false := decide_eq_false (by omega)
            clear hV hy
            by_cases h0 : 0 ≤ V
            · have h0' : decide (0 ≤ V) = true := by simpa using h0
              have hlt : decide (y - ci < V) = false := decide_eq_false (by have := hfk h0; omega)
              clear hfk h0
              go_wp2_with fail
              go_quiet (fail)
              go_wp2_with fail
              go_roundw
              case rel => exact ⟨k + 1, by omega, by go_num, bdN hb.out _⟩
              case measure => simp [intOf]; omega
            · have h0' : decide (0 ≤ V) = false := by simpa using h0
              clear hfk h0
              go_wp2_with fail
              go_quiet (fail)
              go_wp2_with fail
              go_roundw
              case rel => exact ⟨k + 1, by omega, by go_num, bdN hb.out _⟩
              case measure => simp [intOf]; omega
          · have hkn' : n = k := by omega
            subst hkn'
            go_wp2_with fail
            go_roundw
            case rel => exact ⟨i + 1, by omega, by go_num, by rw [hSn.out], hb⟩
            case measure => simp [intOf]; omega
      · have hin' : n = i := by omega
        subst hin'
        have hss : Hid (sumF (fun i => df i - cf i) n = sm) := hsum
        rw [hss.out]
        have hee : (sm == sm) = true := by simp
        have hb6 := Lib.hid (hb5.out.trans (hb.out.mono hb5.out.size))
        clear hb hb5
        go_wp2_with (go_at_call 14; refine (law13_known _).mono ?_; rintro e w9 ⟨rfl, hb9⟩; have hb9' := Lib.hid (hb6.out.trans (hb9.mono hb6.out.size)))
        go_ret
        exact ⟨rfl, hb9'.out⟩

end Go.Proofs.Ytjbhnfejpgjghaa
