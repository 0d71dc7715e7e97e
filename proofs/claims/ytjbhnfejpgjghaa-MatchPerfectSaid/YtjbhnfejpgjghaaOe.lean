/- The program's Offsets. -/
import Derived.Test.YtjbhnfejpgjghaaOd
namespace Go.Proofs.Ytjbhnfejpgjghaa
open Go.RowKit
set_option linter.unusedSimpArgs false
set_option linter.unusedVariables false

theorem meas0 {n : Nat} {s0 s1 : Int} (h1 : s0 ≤ s1) (h2 : s1 ≤ 30 * (n : Int)) : 2 * (30 * (n : Int) - s1).toNat + 0 < 2 * (30 * (n : Int) - s0).toNat + 1 := by omega
theorem meas1 {n : Nat} {s0 s1 : Int} (h1 : s0 < s1) (h2 : s1 ≤ 30 * (n : Int)) : 2 * (30 * (n : Int) - s1).toNat + 1 < 2 * (30 * (n : Int) - s0).toNat + 1 := by omega

set_option maxRecDepth 100000 in
set_option maxHeartbeats 1000000 in
theorem m_offsets (A : Option Addr) (n c : Nat) (ls : List (List Int)) (w : World) (hL : L2 w A n c ls) :
    Calls Try.prog 12 #[.slice A n c] w (POf ls w) := by
  have hW := Lib.hid (m_weight A n c ls w hL)
  obtain ⟨i0, hi0, hz0, hz1, hz2⟩ := info_parts infoI
  rcases ws_cases ls with ⟨hT, hws⟩ | ⟨hT, hh, hws⟩ | ⟨hT, hh, hws⟩
  · have hR : Hid (OffR ls [] [] 1) := .inl ⟨hT, rfl, rfl, rfl⟩
    have hws' := Lib.hid hws
    clear hws hT
    go_enter Try.func12, Try.ntmps12
    go_wp2_with (go_at_call 9; (with_reducible refine hW.out.mono ?_); rintro e w2 ⟨A1, n1, c1, sum, zs, er, rfl, hil, hs, hb⟩; obtain ⟨rfl, rfl, rfl⟩ := ws_eq hws'.out hs)
    go_ret3
    exact ⟨_, _, _, _, _, _, _, _, _, rfl, IL.nil _, IL.nil _, hR.out, hb⟩
  · have hR : Hid (OffR ls [] [] 4) := .inr (.inl ⟨hT, hh, rfl, rfl, rfl⟩)
    have hws' := Lib.hid hws
    clear hws hT hh
    go_enter Try.func12, Try.ntmps12
    go_wp2_with (go_at_call 9; (with_reducible refine hW.out.mono ?_); rintro e w2 ⟨A1, n1, c1, sum, zs, er, rfl, hil, hs, hb⟩; obtain ⟨rfl, rfl, rfl⟩ := ws_eq hws'.out hs)
    go_ret3
    exact ⟨_, _, _, _, _, _, _, _, _, rfl, IL.nil _, IL.nil _, hR.out, hb⟩
  · have hws' := Lib.hid hws
    have hT' := Lib.hid hT
    have hM := Lib.hid (mW_mt hT hh)
    have hh' := Lib.hid hh
    obtain ⟨t1, t2, -⟩ := isT_of hT
    have hln := hL.1
    rw [hln] at t1 t2
    obtain ⟨gA, oA, -, -, -, -, rfl, -⟩ := hL.cell (j := 0) (by omega)
    have hL' := Lib.hid hL
    clear hws hT hh hL
    go_enter Try.func12, Try.ntmps12
    go_upto_region 5 with (go_at_call 9; (with_reducible refine hW.out.mono ?_); rintro e w2 ⟨A1, n1, c1, sum, zs, er, rfl, hil, hs, hb⟩; obtain ⟨rfl, rfl, rfl⟩ := ws_eq hws'.out hs)
    clear hs hW
    have hb2 := Lib.hid hb
    have hL2 := Lib.hid (hL'.out.below hb (Nat.le_refl _))
    obtain rfl : n = n1 := by have := hil.1; simp at this; omega
    have hil2 := Lib.hid hil
    clear hb hil hL'
    go_cut [9, 10] from 28 to 31 (fun v9 v10 wc => CutO w2 n v9 v10 wc)
    case first =>
      refine wp_region_K (S := fun _ => True) (K := []) (by kernel_rfl) ?_
      refine AnyK.takeFree (i := 0) (v := .int .i64 (n : Int)) rfl (by kernel_rfl) (by kernel_rfl) (by kernel_rfl) (by kernel_rfl) (fun _ _ _ h => h) (Or.inl ⟨by rfl, ?_⟩) trivial ?_
      · rintro w' -
        go_simp
      (try simp only [Act.put, List.setIfInBounds_toArray, List.set_cons_zero, List.set_cons_succ])
      refine AnyK.takeFree (i := 2) (v := .int .i64 (n : Int)) rfl (by kernel_rfl) (by kernel_rfl) (by kernel_rfl) (by kernel_rfl) (fun _ _ _ h => h) (Or.inl ⟨by rfl, ?_⟩) trivial ?_
      · rintro w' -
        go_simp
      (try simp only [Act.put, List.setIfInBounds_toArray, List.set_cons_zero, List.set_cons_succ])
      refine AnyK.two (i := 1) (j := 3) (by kernel_rfl) rfl rfl (fun K' hK => ?_) (fun K' hK => ?_)
      · refine step_make_full (by rfl) _ _ 23 (by rfl) w2.heap.size 3 i0 (.int .i64 0) 1 Try.underlying23 hi0 hz0 hz1 n (by rfl) (by rfl) (by rw [hz2]; omega) (by unfold maxLen; omega) (Nat.le_refl _) ?_
        intro wa hown_wa hg_wa
        go_simp
        have hra := RF.made hown_wa
        have hba : Below w2.heap.size w2 wa := (Below.refl _ _).drew.grown hg_wa (Nat.le_refl _) (by intro k hk; cases hk)
        refine hK.out _ _ (fun _ => trivial) ?_
        clear hK
        (try simp only [Act.put, List.setIfInBounds_toArray, List.set_cons_zero, List.set_cons_succ])
        refine AnyK.two (i := 3) (j := 4) (by kernel_rfl) rfl rfl (fun K' hK => ?_) (fun K' hK => ?_)
        · refine step_make_full (by rfl) _ _ 23 (by rfl) wa.heap.size 3 i0 (.int .i64 0) 1 Try.underlying23 hi0 hz0 hz1 n (by rfl) (by rfl) (by rw [hz2]; omega) (by unfold maxLen; omega) (Nat.le_refl _) ?_
          intro wb hown_wb hg_wb
          go_simp
          have hrb := RF.made hown_wb
          have hbb : Below wa.heap.size wa wb := (Below.refl _ _).grown hg_wb (Nat.le_refl _) (by intro k hk; cases hk)
          refine hK.out _ _ (fun _ => trivial) ?_
          clear hK
          (try simp only [Act.put, List.setIfInBounds_toArray, List.set_cons_zero, List.set_cons_succ])
          refine AnyK.one (i := 4) (by kernel_rfl) rfl (fun K' hK => ?_)
          go_simp
          refine hK.out _ _ (fun _ => trivial) ?_
          clear hK
          (try simp only [Act.put, List.setIfInBounds_toArray, List.set_cons_zero, List.set_cons_succ])
          refine AnyK.one (i := 5) (by kernel_rfl) rfl (fun K' hK => ?_)
          go_simp
          refine hK.out _ _ (fun _ => trivial) ?_
          clear hK
          (try simp only [Act.put, List.setIfInBounds_toArray, List.set_cons_zero, List.set_cons_succ])
          refine AnyK.done (by kernel_rfl) ?_ _
          go_wp2_with fail
          go_meet
          exact ⟨w2.heap.size, wa.heap.size, rfl, rfl, Nat.le_refl _, hba.size, by have h : w2.heap.size < wa.heap.size := hra.lt; omega, hra.call hbb, hrb, hba.trans (hbb.mono hba.size)⟩
        · go_simp
          refine hK.out _ _ (fun _ => trivial) ?_
          clear hK
          (try simp only [Act.put, List.setIfInBounds_toArray, List.set_cons_zero, List.set_cons_succ])
          refine AnyK.one (i := 3) (by kernel_rfl) rfl (fun K' hK => ?_)
          refine step_make_full (by rfl) _ _ 23 (by rfl) wa.heap.size 3 i0 (.int .i64 0) 1 Try.underlying23 hi0 hz0 hz1 n (by rfl) (by rfl) (by rw [hz2]; omega) (by unfold maxLen; omega) (Nat.le_refl _) ?_
          intro wb hown_wb hg_wb
          go_simp
          have hrb := RF.made hown_wb
          have hbb : Below wa.heap.size wa wb := (Below.refl _ _).grown hg_wb (Nat.le_refl _) (by intro k hk; cases hk)
          refine hK.out _ _ (fun _ => trivial) ?_
          clear hK
          (try simp only [Act.put, List.setIfInBounds_toArray, List.set_cons_zero, List.set_cons_succ])
          refine AnyK.one (i := 5) (by kernel_rfl) rfl (fun K' hK => ?_)
          go_simp
          refine hK.out _ _ (fun _ => trivial) ?_
          clear hK
          (try simp only [Act.put, List.setIfInBounds_toArray, List.set_cons_zero, List.set_cons_succ])
          refine AnyK.done (by kernel_rfl) ?_ _
          go_wp2_with fail
          go_meet
          exact ⟨w2.heap.size, wa.heap.size, rfl, rfl, Nat.le_refl _, hba.size, by have h : w2.heap.size < wa.heap.size := hra.lt; omega, hra.call hbb, hrb, hba.trans (hbb.mono hba.size)⟩
      · refine step_make_full (by rfl) _ _ 23 (by rfl) w2.heap.size 3 i0 (.int .i64 0) 1 Try.underlying23 hi0 hz0 hz1 n (by rfl) (by rfl) (by rw [hz2]; omega) (by unfold maxLen; omega) (Nat.le_refl _) ?_
        intro wa hown_wa hg_wa
        go_simp
        have hra := RF.made hown_wa
        have hba : Below w2.heap.size w2 wa := (Below.refl _ _).drew.grown hg_wa (Nat.le_refl _) (by intro k hk; cases hk)
        refine hK.out _ _ (fun _ => trivial) ?_
        clear hK
        (try simp only [Act.put, List.setIfInBounds_toArray, List.set_cons_zero, List.set_cons_succ])
        refine AnyK.one (i := 1) (by kernel_rfl) rfl (fun K' hK => ?_)
        refine step_make_full (by rfl) _ _ 23 (by rfl) wa.heap.size 3 i0 (.int .i64 0) 1 Try.underlying23 hi0 hz0 hz1 n (by rfl) (by rfl) (by rw [hz2]; omega) (by unfold maxLen; omega) (Nat.le_refl _) ?_
        intro wb hown_wb hg_wb
        go_simp
        have hrb := RF.made hown_wb
        have hbb : Below wa.heap.size wa wb := (Below.refl _ _).grown hg_wb (Nat.le_refl _) (by intro k hk; cases hk)
        refine hK.out _ _ (fun _ => trivial) ?_
        clear hK
        (try simp only [Act.put, List.setIfInBounds_toArray, List.set_cons_zero, List.set_cons_succ])
        refine AnyK.one (i := 4) (by kernel_rfl) rfl (fun K' hK => ?_)
        go_simp
        refine hK.out _ _ (fun _ => trivial) ?_
        clear hK
        (try simp only [Act.put, List.setIfInBounds_toArray, List.set_cons_zero, List.set_cons_succ])
        refine AnyK.one (i := 5) (by kernel_rfl) rfl (fun K' hK => ?_)
        go_simp
        refine hK.out _ _ (fun _ => trivial) ?_
        clear hK
        (try simp only [Act.put, List.setIfInBounds_toArray, List.set_cons_zero, List.set_cons_succ])
        refine AnyK.done (by kernel_rfl) ?_ _
        go_wp2_with fail
        go_meet
        exact ⟨wa.heap.size, w2.heap.size, rfl, rfl, hba.size, Nat.le_refl _, by have h : w2.heap.size < wa.heap.size := hra.lt; omega, hrb, hra.call hbb, hba.trans (hbb.mono hba.size)⟩
    case rest =>
      obtain ⟨gC, gD, rfl, rfl, hC, hD, hne, hrC, hrD, hbc⟩ := hcut
      have hbd := fun t => (OInv.orb hT'.out hM.out t).bd hT'.out hM.out
      have hml := fun i hi => hM.out.cho.lt i hi
      have hmp := fun i hi => hM.out.pos i hi
      have hup := fun s i hi => OInv.up hM.out s i hi
      simp only [hln] at hbd hml hmp hup
      obtain ⟨gm, om, -, hA1, hgm, -, -⟩ := hil2.out.cell (j := 0) (by omega)
      subst hA1
      have hmc : ∀ (wx : World) i, Below w2.heap.size w2 wx → i < n → wx.cell? ⟨gm, om + i, none⟩ = some (.int .i64 ((mW ls i : Nat) : Int)) := fun wx i hb hi => by
        obtain ⟨g, o, x, hA, hg, hx, hc⟩ := hil2.out.cell (j := i) hi
        obtain ⟨rfl, rfl⟩ : gm = g ∧ om = o := by simpa using hA
        have e : ((mW ls i : Nat) : Int) = x := by simpa [hln, hi] using hx
        rw [e]
        exact (hb.cell (p := ⟨gm, om + i, none⟩) hg).trans hc
      have htab := fun (wx : World) hb i k hi hk => tab (wr := wx) hL2.out hT'.out hln hb (i := i) (k := k) hi hk
      have hmc' := Lib.hid hmc
      have htab' := Lib.hid htab
      have hbd' := Lib.hid hbd
      have hml' := Lib.hid hml
      have hmp' := Lib.hid hmp
      have hup' := Lib.hid hup
      have hst : Hid (OH w2 gC gD n (orb (Wt ls) (mW ls) n 0).1 (orb (Wt ls) (mW ls) n 0).2 wc) := ⟨hbc, hrC, hrD⟩
      have hVb : Hid (∀ i k, i < n → k < n → -1 ≤ Wt ls i k ∧ Wt ls i k ≤ 3) := fun i k hi hk => (Wt_get hT'.out (by omega) (by omega)).2
      clear hmc htab hbd hml hmp hup hbc hrC hrD hil2
      go_wp2_with fail
      go_loopg [11] (2 * (30 * (n : Int) - sumF (orb (Wt ls) (mW ls) n 0).1 n).toNat + 1) (fun g v11 wr => ∃ (t : Nat) (b : Bool), v11 = .bool b ∧ Hid (OH w2 gC gD n (orb (Wt ls) (mW ls) n t).1 (orb (Wt ls) (mW ls) n t).2 wr) ∧ (b = false → Hid (Fixd (Wt ls) (mW ls) n t)) ∧ g = 2 * (30 * (n : Int) - sumF (orb (Wt ls) (mW ls) n t).1 n).toNat + (if b = true then 1 else 0))
      case atStart => exact ⟨0, true, rfl, hst, (fun h => by cases h), rfl⟩
      case round =>
        clear hst
        obtain ⟨t, b, rfl, hO, hf, hg⟩ := hrel
        cases b with
        | false =>
          have hfx := hf rfl
          have hR : Hid (OffR ls ((List.range n).map (orb (Wt ls) (mW ls) n t).1) ((List.range n).map (orb (Wt ls) (mW ls) n t).2) 0) := by
            refine .inr (.inr ⟨hT'.out, hh'.out, rfl, t, ?_, ?_, ?_⟩)
            · rw [hln]; exact hfx.out
            · rw [hln]
            · rw [hln]
          clear hf hg
          go_wp2_with fail
          go_ret3
          exact ⟨_, _, _, _, _, _, _, _, _, rfl, hO.out.rc.il (by omega), hO.out.rd.il (by omega), hR.out, hb2.out.trans (hO.out.lo.mono hb2.out.size)⟩
        | true =>
          clear hf
          have hg' := Lib.hid hg
          clear hg
          obtain ⟨cf, hcf⟩ : ∃ cf, cf = (orb (Wt ls) (mW ls) n t).1 := ⟨_, rfl⟩
          obtain ⟨df, hdf⟩ : ∃ df, df = (orb (Wt ls) (mW ls) n t).2 := ⟨_, rfl⟩
          have hcb : Hid (∀ i, i < n → 0 ≤ cf i ∧ cf i ≤ 30) := by rw [hcf]; exact (hbd'.out t).1
          have hdb : Hid (∀ k, k < n → 0 ≤ df k ∧ dk (Wt ls) cf k n (df k) ≤ 33) := fun k hk => by
            rw [hcf, hdf]
            exact ⟨((hbd'.out t).2 k hk).1, ((hbd'.out (t + 1)).2 k hk).2⟩
          have hc1 : Hid (∀ i, (orb (Wt ls) (mW ls) n (t + 1)).1 i = dk (Wt ls) cf (mW ls i) n (df (mW ls i)) - Wt ls i (mW ls i)) := fun i => by rw [hcf, hdf]; rfl
          have hd1 : Hid (∀ k, (orb (Wt ls) (mW ls) n (t + 1)).2 k = dk (Wt ls) cf k n (df k)) := fun k => by rw [hcf, hdf]; rfl
          rw [← hcf, ← hdf] at hO
          have hcf' := Lib.hid hcf
          clear hcf hdf
          go_upto_region 10 with fail
          go_loopw [34] (fun v34 wr => ∃ k : Nat, k ≤ n ∧ v34 = .int .i64 (k : Int) ∧ Hid (OH w2 gC gD n cf (fun j => if j < k then dk (Wt ls) cf j n (df j) else df j) wr)) (fun k _ => n - (intOf k).toNat)
          case atStart => exact ⟨0, by omega, rfl, hO.out.congr (fun _ _ => rfl) (fun j _ => (if_neg (by omega)).symm)⟩
          case round =>
            clear hO
            obtain ⟨k, hk, rfl, hO⟩ := hrel
            by_cases hkn : k < n
            · have hO2 : Hid (OH w2 gC gD n cf (fun j => if j < k then dk (Wt ls) cf j n (df j) else if j = k then dk (Wt ls) cf k 0 (df k) else df j) wr) := hO.out.congr (fun _ _ => rfl) (fun j _ => by
                show (if j < k then _ else _) = _
                by_cases e : j < k
                · rw [if_pos e, if_pos e]
                · rw [if_neg e, if_neg e]
                  by_cases e2 : j = k
                  · rw [if_pos e2, e2]; rfl
                  · rw [if_neg e2])
              clear hO
              go_upto_region 13 with fail
              go_loopw [38] (fun v38 wr => ∃ i : Nat, i ≤ n ∧ v38 = .int .i64 (i : Int) ∧ Hid (OH w2 gC gD n cf (fun j => if j < k then dk (Wt ls) cf j n (df j) else if j = k then dk (Wt ls) cf k i (df k) else df j) wr)) (fun i _ => n - (intOf i).toNat)
              case atStart => exact ⟨0, by omega, rfl, hO2⟩
              case round =>
                clear hO2
                obtain ⟨i, hi, rfl, hO⟩ := hrel
                by_cases hin : i < n
                · obtain ⟨gl, ol, cl, cw1, cw2⟩ := htab'.out wr hO.out.lo i k hin hkn
                  have hiR : (i : Int) < (n : Int) := by omega
                  have hkR : (k : Int) < (n : Int) := by omega
                  have hVi := hVb.out i k hin hkn
                  have hdk : dk (Wt ls) cf k (i + 1) (df k) = if 0 ≤ Wt ls i k then max (dk (Wt ls) cf k i (df k)) (Wt ls i k + cf i) else dk (Wt ls) cf k i (df k) := rfl
                  by_cases h0 : 0 ≤ Wt ls i k
                  · have hcD := hO.out.rd.cell hkn
                    have hfD := hO.out.rd.frozen k
                    have hcC := hO.out.rc.cell hin
                    simp only [Nat.lt_irrefl, if_false, if_true] at hcD
                    have hyb := And.intro (dk_le (Wt ls) cf k (df k) i) (dk_mono (V := Wt ls) (c := cf) (k := k) (x := df k) (i := i) (n := n) (by omega))
                    have hdk2 := hdb.out k hkn
                    have hci := hcb.out i hin
                    have hset := hO.out.setD hC hD hne k (max (dk (Wt ls) cf k i (df k)) (Wt ls i k + cf i))
                    rw [if_pos h0] at hdk
                    have hset2 : Hid (OH w2 gC gD n cf (fun j => if j < k then dk (Wt ls) cf j n (df j) else if j = k then dk (Wt ls) cf k (i + 1) (df k) else df j) (wr.setCell ⟨gD, k, none⟩ (.int .i64 (max (dk (Wt ls) cf k i (df k)) (Wt ls i k + cf i))))) := hset.congr (fun _ _ => rfl) (fun j _ => by
                      unfold upd
                      by_cases e : j = k
                      · subst e
                        rw [if_pos rfl, if_neg (Nat.lt_irrefl j), if_pos rfl, hdk]
                      · rw [if_neg e]
                        show (if j < k then _ else if j = k then _ else _) = _
                        rw [if_neg e, if_neg e])
                    clear hset hdk
                    obtain ⟨V, hV⟩ : ∃ V, V = Wt ls i k := ⟨_, rfl⟩
                    obtain ⟨y, hy⟩ : ∃ y, y = dk (Wt ls) cf k i (df k) := ⟨_, rfl⟩
                    obtain ⟨ci, hci'⟩ : ∃ ci, ci = cf i := ⟨_, rfl⟩
                    rw [← hV, ← hy, ← hci'] at hset2
                    rw [← hV] at cw2 h0 hVi
                    rw [← hy] at hcD hyb
                    rw [← hci'] at hcC hci
                    have hmax : max y (V + ci) = (if y < V + ci then V + ci else y) := by rw [Int.max_def]; split <;> split <;> omega
                    have h0' : decide (0 ≤ V) = true := by simpa using h0
                    have hwr : IntKind.i64.wrap (V + ci) = V + ci := by rw [IntKind.wrap_i64]; omega
                    rw [hmax] at hset2
                    clear hmax hy hV hci' hdk2 hyb
                    go_upto_region 16 with fail
                    go_region
                    all_goals (try go_wp2_with fail)
                    go_roundw
                    case rel => exact ⟨i + 1, by omega, by go_num, hset2.out.drew⟩
                    case measure => simp [intOf]; omega
                  · have h0' : decide (0 ≤ Wt ls i k) = false := by simpa using h0
                    rw [if_neg h0] at hdk
                    have hO3 : Hid (OH w2 gC gD n cf (fun j => if j < k then dk (Wt ls) cf j n (df j) else if j = k then dk (Wt ls) cf k (i + 1) (df k) else df j) wr) := by rw [hdk]; exact hO
                    clear hdk hO
                    go_wp2_with fail
                    go_roundw
                    case rel => exact ⟨i + 1, by omega, by go_num, hO3⟩
                    case measure => simp [intOf]; omega
                · have hin' : n = i := by omega
                  subst hin'
                  have hO3 : Hid (OH w2 gC gD n cf (fun j => if j < k + 1 then dk (Wt ls) cf j n (df j) else df j) wr) := hO.out.congr (fun _ _ => rfl) (fun j _ => by
                    show (if j < k then _ else if j = k then _ else _) = _
                    by_cases e : j < k
                    · rw [if_pos e, if_pos (by omega)]
                    · rw [if_neg e]
                      by_cases e2 : j = k
                      · rw [if_pos e2, if_pos (by omega), e2]
                      · rw [if_neg e2, if_neg (by omega)])
                  clear hO
                  go_wp2_with fail
                  go_roundw
                  case rel => exact ⟨k + 1, by omega, by go_num, hO3⟩
                  case measure => simp [intOf]; omega
            · have hkn' : n = k := by omega
              subst hkn'
              have hO3 : Hid (OH w2 gC gD n (fun j => if j < 0 then dk (Wt ls) cf (mW ls j) n (df (mW ls j)) - Wt ls j (mW ls j) else cf j) (fun j => dk (Wt ls) cf j n (df j)) wr) := hO.out.congr (fun j _ => (if_neg (by omega)).symm) (fun j hj => if_pos hj)
              clear hO
              go_upto_region 20 with fail
              go_loopw [11, 73] (fun v11 v73 wr => ∃ (i : Nat) (b : Bool), i ≤ n ∧ v73 = .int .i64 (i : Int) ∧ v11 = .bool b ∧ Hid (b = true ↔ ∃ j, j < i ∧ dk (Wt ls) cf (mW ls j) n (df (mW ls j)) - Wt ls j (mW ls j) ≠ cf j) ∧ Hid (OH w2 gC gD n (fun j => if j < i then dk (Wt ls) cf (mW ls j) n (df (mW ls j)) - Wt ls j (mW ls j) else cf j) (fun j => dk (Wt ls) cf j n (df j)) wr)) (fun _ i _ => n - (intOf i).toNat)
              case atStart => exact ⟨0, false, by omega, rfl, rfl, (by show _ ↔ _; simp), hO3⟩
              case round =>
                clear hO3
                obtain ⟨i, b, hi, rfl, rfl, hbi, hO⟩ := hrel
                by_cases hin : i < n
                · have hmi := hml'.out i hin
                  have hx : 0 ≤ dk (Wt ls) cf (mW ls i) n (df (mW ls i)) - Wt ls i (mW ls i) ∧ dk (Wt ls) cf (mW ls i) n (df (mW ls i)) - Wt ls i (mW ls i) ≤ 30 := by
                    have := (hbd'.out (t + 1)).1 i hin
                    rwa [hc1.out i] at this
                  have hdx := hdb.out (mW ls i) hmi
                  have hdl := dk_le (Wt ls) cf (mW ls i) (df (mW ls i)) n
                  obtain ⟨gl, ol, cl, cw1, cw2⟩ := htab'.out wr hO.out.lo i (mW ls i) hin hmi
                  have hcM := hmc'.out wr i hO.out.lo hin
                  have hcD := hO.out.rd.cell hmi
                  have hcC := hO.out.rc.cell hin
                  have hfC := hO.out.rc.frozen i
                  have hci := hcb.out i hin
                  have hV := hVb.out i (mW ls i) hin hmi
                  have hiR : (i : Int) < (n : Int) := by omega
                  simp only [Nat.lt_irrefl, if_false] at hcC
                  have hset := hO.out.setC hC hD hne i (dk (Wt ls) cf (mW ls i) n (df (mW ls i)) - Wt ls i (mW ls i))
                  have hset2 : Hid (OH w2 gC gD n (fun j => if j < i + 1 then dk (Wt ls) cf (mW ls j) n (df (mW ls j)) - Wt ls j (mW ls j) else cf j) (fun j => dk (Wt ls) cf j n (df j)) (wr.setCell ⟨gC, i, none⟩ (.int .i64 (dk (Wt ls) cf (mW ls i) n (df (mW ls i)) - Wt ls i (mW ls i))))) := hset.congr (fun j _ => by
                    unfold upd
                    by_cases e : j = i
                    · subst e; rw [if_pos rfl, if_pos (by omega)]
                    · rw [if_neg e]
                      show (if j < i then _ else _) = _
                      by_cases e2 : j < i
                      · rw [if_pos e2, if_pos (by omega)]
                      · rw [if_neg e2, if_neg (by omega)]) (fun _ _ => rfl)
                  clear hset
                  by_cases hq : dk (Wt ls) cf (mW ls i) n (df (mW ls i)) - Wt ls i (mW ls i) = cf i
                  · have hb2 : Hid (b = true ↔ ∃ j, j < i + 1 ∧ dk (Wt ls) cf (mW ls j) n (df (mW ls j)) - Wt ls j (mW ls j) ≠ cf j) := by
                      show _ ↔ _
                      rw [hbi.out]
                      constructor
                      · rintro ⟨j, h1, h2⟩; exact ⟨j, by omega, h2⟩
                      · rintro ⟨j, h1, h2⟩
                        by_cases e : j = i
                        · subst e; exact absurd hq h2
                        · exact ⟨j, by omega, h2⟩
                    have hO2 : Hid (OH w2 gC gD n (fun j => if j < i + 1 then dk (Wt ls) cf (mW ls j) n (df (mW ls j)) - Wt ls j (mW ls j) else cf j) (fun j => dk (Wt ls) cf j n (df j)) wr) := hO.out.congr (fun j _ => by
                      show (if j < i then _ else _) = _
                      by_cases e2 : j < i
                      · rw [if_pos e2, if_pos (by omega)]
                      · rw [if_neg e2]
                        by_cases e : j = i
                        · rw [if_pos (by omega), e, hq]
                        · rw [if_neg (by omega)]) (fun _ _ => rfl)
                    clear hset2 hO hbi
                    obtain ⟨mi, hmi'⟩ : ∃ mi, mi = mW ls i := ⟨_, rfl⟩
                    rw [← hmi'] at hmi hx hdx hdl cw2 hcM hcD hV hq
                    obtain ⟨V, hV'⟩ : ∃ V, V = Wt ls i mi := ⟨_, rfl⟩
                    rw [← hV'] at hx cw2 hV hq
                    obtain ⟨y, hy'⟩ : ∃ y, y = dk (Wt ls) cf mi n (df mi) := ⟨_, rfl⟩
                    rw [← hy'] at hx hcD hq hdx hdl
                    obtain ⟨ci, hci'⟩ : ∃ ci, ci = cf i := ⟨_, rfl⟩
                    rw [← hci'] at hcC hci hq
                    have hmR : (mi : Int) < (n : Int) := by omega
                    have hwr : IntKind.i64.wrap (y - V) = y - V := by rw [IntKind.wrap_i64]; omega
                    have hqq : (y - V != ci) = false := by simp; omega
                    clear hmi' hV' hy' hci' hq
                    go_wp2_with fail
                    go_quiet (fail)
                    go_wp2_with fail
                    go_roundw
                    case rel => exact ⟨i + 1, b, by omega, by go_num, rfl, hb2, hO2.out.drewN _⟩
                    case measure => simp [intOf]; omega
                  · have hb2 : Hid (true = true ↔ ∃ j, j < i + 1 ∧ dk (Wt ls) cf (mW ls j) n (df (mW ls j)) - Wt ls j (mW ls j) ≠ cf j) := ⟨fun _ => ⟨i, by omega, hq⟩, fun _ => rfl⟩
                    clear hO hbi
                    obtain ⟨mi, hmi'⟩ : ∃ mi, mi = mW ls i := ⟨_, rfl⟩
                    rw [← hmi'] at hmi hx hdx hdl cw2 hcM hcD hV hq hset2
                    obtain ⟨V, hV'⟩ : ∃ V, V = Wt ls i mi := ⟨_, rfl⟩
                    rw [← hV'] at hx cw2 hV hq hset2
                    obtain ⟨y, hy'⟩ : ∃ y, y = dk (Wt ls) cf mi n (df mi) := ⟨_, rfl⟩
                    rw [← hy'] at hx hcD hq hdx hdl hset2
                    obtain ⟨ci, hci'⟩ : ∃ ci, ci = cf i := ⟨_, rfl⟩
                    rw [← hci'] at hcC hci hq
                    have hmR : (mi : Int) < (n : Int) := by omega
                    have hwr : IntKind.i64.wrap (y - V) = y - V := by rw [IntKind.wrap_i64]; omega
                    have hqq : (y - V != ci) = true := by simp; omega
                    clear hmi' hV' hy' hci' hq
                    go_wp2_with fail
                    go_quiet (fail)
                    go_wp2_with fail
                    go_roundw
                    case rel => exact ⟨i + 1, true, by omega, by go_num, rfl, ⟨fun _ => hb2.out.1 trivial, fun _ => rfl⟩, hset2.out.drewN _⟩
                    case measure => simp [intOf]; omega
                · have hin' : n = i := by omega
                  subst hin'
                  have hO2 : Hid (OH w2 gC gD n (orb (Wt ls) (mW ls) n (t + 1)).1 (orb (Wt ls) (mW ls) n (t + 1)).2 wr) := hO.out.congr (fun j hj => by rw [hc1.out]; exact if_pos hj) (fun j _ => (hd1.out j).symm)
                  have hb3 : b = true ↔ ∃ j, j < n ∧ (orb (Wt ls) (mW ls) n (t + 1)).1 j ≠ (orb (Wt ls) (mW ls) n t).1 j := by
                    rw [hbi.out, ← hcf'.out]
                    constructor
                    · rintro ⟨j, h1, h2⟩; exact ⟨j, h1, by rw [hc1.out]; exact h2⟩
                    · rintro ⟨j, h1, h2⟩; exact ⟨j, h1, by rw [← hc1.out]; exact h2⟩
                  have hle := fun j hj => hup'.out (orb (Wt ls) (mW ls) n t) j hj
                  have hfx : b = false → Hid (Fixd (Wt ls) (mW ls) n (t + 1)) := fun hb => Fixd.of_c (fun i hi => hml'.out i hi) (fun j hj => by
                    apply Classical.byContradiction
                    intro hc
                    have := hb3.2 ⟨j, hj, hc⟩
                    rw [hb] at this
                    cases this)
                  have hms : Hid (2 * (30 * (n : Int) - sumF (orb (Wt ls) (mW ls) n (t + 1)).1 n).toNat + (if b = true then 1 else 0) < gk) := by
                    have hg2 := hg'.out
                    rw [if_pos trivial] at hg2
                    have s1 : sumF (orb (Wt ls) (mW ls) n t).1 n ≤ sumF (orb (Wt ls) (mW ls) n (t + 1)).1 n := sumF_le hle
                    have s2 : sumF (orb (Wt ls) (mW ls) n (t + 1)).1 n ≤ 30 * (n : Int) := by
                      have := sumF_le (f := (orb (Wt ls) (mW ls) n (t + 1)).1) (g := fun _ => 30) (n := n) fun i hi => ((hbd'.out (t + 1)).1 i hi).2
                      rwa [sumF_const] at this
                    show _ < _
                    cases b with
                    | false => rw [if_neg (by simp), hg2]; exact meas0 s1 s2
                    | true =>
                      obtain ⟨j, h1, h2⟩ := hb3.1 rfl
                      have s3 : sumF (orb (Wt ls) (mW ls) n t).1 n < sumF (orb (Wt ls) (mW ls) n (t + 1)).1 n := sumF_lt hle j h1 (by have : (orb (Wt ls) (mW ls) n t).1 j ≤ (orb (Wt ls) (mW ls) n (t + 1)).1 j := hle j h1; omega)
                      rw [if_pos rfl, hg2]
                      exact meas1 s3 s2
                  clear hO hb3 hle hbi
                  go_wp2_with fail
                  go_roundg (2 * (30 * (n : Int) - sumF (orb (Wt ls) (mW ls) n (t + 1)).1 n).toNat + (if b = true then 1 else 0))
                  case measure => exact hms.out
                  case rel => exact ⟨t + 1, b, rfl, hO2, hfx, rfl⟩

end Go.Proofs.Ytjbhnfejpgjghaa
