/- The reference's list of perfect matchings: the method from, by induction on the rows that are left. -/
import Derived.Test.YtjbhnfejpgjghaaTf
namespace Go.Proofs.Ytjbhnfejpgjghaa
open Go.RowKit
set_option linter.unusedSimpArgs false
set_option linter.unusedVariables false

theorem upd_back {used : Nat → Bool} {k : Nat} (h : used k = false) : upd (upd used k true) k false = used := by
  funext x
  unfold upd
  by_cases e : x = k
  · rw [if_pos e, e, h]
  · rw [if_neg e, if_neg e]

set_option maxRecDepth 100000 in
set_option maxHeartbeats 4000000 in
theorem ref_from (z : LZ) (hz : z.Fine) : ∀ (m i : Nat) (way : List Int) (used : Nat → Bool) (vw vo : Value) (hs : List Value) (out : List (List Int)) (w : World), i + m = z.R → way.length = i → out.length ≤ z.most + 1 → LX z way used out vw vo hs w →
    Calls Try.prog 49 #[.pointer (some ⟨z.gX, 0, none⟩), .int .i64 (i : Int)] w (PFr z way used (gateF z m way used out) w) := by
  have hu := Try.underlying74
  have hu3 := Try.underlying33
  have hR := hz.inc.1
  have hmost := hz.most
  obtain ⟨i0, hi0, hz0, hz1, hz2⟩ := info_parts infoI
  obtain ⟨j0, hj0, yz0, yz1, yz2⟩ := info_parts infoS
  intro m
  induction m with
  | zero =>
    intro i way used vw vo hs out w him hwl hol hX
    by_cases hst : z.most < out.length ∨ sz z.E (fun c => !used c) (fun r => decide (i ≤ r)) z.R z.R < 0
    · exact ref_from_stop z hz 0 i way used vw vo hs out w him hol hX hst
    · obtain ⟨Ao, co, hvo⟩ := hX.voForm
      obtain ⟨Aw, cw, hvw⟩ := hX.now.form
      subst hvo hvw
      have hX' := Lib.hid hX
      have hA : ¬ z.most < out.length := fun h => hst (.inl h)
      have hA' : decide (z.most < out.length) = false := by simpa using hA
      obtain ⟨cq, hcq⟩ : ∃ cq, Hid (cq = sz z.E (fun c => !used c) (fun r => decide (i ≤ r)) z.R z.R) := ⟨_, rfl⟩
      have hg : Hid (gateF z 0 way used out = out ++ [way]) := by
        show _ = _
        unfold gateF
        rw [if_neg (by omega)]
        unfold perf
        rw [if_neg hA]
      rw [hg.out]
      have hiR : z.R = i := by omega
      have hq : decide ((cq : Int) < (z.R : Int) - (i : Int)) = false := by simp; omega
      have hwrap : IntKind.i64.wrap ((z.R : Int) - (i : Int)) = (z.R : Int) - (i : Int) := by rw [IntKind.wrap_i64]; omega
      have heq : ((i : Int) == (z.R : Int)) = true := by simp; omega
      have hcqR : cq ≤ z.R := by rw [hcq.out]; exact cnt_le _ _
      have hiR' := Lib.hid hiR
      have hwl' := Lib.hid hwl
      clear hA hX hst hg hiR hwl
      go_enter Try.func49, Try.ntmps49
      go_wp2_with fail
      have hXd := Lib.hid (hX'.out.call (Below.refl _ _).drew)
      have hre := Lib.hid (ref_rest z.R z.R z.E hz.inc z.B z.AE z.cE w.drew hXd.out.bs hXd.out.en i z.gC (by omega) used hXd.out.col)
      rw [← hcq.out] at hre
      have hS : (fun w' : World => (w'.cell? ⟨z.gX, 0, none⟩ = some (.int .i64 (z.R : Int)) ∧ w'.cell? ⟨z.gX, 1, none⟩ = some (.int .i64 (z.R : Int)) ∧ w'.cell? ⟨z.gX, 2, none⟩ = some (.slice z.AE z.R z.cE)) ∧ w'.cell? ⟨z.gX, 3, none⟩ = some (.int .i64 (z.most : Int)) ∧ w'.cell? ⟨z.gX, 4, none⟩ = some (.slice Aw way.length cw) ∧ w'.cell? ⟨z.gX, 5, none⟩ = some (.slice Ao out.length co) ∧ w'.cell? ⟨z.gX, 6, none⟩ = some (.slice (some ⟨z.gC, 0, none⟩) z.R z.R)) w.drew := hXd.out.cells
      go_region_held3 (fun w' : World => (w'.cell? ⟨z.gX, 0, none⟩ = some (.int .i64 (z.R : Int)) ∧ w'.cell? ⟨z.gX, 1, none⟩ = some (.int .i64 (z.R : Int)) ∧ w'.cell? ⟨z.gX, 2, none⟩ = some (.slice z.AE z.R z.cE)) ∧ w'.cell? ⟨z.gX, 3, none⟩ = some (.int .i64 (z.most : Int)) ∧ w'.cell? ⟨z.gX, 4, none⟩ = some (.slice Aw way.length cw) ∧ w'.cell? ⟨z.gX, 5, none⟩ = some (.slice Ao out.length co) ∧ w'.cell? ⟨z.gX, 6, none⟩ = some (.slice (some ⟨z.gC, 0, none⟩) z.R z.R))
        (first | (with_reducible exact hS))
        (first
          | (go_at_call 63; (with_reducible refine hre.out.mono ?_); rintro e w2 ⟨rfl, hb2⟩; have hX2 := Lib.hid (hXd.out.call hb2); clear hS; have hS := hX2.out.cells))
      clear hS hre hXd
      have hlo2 : Hid (Below z.B w w2) := ((Below.refl z.B w).drew).trans (hb2.mono (by have := hX'.out.bs; exact this))
      obtain ⟨⟨c0, c1, c2⟩, c3, c4, c5, c6⟩ := hX2.out.cells
      go_upto_region 2 with fail
      clear c0 c1 c2 c3 c4 c5 c6
      have hwl : way.length ≤ 64 := by rw [hwl'.out]; omega
      obtain ⟨-, -, c4, c5, -⟩ := hX2.out.cells
      have hSS : (fun w' : World => w'.cell? ⟨z.gX, 4, none⟩ = some (.slice Aw way.length cw) ∧ w'.cell? ⟨z.gX, 5, none⟩ = some (.slice Ao out.length co)) w2.drew := ⟨c4, c5⟩
      clear c4 c5
      refine wp_region_K (S := (fun w' : World => w'.cell? ⟨z.gX, 4, none⟩ = some (.slice Aw way.length cw) ∧ w'.cell? ⟨z.gX, 5, none⟩ = some (.slice Ao out.length co))) (K := [14]) (by kernel_rfl) ?_
      refine AnyK.takeFree (i := 0) (v := .pointer (some ⟨z.gX, 0, none⟩)) rfl (by kernel_rfl) (by kernel_rfl) (by kernel_rfl) (by kernel_rfl) (fun _ _ _ h => h) (Or.inl ⟨by rfl, ?_⟩) hSS ?_
      · rintro w' -
        go_simp
      (try simp only [Act.put, List.setIfInBounds_toArray, List.set_cons_zero, List.set_cons_succ])
      refine AnyK.takeFree (i := 1) (v := .pointer (some ⟨z.gX, 0, none⟩)) rfl (by kernel_rfl) (by kernel_rfl) (by kernel_rfl) (by kernel_rfl) (fun _ _ _ h => h) (Or.inl ⟨by rfl, ?_⟩) hSS ?_
      · rintro w' -
        go_simp
      (try simp only [Act.put, List.setIfInBounds_toArray, List.set_cons_zero, List.set_cons_succ])
      refine AnyK.takeFree (i := 2) (v := .pointer (some ⟨z.gX, 0, none⟩)) rfl (by kernel_rfl) (by kernel_rfl) (by kernel_rfl) (by kernel_rfl) (fun _ _ _ h => h) (Or.inl ⟨by rfl, ?_⟩) hSS ?_
      · rintro w' -
        go_simp
      (try simp only [Act.put, List.setIfInBounds_toArray, List.set_cons_zero, List.set_cons_succ])
      refine AnyK.takeFree (i := 3) (v := .pointer (some ⟨z.gX, 5, none⟩)) rfl (by kernel_rfl) (by kernel_rfl) (by kernel_rfl) (by kernel_rfl) (fun _ _ _ h => h) (Or.inl ⟨by rfl, ?_⟩) hSS ?_
      · rintro w' -
        go_simp
      (try simp only [Act.put, List.setIfInBounds_toArray, List.set_cons_zero, List.set_cons_succ])
      refine AnyK.take (i := 4) (v := .slice Ao out.length co) rfl (by kernel_rfl) (by kernel_rfl) (by kernel_rfl) (by kernel_rfl) (by kernel_rfl) (by kernel_rfl) (fun _ _ _ h => h) (Or.inl ⟨by rfl, ?_⟩) hSS ?_
      · rintro w' ⟨a0, a1⟩
        go_simp
      (try simp only [Act.put, List.setIfInBounds_toArray, List.set_cons_zero, List.set_cons_succ])
      refine AnyK.takeFree (i := 5) (v := .pointer (some ⟨z.gX, 0, none⟩)) rfl (by kernel_rfl) (by kernel_rfl) (by kernel_rfl) (by kernel_rfl) (fun _ _ _ h => h) (Or.inl ⟨by rfl, ?_⟩) hSS ?_
      · rintro w' -
        go_simp
      (try simp only [Act.put, List.setIfInBounds_toArray, List.set_cons_zero, List.set_cons_succ])
      refine AnyK.takeFree (i := 6) (v := .pointer (some ⟨z.gX, 0, none⟩)) rfl (by kernel_rfl) (by kernel_rfl) (by kernel_rfl) (by kernel_rfl) (fun _ _ _ h => h) (Or.inl ⟨by rfl, ?_⟩) hSS ?_
      · rintro w' -
        go_simp
      (try simp only [Act.put, List.setIfInBounds_toArray, List.set_cons_zero, List.set_cons_succ])
      refine AnyK.takeFree (i := 7) (v := .pointer (some ⟨z.gX, 4, none⟩)) rfl (by kernel_rfl) (by kernel_rfl) (by kernel_rfl) (by kernel_rfl) (fun _ _ _ h => h) (Or.inl ⟨by rfl, ?_⟩) hSS ?_
      · rintro w' -
        go_simp
      (try simp only [Act.put, List.setIfInBounds_toArray, List.set_cons_zero, List.set_cons_succ])
      refine AnyK.take (i := 8) (v := .slice Aw way.length cw) rfl (by kernel_rfl) (by kernel_rfl) (by kernel_rfl) (by kernel_rfl) (by kernel_rfl) (by kernel_rfl) (fun _ _ _ h => h) (Or.inl ⟨by rfl, ?_⟩) hSS ?_
      · rintro w' ⟨a0, a1⟩
        go_simp
      (try simp only [Act.put, List.setIfInBounds_toArray, List.set_cons_zero, List.set_cons_succ])
      have hXe := Lib.hid (hX2.out.call (Below.refl _ _).drew)
      refine AnyK.one (i := 9) (by kernel_rfl) rfl (fun K' hK => ?_)
      refine step_clone (v := .slice Aw way.length cw) (l := way) (B := z.BB) (by rfl) (.const (.slice none 0 0)) (.tmp 51) (by rfl) hi0 hz0 hz1 hz2 (by kernel_rfl) (by kernel_rfl) hXe.out.now (by omega) ?_
      intro A3 c3' w3 hr3 hb3
      go_simp
      have hX3 := Lib.hid (hXe.out.call hb3)
      obtain ⟨-, -, d4, d5, -⟩ := hX3.out.cells
      refine hK.out _ _ (fun _ => ⟨d4, d5⟩) ?_
      clear hK hSS
      (try simp only [Act.put, List.setIfInBounds_toArray, List.set_cons_zero, List.set_cons_succ])
      refine AnyK.one (i := 10) (by kernel_rfl) rfl (fun K' hK => ?_)
      go_simp
      have hb4 : Below w3.heap.size w3 (w3.alloc (.cells #[.slice A3 way.length c3'] 23)) := (Below.refl _ _).alloc (Nat.le_refl _) _
      have hX4 := Lib.hid (hX3.out.call hb4)
      have hr4 := Lib.hid (hr3.call hb4)
      obtain ⟨-, -, d6, d7, -⟩ := hX4.out.cells
      refine hK.out _ _ (fun _ => ⟨d6, d7⟩) ?_
      clear hK d4 d5
      (try simp only [Act.put, List.setIfInBounds_toArray, List.set_cons_zero, List.set_cons_succ])
      refine AnyK.one (i := 11) (by kernel_rfl) rfl (fun K' hK => ?_)
      refine step_append_lies _ (by rfl) (.tmp 47) (.tmp 53) 22 (by rfl) z.BB 23 j0 (.slice none 0 0) 1 24 Try.underlying22 hj0 yz0 yz1 yz2 (by rfl) (by decide) (.slice Ao out.length co) out.length hs (by kernel_rfl) hX4.out.row ⟨w3.heap.size, 0, none⟩ 1 1 [.slice A3 way.length c3'] (by kernel_rfl) (by rfl) (cell_one_new _ _ _) (by intro u hu; simp at hu; rw [hu]; rfl) (by omega) (by unfold maxLen; omega) (by omega) hX4.out.sz _ rfl ?_
      intro g cap w5 hown hgr hat hlt5
      go_simp
      have hpush := Lib.hid (hX4.out.push hz hX2.out.sz hr4.out (fun g' e1 e2 => by have h1 := (hr3.at e1).1; have h2 := (hX2.out.now.at e2).2; have h3 : w2.drew.heap.size = w2.heap.size := rfl; omega) hgr hown)
      have hfO : Fr (obs (.slice Ao out.length co)) (w3.alloc (.cells #[.slice A3 way.length c3'] 23)) w5 := Fr.grown hgr
      have hbX5 := hfO.blk hX4.out.bX (fun hm => by have := (hX4.out.voAt (mem_obs.1 hm)).1; have := hz.lt; omega)
      have e4 : w5.cell? ⟨z.gX, 4, none⟩ = some (.slice Aw way.length cw) := hbX5.cell 4
      have e5 : w5.cell? ⟨z.gX, 5, none⟩ = some (.slice Ao out.length co) := hbX5.cell 5
      have f5 := hbX5.frozen 5
      have hlo5 : Hid (Below z.B w (w5.setCell ⟨z.gX, 5, none⟩ (.slice (some ⟨g, 0, none⟩) (out.length + 1) cap))) := by
        have h1 := hlo2.out.trans (((Below.refl w2.heap.size w2).drew.trans hb3).mono hX2.out.bs)
        have h2 := h1.trans (hb4.mono (Nat.le_trans hX3.out.bs (Nat.le_refl _)))
        have h3 := h2.trans (hfO.below hX4.out.bs (fun x hx => by have := (hX4.out.voAt (mem_obs.1 hx)).1; have := hz.lt; have := hz.b; omega))
        exact h3.setCell (by have := hz.b; show z.B ≤ z.gX; omega) _
      refine hK.out _ _ (fun _ => ⟨e4, e5⟩) ?_
      clear hK d6 d7
      (try simp only [Act.put, List.setIfInBounds_toArray, List.set_cons_zero, List.set_cons_succ])
      refine AnyK.one (i := 12) (by kernel_rfl) rfl (fun K' hK => ?_)
      go_simp
      refine hK.out _ _ (fun _ => ⟨e4, e5⟩) ?_
      clear hK
      (try simp only [Act.put, List.setIfInBounds_toArray, List.set_cons_zero, List.set_cons_succ])
      refine AnyK.one (i := 13) (by kernel_rfl) rfl (fun K' hK => ?_)
      go_simp
      refine hK.out _ _ (fun _ => ⟨e4, e5⟩) ?_
      clear hK
      (try simp only [Act.put, List.setIfInBounds_toArray, List.set_cons_zero, List.set_cons_succ])
      refine AnyK.one (i := 14) (by kernel_rfl) rfl (fun K' hK => ?_)
      go_simp
      refine hK.out _ _ (fun h => absurd h (Bool.eq_false_iff.1 (by kernel_rfl))) ?_
      clear hK
      (try simp only [Act.put, List.setIfInBounds_toArray, List.set_cons_zero, List.set_cons_succ])
      refine AnyK.done (by kernel_rfl) ?_ _
      go_wp2_with fail
      exact bodyPost_ret (v := .tuple #[]) (by simp [results, Try.results49, go_sem]) rfl ⟨rfl, _, _, _, hpush.out, hlo5.out⟩
  | succ m ih =>
    intro i way used vw vo hs out w him hwl hol hX
    by_cases hst : z.most < out.length ∨ sz z.E (fun c => !used c) (fun r => decide (i ≤ r)) z.R z.R < m + 1
    · exact ref_from_stop z hz (m + 1) i way used vw vo hs out w him hol hX hst
    · obtain ⟨Ao, co, hvo⟩ := hX.voForm
      obtain ⟨Aw, cw, hvw⟩ := hX.now.form
      subst hvo hvw
      have hX' := Lib.hid hX
      have hA : ¬ z.most < out.length := fun h => hst (.inl h)
      have hA' : decide (z.most < out.length) = false := by simpa using hA
      obtain ⟨cq, hcq⟩ : ∃ cq, Hid (cq = sz z.E (fun c => !used c) (fun r => decide (i ≤ r)) z.R z.R) := ⟨_, rfl⟩
      have hB : ¬ cq < m + 1 := fun h => hst (.inr (by rw [← hcq.out]; exact h))
      have hg : Hid (gateF z (m + 1) way used out = perfL z.E z.R z.R i used (fun k o => perf z.E z.R z.R z.most m (way ++ [(k : Int)]) (upd used k true) o) (z.E.getD i []) out) := by
        show _ = _
        unfold gateF
        rw [show z.R - (m + 1) = i by omega, if_neg (fun h => hst (.inr h))]
        rw [perf, if_neg hA, show z.R - (m + 1) = i by omega]
      rw [hg.out]
      have hi : i < z.R := by omega
      obtain ⟨l, hl0⟩ : ∃ l, z.E[i]? = some l := ⟨_, List.getElem?_eq_getElem (by have := hz.inc.2.2.1; omega)⟩
      have hEi : z.E.getD i [] = l := by rw [List.getD_eq_getElem?_getD, hl0]; rfl
      rw [hEi]
      have hl0' := Lib.hid hl0
      clear hEi hl0
      have hiR : (i : Int) < (z.R : Int) := by omega
      have hq : decide ((cq : Int) < (z.R : Int) - (i : Int)) = false := by simp; omega
      have hwrap : IntKind.i64.wrap ((z.R : Int) - (i : Int)) = (z.R : Int) - (i : Int) := by rw [IntKind.wrap_i64]; omega
      have heq : ((i : Int) == (z.R : Int)) = false := by simp; omega
      have hcqR : cq ≤ z.R := by rw [hcq.out]; exact cnt_le _ _
      have hwl' := Lib.hid hwl
      have him' := Lib.hid him
      have ih' := Lib.hid ih
      clear hA hB hX hst hg hwl him ih
      go_enter Try.func49, Try.ntmps49
      go_wp2_with fail
      have hXd := Lib.hid (hX'.out.call (Below.refl _ _).drew)
      have hre := Lib.hid (ref_rest z.R z.R z.E hz.inc z.B z.AE z.cE w.drew hXd.out.bs hXd.out.en i z.gC (by omega) used hXd.out.col)
      rw [← hcq.out] at hre
      have hS : (fun w' : World => (w'.cell? ⟨z.gX, 0, none⟩ = some (.int .i64 (z.R : Int)) ∧ w'.cell? ⟨z.gX, 1, none⟩ = some (.int .i64 (z.R : Int)) ∧ w'.cell? ⟨z.gX, 2, none⟩ = some (.slice z.AE z.R z.cE)) ∧ w'.cell? ⟨z.gX, 3, none⟩ = some (.int .i64 (z.most : Int)) ∧ w'.cell? ⟨z.gX, 4, none⟩ = some (.slice Aw way.length cw) ∧ w'.cell? ⟨z.gX, 5, none⟩ = some (.slice Ao out.length co) ∧ w'.cell? ⟨z.gX, 6, none⟩ = some (.slice (some ⟨z.gC, 0, none⟩) z.R z.R)) w.drew := hXd.out.cells
      go_region_held3 (fun w' : World => (w'.cell? ⟨z.gX, 0, none⟩ = some (.int .i64 (z.R : Int)) ∧ w'.cell? ⟨z.gX, 1, none⟩ = some (.int .i64 (z.R : Int)) ∧ w'.cell? ⟨z.gX, 2, none⟩ = some (.slice z.AE z.R z.cE)) ∧ w'.cell? ⟨z.gX, 3, none⟩ = some (.int .i64 (z.most : Int)) ∧ w'.cell? ⟨z.gX, 4, none⟩ = some (.slice Aw way.length cw) ∧ w'.cell? ⟨z.gX, 5, none⟩ = some (.slice Ao out.length co) ∧ w'.cell? ⟨z.gX, 6, none⟩ = some (.slice (some ⟨z.gC, 0, none⟩) z.R z.R))
        (first | (with_reducible exact hS))
        (first
          | (go_at_call 63; (with_reducible refine hre.out.mono ?_); rintro e w2 ⟨rfl, hb2⟩; have hX2 := Lib.hid (hXd.out.call hb2); clear hS; have hS := hX2.out.cells))
      clear hS hre hXd
      have hlo2 : Hid (Below z.B w w2) := ((Below.refl z.B w).drew).trans (hb2.mono (by have := hX'.out.bs; exact this))
      obtain ⟨⟨c0, c1, c2⟩, c3, c4, c5, c6⟩ := hX2.out.cells
      obtain ⟨gE, oE, l', A', n', c', hAE, hl, hcE, hl1⟩ := hX2.out.en.cell (j := i) hi
      rw [hAE] at c2
      obtain rfl : l = l' := by rw [hl0'.out] at hl; injection hl
      have hll : ∀ k ∈ l, k < z.R := hz.inc.2.2.2 l (List.mem_of_getElem? hl)
      have hbw : Hid (∀ wx, Below z.B w wx → N1 z.B wx A' n' c' l) := fun wx h => hl1.same fun k hk => (h.block k hk).trans (hlo2.out.block k hk).symm
      have hlen := hl1.1
      have hln := hl1.2.1
      have hlen' := Lib.hid hlen
      have hol' := Lib.hid hol
      clear hl hl1 hlen hol
      go_wp2_with fail
      clear c0 c1 c2 c3 c4 c5 c6 hcE hAE
      go_loopw [66] (fun v66 wr => ∃ (j : Nat) (vw vo : Value) (hs : List Value) (out1 : List (List Int)), j ≤ n' ∧ v66 = .int .i64 (j : Int) ∧ Hid (perfL z.E z.R z.R i used (fun k o => perf z.E z.R z.R z.most m (way ++ [(k : Int)]) (upd used k true) o) l out = perfL z.E z.R z.R i used (fun k o => perf z.E z.R z.R z.most m (way ++ [(k : Int)]) (upd used k true) o) (l.drop j) out1) ∧ Hid (out1.length ≤ z.most + 1) ∧ Hid (LX z way used out1 vw vo hs wr) ∧ Hid (Below z.B w wr)) (fun j _ => n' - (intOf j).toNat)
      case atStart => exact ⟨0, _, _, _, out, by omega, rfl, Lib.hid rfl, hol', hX2, hlo2⟩
      case round =>
        clear hX2 hlo2 hb2
        obtain ⟨j, vw, vo, hs, out1, hj, rfl, hp, hol, hX, hlo⟩ := hrel
        by_cases hjl : j < n'
        · obtain ⟨gl, ol, k, hA', hk, hck⟩ := (hbw.out _ hlo.out).cell hjl
          subst hA'
          have hkC : k < z.R := hll k (List.mem_of_getElem? hk)
          have hkCi : (k : Int) < z.R := by omega
          have hd : l.drop j = k :: l.drop (j + 1) := by
            have h1 := (List.getElem?_eq_some_iff.1 hk).1
            rw [List.drop_eq_getElem_cons h1]
            congr 1
            exact (List.getElem?_eq_some_iff.1 hk).2
          rw [hd] at hp
          have cUk := hX.out.col.cell hkC
          have fUk := hX.out.col.frozen k
          obtain ⟨-, -, -, -, c6⟩ := hX.out.cells
          clear hd hk
          cases hus : used k with
          | true =>
            rw [hus] at cUk
            have hp2 : Hid (perfL z.E z.R z.R i used (fun k o => perf z.E z.R z.R z.most m (way ++ [(k : Int)]) (upd used k true) o) l out = perfL z.E z.R z.R i used (fun k o => perf z.E z.R z.R z.most m (way ++ [(k : Int)]) (upd used k true) o) (l.drop (j + 1)) out1) := by
              show _ = _
              rw [hp.out, perfL, if_pos hus]
            clear hus hp
            go_wp2_with fail
            go_roundw
            case rel => exact ⟨j + 1, _, _, _, _, by omega, by go_num, hp2, hol, hX, hlo⟩
            case measure => simp [intOf]; omega
          | false =>
            rw [hus] at cUk
            have hp2 : Hid (perfL z.E z.R z.R i used (fun k o => perf z.E z.R z.R z.most m (way ++ [(k : Int)]) (upd used k true) o) l out = perfL z.E z.R z.R i used (fun k o => perf z.E z.R z.R z.most m (way ++ [(k : Int)]) (upd used k true) o) (l.drop (j + 1)) (gateF z m (way ++ [(k : Int)]) (upd used k true) out1)) := by
              show _ = _
              rw [hp.out]
              exact gate_step hz him'.out hus
            have hub : Hid (upd (upd used k true) k false = used) := upd_back hus
            have hX5 := Lib.hid (hX.out.setC hz k true)
            have hlo5 : Hid (Below z.B w (wr.setCell ⟨z.gC, k, none⟩ (.bool true))) := hlo.out.setCell (by have := hz.b; show z.B ≤ z.gC; omega) _
            clear hus hp
            go_upto_region 8 with fail
            obtain ⟨w5, hw5⟩ : ∃ w5, w5 = wr.setCell ⟨z.gC, k, none⟩ (.bool true) := ⟨_, rfl⟩
            rw [← hw5] at hX5 hlo5 ⊢
            clear hw5 cUk fUk c6 hck hX hlo
            obtain ⟨Aw, cw, hvw⟩ := hX5.out.now.form
            subst hvw
            have hba : Below w5.heap.size w5 (w5.alloc (.cells #[.int .i64 (k : Int)] 3)) := (Below.refl _ _).alloc (Nat.le_refl _) _
            have hX6 := Lib.hid (hX5.out.call hba)
            have hbs5 := hX6.out.sz
            have hbz := hX5.out.bs
            obtain ⟨-, -, c4, -, -⟩ := hX5.out.cells
            have c4b : (w5.alloc (.cells #[.int .i64 (k : Int)] 3)).cell? ⟨z.gX, 4, none⟩ = some (.slice Aw way.length cw) := hX6.out.bX.cell 4
            have hwll : way.length ≤ 64 := by rw [hwl'.out]; omega
            go_upto_region 9 with (at_builtin; refine wpList_app rfl _ _ rfl z.BB (.slice Aw way.length cw) way rfl hX6.out.now (by omega) hbs5 ⟨w5.heap.size, 0, none⟩ 1 (k : Int) rfl (cell_one_new _ _ _) ?_; intro v' w9 hr9 hg9 hat9; obtain ⟨A9, c9, rfl⟩ := hr9.form; have hf9 : Fr (obs (.slice Aw way.length cw)) (w5.alloc (.cells #[.int .i64 (k : Int)] 3)) w9 := Fr.grown hg9; have hbX9 := hf9.blk hX6.out.bX (fun hm => by have := (hX6.out.now.at (mem_obs.1 hm)).1; have := hz.lt; omega); have d4 : w9.cell? ⟨z.gX, 4, none⟩ = some (.slice Aw way.length cw) := hbX9.cell 4; have g4 := hbX9.frozen 4)
            have hX10 := hX6.out.setNow hz hr9 hg9 hat9
            have hlo9 : Below z.B w w9 := (hlo5.out.trans (hba.mono hbz)).trans (hf9.below (Nat.le_trans hbz hba.size) (fun x hx => by have := (hX6.out.now.at (mem_obs.1 hx)).1; have := hz.lt; have := hz.b; omega))
            have hlo10 := hlo9.setCell (p := ⟨z.gX, 4, none⟩) (by have := hz.b; show z.B ≤ z.gX; omega) (.slice A9 (way ++ [(k : Int)]).length c9)
            rw [show (way ++ [(k : Int)]).length = way.length + 1 by simp] at hX10 hlo10
            obtain ⟨w10, hw10⟩ : ∃ w10, w10 = w9.setCell ⟨z.gX, 4, none⟩ (.slice A9 (way.length + 1) c9) := ⟨_, rfl⟩
            rw [← hw10] at hX10 hlo10 ⊢
            have hlo10' := Lib.hid hlo10
            have hih0 := ih'.out (i + 1) (way ++ [(k : Int)]) (upd used k true) _ _ _ out1 w10 (by have := him'.out; omega) (by simp [hwl'.out]) hol.out hX10
            rw [show ((i + 1 : Nat) : Int) = (i : Int) + 1 by omega] at hih0
            have hih := Lib.hid hih0
            have hol2 : Hid ((gateF z m (way ++ [(k : Int)]) (upd used k true) out1).length ≤ z.most + 1) := gate_len hol.out
            clear hih0 hX10 hlo10 hlo9 hw10 hr9 hg9 hat9 hf9 hbX9 d4 g4 hX6 hX5 hlo5 hba hbs5 hbz c4 c4b hol
            go_upto_region 10 with (go_at_call 49; (with_reducible refine hih.out.mono ?_); rintro e w11 ⟨rfl, vw2, vo2, hs2, hX11, hb11⟩)
            have hlo11 := Lib.hid (hlo10'.out.trans hb11)
            have hX11' := Lib.hid hX11
            obtain ⟨g2, cap2, hvw2, hcap2⟩ : ∃ g cap, vw2 = .slice (some ⟨g, 0, none⟩) (way.length + 1) cap ∧ way.length + 1 ≤ cap := by
              rcases hX11.now.2 with ⟨-, h2⟩ | ⟨g, cap, cur, h3, h4, h5, h6, h7, h8⟩
              · simp at h2
              · exact ⟨g, cap, by rw [h3]; simp, by simpa using h6⟩
            subst hvw2
            obtain ⟨-, -, c4, -, -⟩ := hX11.cells
            have g4 := hX11.bX.frozen 4
            have hX12 := Lib.hid ((hX11.pop hz).call ((Below.refl _ _).drew))
            have hlo12 : Hid (Below z.B w (w11.setCell ⟨z.gX, 4, none⟩ (.slice (some ⟨g2, 0, none⟩) way.length cap2)).drew) := (hlo11.out.setCell (by have := hz.b; show z.B ≤ z.gX; omega) _).drew
            clear hX11 hih hb11
            go_region
            go_upto_region 11 with fail
            obtain ⟨w12, hw12⟩ : ∃ w12, w12 = (w11.setCell ⟨z.gX, 4, none⟩ (.slice (some ⟨g2, 0, none⟩) way.length cap2)).drew := ⟨_, rfl⟩
            rw [← hw12] at hX12 hlo12 ⊢
            clear hw12 c4 g4 hX11' hlo11 hcap2
            obtain ⟨-, -, -, -, c6⟩ := hX12.out.cells
            have cUk : w12.cell? ⟨z.gC, k, none⟩ = some (.bool true) := by rw [hX12.out.col.cell hkC, upd_same]
            have fUk := hX12.out.col.frozen k
            have hX13 := Lib.hid (hX12.out.setC hz k false)
            rw [hub.out] at hX13
            have hlo13 : Hid (Below z.B w (w12.setCell ⟨z.gC, k, none⟩ (.bool false))) := hlo12.out.setCell (by have := hz.b; show z.B ≤ z.gC; omega) _
            clear hX12 hlo12
            go_wp2_with fail
            go_roundw
            case rel => exact ⟨j + 1, _, _, _, _, by omega, by go_num, hp2, hol2, hX13, hlo13⟩
            case measure => simp [intOf]; omega
        · have hdn : l.drop j = [] := List.drop_eq_nil_of_le (by have := hlen'.out; omega)
          rw [hdn, perfL] at hp
          have hfin : PFr z way used (perfL z.E z.R z.R i used (fun k o => perf z.E z.R z.R z.most m (way ++ [(k : Int)]) (upd used k true) o) l out) w (.returned (.tuple #[])) wr := by
            rw [hp.out]
            exact ⟨rfl, _, _, _, hX.out, hlo.out⟩
          have hfin' := Lib.hid hfin
          clear hfin hp hX hlo
          go_wp2_with fail
          exact bodyPost_ret (v := .tuple #[]) (by simp [results, Try.results49, go_sem]) rfl hfin'.out

end Go.Proofs.Ytjbhnfejpgjghaa
