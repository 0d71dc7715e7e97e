/- MatchPerfect: the law's walk. -/
import Derived.Test.YtjbhnfejpgjghaaPg
import Derived.Test.YtjbhnfejpgjghaaOj
namespace Go.Proofs.Ytjbhnfejpgjghaa
open Go.RowKit
set_option linter.unusedSimpArgs false
set_option linter.unusedVariables false

/-- the incidence under way -/
structure ES (w2 : World) (gM n : Nat) (ls : List (List Int)) (i : Nat) (vE : Value) (hs : List Value) (wr : World) : Prop where
  lo : Below w2.heap.size w2 wr
  gm : gM = w2.heap.size
  bM : Blk wr gM 33 #[.int .i64 (n : Int), .int .i64 (n : Int), vE]
  row : wr.ownsRow (gM + 1) 23 1 vE i hs
  el : ∀ (j : Nat) (h : Value), hs[j]? = some h → RowI wr (gM + 1) h (pc (ls.getD j []) n)
theorem ES.len {w2 : World} {gM n : Nat} {ls : List (List Int)} {i : Nat} {vE : Value} {hs : List Value} {wr : World} (h : ES w2 gM n ls i vE hs wr) : hs.length = i := by have := h.row.1; omega
theorem ES.fr {w2 : World} {gM n : Nat} {ls : List (List Int)} {i : Nat} {vE : Value} {hs : List Value} {wr w' : World} {xs : List Nat} (h : ES w2 gM n ls i vE hs wr) (hf : Fr xs wr w') (hx : ∀ x ∈ xs, gM + 1 ≤ x) (h1 : ∀ x ∈ xs, vE.ownBlock ≠ some x) (h2 : ∀ v ∈ hs, ∀ x ∈ xs, v.ownBlock ≠ some x) : ES w2 gM n ls i vE hs w' := by
  have hg := h.gm
  refine ⟨h.lo.trans (hf.below (by have := h.lo.size; omega) (fun x hm => by have := hx x hm; omega)), hg, hf.blk h.bM (fun hm => by have := hx _ hm; omega), ?_, fun j v hv => (h.el j v hv).same fun g e => hf.block g ((h.el j v hv).at e).2 fun hm => h2 v (List.mem_of_getElem? hv) g hm e⟩
  obtain ⟨e1, e2⟩ := h.row
  refine ⟨e1, ?_⟩
  rcases e2 with e2 | ⟨g, cap, cur, rfl, e3, e4, e5⟩
  · exact .inl e2
  · refine .inr ⟨g, cap, cur, rfl, e3, ?_, e5⟩
    rw [hf.block g (Array.getElem?_eq_some_iff.1 e4).1 (fun hm => h1 g hm rfl)]
    exact e4
theorem ES.call {w2 : World} {gM n : Nat} {ls : List (List Int)} {i : Nat} {vE : Value} {hs : List Value} {wr w' : World} (h : ES w2 gM n ls i vE hs wr) (hb : Below wr.heap.size wr w') : ES w2 gM n ls i vE hs w' :=
  h.fr (xs := []) ((Fr.refl _ _).call hb) (by simp) (by simp) (by simp)
theorem ES.elAt {w2 : World} {gM n : Nat} {ls : List (List Int)} {i : Nat} {vE : Value} {hs : List Value} {wr : World} (h : ES w2 gM n ls i vE hs wr) {v : Value} (hv : v ∈ hs) {g : Nat} (hg : v.ownBlock = some g) : gM + 1 ≤ g ∧ g < wr.heap.size := by
  obtain ⟨j, hj, rfl⟩ := List.getElem_of_mem hv
  exact (h.el j _ (List.getElem?_eq_getElem hj)).at hg
/-- one more row -/
theorem ES.push {w2 : World} {gM n : Nat} {ls : List (List Int)} {i : Nat} {vE v v2 : Value} {hs : List Value} {wr w1 : World} (h : ES w2 gM n ls i vE hs wr) (hv : RowI wr (gM + 1) v (pc (ls.getD i []) n)) (hg : wr.grownBy w1 vE.ownBlock) (hr : w1.ownsRow (gM + 1) 23 1 v2 (i + 1) (hs ++ [v])) :
    ES w2 gM n ls (i + 1) v2 (hs ++ [v]) (w1.setCell ⟨gM, 2, none⟩ v2) := by
  have hgm := h.gm
  have hat : ∀ g, vE.ownBlock = some g → gM + 1 ≤ g := fun g e => (World.ownsRow.lt h.row g e).1
  have hel : ∀ (l : List Int) (v : Value), RowI wr (gM + 1) v l → RowI (w1.setCell ⟨gM, 2, none⟩ v2) (gM + 1) v l := fun l v hv => by
    have h1 : RowI w1 (gM + 1) v l := hv.same fun g e => hg.block g (hv.at e).2 fun e2 => row_type hv h.row (by decide) e e2.symm
    exact h1.far (by omega) _ _
  refine ⟨(h.lo.grown hg h.lo.size (fun b hb => by have := hat b hb; omega)).setCell (by show _ ≤ gM; omega) _, hgm, (h.bM.grown hg (fun e => by have := hat gM e.symm; omega)).set 2 v2, ?_, fun j x hx => ?_⟩
  · obtain ⟨e1, e2⟩ := hr
    refine ⟨e1, ?_⟩
    rcases e2 with e2 | ⟨g, cap, cur, e3, e4, e5, e6⟩
    · exact .inl e2
    · refine .inr ⟨g, cap, cur, e3, e4, ?_, e6⟩
      rw [Below.heap_setCell w1 ⟨gM, 2, none⟩ v2 g (by show g ≠ gM; omega)]
      exact e5
  · have hlen := h.len
    rcases Nat.lt_or_ge j hs.length with hl | hl
    · rw [List.getElem?_append_left hl] at hx
      exact hel _ _ (h.el j x hx)
    · rw [List.getElem?_append_right hl] at hx
      have : j = i := by
        have := (List.getElem?_eq_some_iff.1 hx).1
        simp at this
        omega
      subst this
      rw [hlen, Nat.sub_self] at hx
      simp at hx
      subst hx
      exact hel _ _ hv
theorem RowI.l1 {w : World} {B : Nat} {v : Value} {l : List Int} (h : RowI w B v l) (hl : l.length ≤ 1000000) (hi : ∀ x ∈ l, In64 x) : ∃ A n c, v = .slice A n c ∧ L1 w A n c l := by
  obtain ⟨A, n, c, hv, h1, h2, h3⟩ := h.il hl
  exact ⟨A, n, c, hv, h1, by omega, hi, h3⟩
theorem ES.l2 {w2 : World} {gM n : Nat} {ls : List (List Int)} {vE : Value} {hs : List Value} {wr : World} (h : ES w2 gM n ls n vE hs wr) (hn : n ≤ 64) : ∃ A c, vE = .slice A n c ∧ L2 wr A n c (mE ls n) := by
  have h0 := h.row
  have hlen := h.len
  rcases h.row.2 with ⟨h1, h2⟩ | ⟨g, cap, cur, rfl, h3, h4, h5⟩
  · exact ⟨none, 0, by rw [h1, h2], mE_len _ _, by omega, .inl h2⟩
  · refine ⟨_, _, rfl, mE_len _ _, by omega, .inr ⟨g, 0, rfl, (World.ownsRow.lt h0 g rfl).2, fun j l hj => ?_⟩⟩
    have hjl : j < n := by have := (List.getElem?_eq_some_iff.1 hj).1; rw [mE_len] at this; exact this
    rw [mE_get hjl] at hj
    injection hj with hj
    subst hj
    have hv : hs[j]? = some hs[j] := List.getElem?_eq_getElem (by omega)
    obtain ⟨A', n', c', e1, e2⟩ := (h.el j _ hv).l1 (by have := pc_len (ls.getD j []) n; omega) (fun x hx => by
      unfold pc at hx
      obtain ⟨y, hy, rfl⟩ := List.mem_map.1 hx
      have := (pcN_mem.1 hy).1
      unfold In64
      omega)
    refine ⟨A', n', c', ?_, e2⟩
    have h7 := World.ownsRow.cells h0 (g := g) rfl j _ hv
    rw [show (⟨g, 0, none⟩ : Addr).add j = ⟨g, 0 + j, none⟩ from by unfold Addr.add; split <;> simp_all] at h7
    rw [h7, e1]
theorem OL.cell {w : World} {A : Option Addr} {n c : Nat} {out : List (List Int)} (h : OL w A n c out) {j : Nat} (hj : j < n) : ∃ g o l A' n' c', A = some ⟨g, o, none⟩ ∧ out[j]? = some l ∧ w.cell? ⟨g, o + j, none⟩ = some (.slice A' n' c') ∧ IL w A' n' c' l := by
  obtain ⟨h1, h2, h4⟩ := h
  rcases h4 with h4 | ⟨g, o, rfl, hg, hc⟩
  · omega
  · have e : out[j]? = some out[j] := List.getElem?_eq_getElem (by omega)
    obtain ⟨A', n', c', h5, h6⟩ := hc j _ e
    exact ⟨g, o, _, A', n', c', rfl, e, h5, h6⟩

set_option maxRecDepth 100000 in
set_option maxHeartbeats 4000000 in
theorem law13_MatchPerfect (A : Option Addr) (n c : Nat) (ls : List (List Int)) (most : Int) (w : World) (hL : L2 w A n c ls) (hm : In64 most) :
    Calls Try.prog 5 #[.slice A n c, .int .i64 most] w fun e w' => e = .returned (.bool true) ∧ Below w.heap.size w w' := by
  have hW := Lib.hid (m_weight A n c ls w hL)
  have hL' := Lib.hid hL
  obtain ⟨i0, hi0, hz0, hz1, hz2⟩ := info_parts infoI
  obtain ⟨j0, hj0, yz0, yz1, yz2⟩ := info_parts infoS
  have hcases : (isT ls = false ∧ weightS ls = (0, [], 1)) ∨ (isT ls = true ∧ ∃ best er xs, weightS ls = (best, xs, er) ∧ ((er = 4 ∧ heavy ls ls.length 0 < 0 ∧ best = 0) ∨ (er = 0 ∧ 0 ≤ heavy ls ls.length 0 ∧ best = heavy ls ls.length 0))) := by
    rcases ws_cases ls with h | ⟨h1, h2, h3⟩ | ⟨h1, h2, h3⟩
    · exact .inl h
    · exact .inr ⟨h1, _, _, _, h3, .inl ⟨rfl, h2, rfl⟩⟩
    · exact .inr ⟨h1, _, _, _, h3, .inr ⟨rfl, h2, rfl⟩⟩
  rcases hcases with ⟨hT, hws⟩ | ⟨hT, best, er, xs, hws, hbe⟩
  · have hws' := Lib.hid hws
    clear hws hT hL
    go_enter Try.func5, Try.ntmps5
    go_wp2_with (first
      | (go_at_call 9; (with_reducible refine hW.out.mono ?_); rintro e w2 ⟨A1, n1, c1, sum, zs, er1, rfl, hil, hws, hb⟩; obtain ⟨rfl, rfl, rfl⟩ := ws_eq hws'.out hws; have hb5 := Lib.hid hb)
      | (go_at_call 14; refine (law13_known _).mono ?_; rintro e w9 ⟨rfl, hb9⟩; have hb9' := Lib.hid (hb5.out.trans (hb9.mono hb5.out.size))))
    go_ret
    exact ⟨rfl, hb9'.out⟩
  · have hws' := Lib.hid hws
    have hT' := Lib.hid hT
    have hbe' := Lib.hid hbe
    obtain ⟨t1, t2, -⟩ := isT_of hT
    have hln := hL.1
    rw [hln] at t1 t2
    have hln' := Lib.hid hln
    obtain ⟨gA, oA, -, -, -, -, rfl, -⟩ := hL.cell (j := 0) (by omega)
    have hVb : Hid (∀ i k, i < n → k < n → -1 ≤ Wt ls i k ∧ Wt ls i k ≤ 3) := fun i k hi hk => (Wt_get hT (by omega) (by omega)).2
    have hbb : 0 ≤ best ∧ best ≤ 30 := by
      rcases hbe with ⟨-, -, rfl⟩ | ⟨-, h, rfl⟩
      · omega
      · have := (heavy_bd (ls := ls) (fun l hl x hx => ((isT_of hT).2.2 l hl).2 x hx |>.2) ls.length 0).2
        omega
    clear hws hT hbe hL hln
    go_enter Try.func5, Try.ntmps5
    go_upto_region 2 with (go_at_call 9; (with_reducible refine hW.out.mono ?_); rintro e w2 ⟨A1, n1, c1, sum, zs, er1, rfl, hil, hws, hb⟩; obtain ⟨rfl, rfl, rfl⟩ := ws_eq hws'.out hws)
    have hb2 := Lib.hid hb
    have hL2 := Lib.hid (hL'.out.below hb (Nat.le_refl _))
    clear hb hW hil hws hL' hws'
    go_cut [33] from 28 to 33 (fun v33 wc => wc = w2 ∧ v33 = .bool false)
    case first =>
      rcases hbe'.out with ⟨rfl, -, -⟩ | ⟨rfl, -, -⟩
      · go_wp2_with fail
        go_meet
        exact ⟨rfl, rfl⟩
      · go_wp2_with fail
        go_meet
        exact ⟨rfl, rfl⟩
    case rest =>
      obtain ⟨rfl, rfl⟩ := hcut
      have hs0 : Hid (ES wc wc.heap.size n ls 0 (.slice none 0 0) [] (wc.alloc (.cells #[.int .i64 (n : Int), .int .i64 (n : Int), .slice none 0 0] 33))) := ⟨(Below.refl _ _).alloc (Nat.le_refl _) _, rfl, Blk.new _ _ _, World.ownsRow_nil _ _ _ _, fun j h hj => by simp at hj⟩
      go_upto_region 6 with fail
      obtain ⟨gM, hgM⟩ : ∃ gM, gM = wc.heap.size := ⟨_, rfl⟩
      obtain ⟨w4, hw4⟩ : ∃ w4, w4 = wc.alloc (.cells #[.int .i64 (n : Int), .int .i64 (n : Int), .slice none 0 0] 33) := ⟨_, rfl⟩
      rw [← hw4] at hs0 ⊢
      rw [← hgM] at hs0 ⊢
      clear hgM hw4
      go_loopw [42] (fun v42 wr => ∃ (i : Nat) (vE : Value) (hs : List Value), i ≤ n ∧ v42 = .int .i64 (i : Int) ∧ Hid (ES wc gM n ls i vE hs wr)) (fun i _ => n - (intOf i).toNat)
      case atStart => exact ⟨0, _, [], by omega, rfl, hs0⟩
      case round =>
        clear hs0
        obtain ⟨i, vE, hs, hi, rfl, hE⟩ := hrel
        by_cases hlt : i < n
        · have hiR : (i : Int) < (n : Int) := by omega
          obtain ⟨gl, ol, cl, htr⟩ := tabrow hL2.out hT'.out hln'.out hlt
          have cw0 := (htr wr hE.out.lo).1
          obtain ⟨l, hl, hlg, hll, hlx⟩ := isT_row hT'.out (i := i) (by rw [hln'.out]; exact hlt)
          have hlg' : Hid (ls.getD i [] = l) := hlg
          have htr' := Lib.hid htr
          have hst : Hid (RowI wr (gM + 1) (.slice none 0 0) (pc l 0)) := RowI.nil _ _
          have hWl : Hid (∀ k, k < n → l.getD k 0 = Wt ls i k) := fun k hk => by unfold Wt; rw [hlg'.out]
          obtain ⟨gs, hgs0⟩ : ∃ gs, gs = wr.heap.size := ⟨_, rfl⟩
          have hold : Hid (∀ v ∈ hs, ∀ g, v.ownBlock = some g → g < gs) := fun v hv g hg => by rw [hgs0]; exact (hE.out.elAt hv hg).2
          have hgs1 : gs ≤ wr.heap.size := by omega
          clear htr hl hlg hll hlx hgs0
          go_upto_region 10 with fail
          clear cw0
          go_loopw [10, 50] (fun v10 v50 w5 => ∃ k : Nat, k ≤ n ∧ v50 = .int .i64 (k : Int) ∧ Hid (RowI w5 (gM + 1) v10 (pc l k)) ∧ Hid (ES wc gM n ls i vE hs w5) ∧ Hid (∀ g, v10.ownBlock = some g → gs ≤ g) ∧ Hid (gs ≤ w5.heap.size)) (fun _ k _ => n - (intOf k).toNat)
          case atStart => exact ⟨0, by omega, rfl, hst, hE, (fun g h => by cases h), hgs1⟩
          case round =>
            clear hst
            obtain ⟨k, hk, rfl, hr, hE2, hnew, hsz⟩ := hrel
            by_cases hkn : k < n
            · have hkR : (k : Int) < (n : Int) := by omega
              have cx := (htr'.out _ hE2.out.lo).2 k hkn
              have hps := pc_succ l k
              rw [hWl.out k hkn] at hps
              have hpl := pc_len l k
              have hgs := hE2.out.lo.size
              obtain ⟨V, hV⟩ : ∃ V, V = Wt ls i k := ⟨_, rfl⟩
              rw [← hV] at cx hps
              clear hV
              by_cases h0 : 0 ≤ V
              · have h0' : decide (0 ≤ V) = true := by simpa using h0
                rw [if_pos h0] at hps
                have hps' := Lib.hid hps
                clear hps
                go_wp2_with (at_builtin; refine wpList_append_own_at _ rfl _ _ 23 rfl (gM + 1) 3 i0 (.int .i64 0) 1 8 Try.underlying23 hi0 hz0 hz1 hz2 rfl (by decide) u10 (pc l k).length (vz (pc l k)) rfl (hr.out.more _) ⟨wr.heap.size, 0, none⟩ 1 1 [.int .i64 (k : Int)] rfl rfl (cell_one_new _ _ _) (by intro u hu; simp at hu; subst hu; rfl) (by unfold maxLen; omega) (by omega) (by simp; have := hE2.out.bM.lt; omega) ?_; intro v' w6 hRow6 hgr6 hnil6 hat6)
                have hr6 : Hid (RowI w6 (gM + 1) v' (pc l (k + 1))) := by
                  show RowI _ _ _ _
                  unfold RowI
                  rw [hps'.out, vz_snoc]
                  simpa using hRow6
                have hb0 : Below wr.heap.size wr (wr.alloc (.cells #[.int .i64 (k : Int)] 3)) := (Below.refl _ _).alloc (Nat.le_refl _) _
                have hEa := hE2.out.call hb0
                have hra := hr.out.call hb0
                have hE6 : Hid (ES wc gM n ls i vE hs w6) := hEa.fr (Fr.grown hgr6) (fun x hx => (hra.at (mem_obs.1 hx)).1) (fun x hx => row_type hra hEa.row (by decide) (mem_obs.1 hx)) (fun v hv x hx e => by
                  have h1 := hold.out v hv x e
                  have h2 := hnew.out x (mem_obs.1 hx)
                  omega)
                have hnew6 : Hid (∀ g, v'.ownBlock = some g → gs ≤ g) := fun g hg => by
                  rcases hat6 with h | h
                  · exact hnew.out g (h ▸ hg)
                  · rw [h] at hg
                    injection hg with hg
                    have h1 := hsz.out
                    have h2 := hb0.size
                    rw [← hg]
                    exact Nat.le_trans h1 h2
                have hsz6 : Hid (gs ≤ w6.heap.size) := Nat.le_trans hsz.out (Nat.le_trans hb0.size hgr6.size)
                go_roundw
                case rel => exact ⟨k + 1, by omega, by go_num, hr6, hE6, hnew6, hsz6⟩
                case measure => simp [intOf]; omega
              · have h0' : decide (0 ≤ V) = false := by simpa using h0
                rw [if_neg h0, List.append_nil] at hps
                have hps' := Lib.hid hps
                clear hps
                go_wp2_with fail
                go_roundw
                case rel => exact ⟨k + 1, by omega, by go_num, by rw [hps'.out]; exact hr, hE2, hnew, hsz⟩
                case measure => simp [intOf]; omega
            · have hkn' : n = k := by omega
              subst hkn'
              obtain ⟨A', c', rfl⟩ := hr.out.form
              obtain ⟨AE, cE, hvE⟩ : ∃ AE cE, vE = .slice AE i cE := by
                rcases hE2.out.row.2 with ⟨h1, h2⟩ | ⟨g, cap, cur, h1, -⟩
                · exact ⟨none, 0, by rw [h1, h2]⟩
                · exact ⟨_, _, h1⟩
              subst hvE
              have hpl := pc_len l n
              have hb0 : Below wr.heap.size wr (wr.alloc (.cells #[.slice A' (pc l n).length c'] 23)) := (Below.refl _ _).alloc (Nat.le_refl _) _
              have hEa := Lib.hid (hE2.out.call hb0)
              have hra := Lib.hid (hr.out.call hb0)
              obtain ⟨m0, m1, m2⟩ := cells3 hE2.out.bM
              obtain ⟨x0, x1, x2⟩ := cells3 hEa.out.bM
              go_wp2_with (at_builtin; refine wpList_append_lies _ rfl _ _ 22 rfl (gM + 1) 23 j0 (.slice none 0 0) 1 24 Try.underlying22 hj0 yz0 yz1 yz2 rfl (by decide) (.slice AE i cE) i hs rfl hEa.out.row ⟨wr.heap.size, 0, none⟩ 1 1 [.slice A' (pc l n).length c'] rfl rfl (cell_one_new _ _ _) (by intro u hu; simp at hu; rw [hu]; rfl) (by omega) (by unfold maxLen; omega) (by omega) (by have := hEa.out.bM.lt; omega) _ rfl ?_; intro g2 cap2 w6 hRow6 hgr6 hat6 hlt6; have hne6 : some gM ≠ (Value.slice AE i cE).ownBlock := (fun e => by have := (World.ownsRow.lt hEa.out.row gM e.symm).1; omega); have hbM6 := hEa.out.bM.grown hgr6 hne6; obtain ⟨n0, n1, n2⟩ := cells3 hbM6; have fM6 := hbM6.frozen 2)
              have hEp := Lib.hid (hEa.out.push (v := .slice A' (pc l n).length c') (v2 := .slice (some ⟨g2, 0, none⟩) (i + 1) cap2) (w1 := w6) (by rw [hlg'.out]; exact hra.out) hgr6 hRow6)
              go_roundw
              case rel => exact ⟨i + 1, _, hs ++ [.slice A' (pc l n).length c'], by omega, by go_num, hEp⟩
              case measure => simp [intOf]; omega
        · have hin' : n = i := by omega
          subst hin'
          obtain ⟨AE, cE, rfl, hL3⟩ := hE.out.l2 (by omega)
          have hPf := Lib.hid (m_perfect (n : Int) (n : Int) AE n cE (mE ls n) most wr hL3 (by unfold In64; omega) (by unfold In64; omega) hm)
          obtain ⟨m0, m1, m2⟩ := cells3 hE.out.bM
          have hb3 := Lib.hid (hb2.out.trans (hE.out.lo.mono hb2.out.size))
          have hL4 := Lib.hid (hL2.out.below hE.out.lo (Nat.le_refl _))
          clear hE hL3
          go_upto_region 18 with (go_at_call 15; (with_reducible refine hPf.out.mono ?_); rintro e w5 ⟨A5, n5, c5, out, more, er2, rfl, hol, hps, hb5⟩)
          have hb6 := Lib.hid (hb3.out.trans (hb5.mono hb3.out.size))
          have hL5 := Lib.hid (hL4.out.below hb5 (Nat.le_refl _))
          clear hb5 hPf hL4 hb3 m0 m1 m2 hL2 hb2
          by_cases he2 : er2 = 0
          · subst he2
            have hlaw : LawP ls most.toNat out more := perf_law hT'.out (by rw [hln'.out]; exact hps.out)
            have hn5 := hol.1
            have hlaw' := Lib.hid hlaw
            have hol' := Lib.hid hol
            clear hlaw hol
            go_upto_region 20 with fail
            go_cut [84] from 79 to 84 (fun v84 wc => wc = w5 ∧ v84 = .bool false)
            case first =>
              rcases hbe'.out with ⟨rfl, hneg, -⟩ | ⟨rfl, hpos, -⟩
              · have e := hlaw'.out.none hneg
                subst e
                have e5 : 0 = n5 := by simpa using hn5
                subst e5
                clear hn5 hneg
                go_wp2_with fail
                go_meet
                exact ⟨rfl, rfl⟩
              · have e := hlaw'.out.some hpos
                have e5 : ((n5 : Int) == 0) = false := by
                  have : 0 < out.length := List.length_pos_iff.2 e
                  simp
                  omega
                clear hn5 hpos e
                go_wp2_with fail
                go_meet
                exact ⟨rfl, rfl⟩
            case rest =>
              obtain ⟨rfl, rfl⟩ := hcut
              have hall : Hid (∀ p ∈ out, PM1 ls n p) := by have := hlaw'.out.all; rwa [hln'.out] at this
              have hle : Hid (∀ p ∈ out, sumP ls p n ≤ sum) := fun p hp => by
                rcases hbe'.out with ⟨-, hneg, -⟩ | ⟨-, -, e⟩
                · rw [hlaw'.out.none hneg] at hp
                  cases hp
                · have := (hall.out p hp).sum
                  rw [e, hln'.out]
                  exact this
              obtain ⟨f, hf⟩ : ∃ f : Nat → Int, f = fun j => sumP ls (out.getD j []) n := ⟨_, rfl⟩
              have hfj : Hid (∀ j p, out[j]? = some p → f j = sumP ls p n) := fun j p hj => by rw [hf]; show sumP ls (out.getD j []) n = _; rw [List.getD_eq_getElem?_getD, hj]; rfl
              have htop : Hid (more = false → er1 = 0 → topF f n5 = sum) := fun hmo he => by
                rcases hbe'.out with ⟨e, -, -⟩ | ⟨-, hpos, e⟩
                · omega
                · have h1 := hlaw'.out.top hpos hmo
                  rw [e, hln'.out] at *
                  rw [hln'.out] at h1
                  rw [← hn5, hf]
                  exact h1
              have hn1000 : n5 ≤ 1000 := by have := hlaw'.out.len; omega
              have htb : Hid (∀ j, j ≤ n5 → -1 ≤ topF f j ∧ topF f j ≤ 30) := fun j hj => topF_le (by omega) (fun x hx => by
                have hx2 : out[x]? = some out[x] := List.getElem?_eq_getElem (by omega)
                rw [hfj.out x _ hx2]
                have := hle.out _ (List.mem_of_getElem? hx2)
                omega)
              have hlast : Hid (er1 = 4 ∨ er1 = 0) := by rcases hbe'.out with ⟨h, -⟩ | ⟨h, -⟩; exact .inl h; exact .inr h
              clear hf hn5
              go_wp2_with fail
              go_loopw [16, 87] (fun v16 v87 wr => wc = wr ∧ ∃ j : Nat, j ≤ n5 ∧ v87 = .int .i64 (j : Int) ∧ v16 = .int .i64 (topF f j)) (fun _ j _ => n5 - (intOf j).toNat)
              case atStart => exact ⟨rfl, 0, by omega, rfl, rfl⟩
              case round =>
                obtain ⟨rfl, j, hj, rfl, rfl⟩ := hrel
                by_cases hjn : j < n5
                · obtain ⟨gO, oO, p, A', n', c', rfl, hp, hcO, hil⟩ := hol'.out.cell hjn
                  have hpm := Lib.hid (hall.out p (List.mem_of_getElem? hp))
                  have hps := Lib.hid (hle.out p (List.mem_of_getElem? hp))
                  have hfp := Lib.hid (hfj.out j p hp)
                  have hn' : n = n' := by rw [← hil.1]; exact hpm.out.len.symm
                  subst hn'
                  obtain ⟨gp, op, -, rfl, -, -, -⟩ := hil.cell (j := 0) (by omega)
                  have hil' := Lib.hid hil
                  have hjR : (j : Int) < (n5 : Int) := by omega
                  have hsb := Lib.hid hpm.out.bd
                  have htj := htb.out j hj
                  clear hil hp
                  go_upto_region 28 with fail
                  go_loopw [19, 93] (fun v19 v93 wr => wc = wr ∧ ∃ i : Nat, i ≤ n ∧ v93 = .int .i64 (i : Int) ∧ v19 = .int .i64 (sumP ls p i)) (fun _ i _ => n - (intOf i).toNat)
                  case atStart => exact ⟨rfl, 0, by omega, rfl, rfl⟩
                  case round =>
                    clear hcO
                    obtain ⟨rfl, i, hi, rfl, rfl⟩ := hrel
                    by_cases hin : i < n
                    · obtain ⟨k, hk, hkn, h0, h3⟩ := hpm.out.val i hin
                      obtain ⟨g2, o2, x, hA2, hg2, hx, hcx⟩ := hil'.out.cell hin
                      obtain ⟨rfl, rfl⟩ : gp = g2 ∧ op = o2 := by simpa using hA2
                      rw [hk] at hx
                      obtain rfl : (k : Int) = x := by injection hx
                      obtain ⟨gl, ol, cl, cw1, cw2⟩ := tab hL5.out hT'.out hln'.out (Below.refl _ _) hin hkn
                      have hbi := hsb.out i hi
                      have hsn : Hid (sumP ls p (i + 1) = sumP ls p i + Wt ls i k) := by
                        show sumP ls p i + Wt ls i (p.getD i 0).toNat = _
                        rw [List.getD_eq_getElem?_getD, hk]
                        rfl
                      obtain ⟨V, hV⟩ : ∃ V, V = Wt ls i k := ⟨_, rfl⟩
                      rw [← hV] at cw2 h0 h3 hsn
                      obtain ⟨S, hS⟩ : ∃ S, S = sumP ls p i := ⟨_, rfl⟩
                      rw [← hS] at hbi hsn ⊢
                      have d1 : decide (n ≤ i) = false := decide_eq_false (by omega)
                      have d2 : decide ((k : Int) < 0) = false := decide_eq_false (by omega)
                      have d3 : decide (n ≤ k) = false := decide_eq_false (by omega)
                      have e1 : (i : Int) < (n : Int) := by omega
                      have e2 : (k : Int) < (n : Int) := by omega
                      have hwr : IntKind.i64.wrap (S + V) = S + V := by rw [IntKind.wrap_i64]; omega
                      clear hV hS hk hA2 hx
                      go_wp2_with fail
                      go_roundw
                      case rel => exact ⟨trivial, i + 1, by omega, by go_num, by rw [hsn.out]⟩
                      case measure => simp [intOf]; omega
                    · have hin' : n = i := by omega
                      subst hin'
                      have hsx := hsb.out n (Nat.le_refl _)
                      have hps2 := hps.out
                      have htn : Hid (topF f (j + 1) = max (topF f j) (sumP ls p n)) := by
                        show max (topF f j) (f j) = _
                        rw [hfp.out]
                      obtain ⟨S, hS⟩ : ∃ S, S = sumP ls p n := ⟨_, rfl⟩
                      rw [← hS] at hps2 htn hsx ⊢
                      have hd : decide (sum < S) = false := decide_eq_false (by omega)
                      clear hS
                      go_wp2_with fail
                      go_roundw
                      case rel => exact ⟨trivial, j + 1, by omega, by go_num, by rw [htn.out]⟩
                      case measure => simp [intOf]; omega
                · have hjn' : n5 = j := by omega
                  subst hjn'
                  have hfin : ∀ (W : World), W = W → True := fun _ _ => trivial
                  cases more with
                  | true =>
                    go_wp2_with (go_at_call 14; refine (law13_known _).mono ?_; rintro e w9 ⟨rfl, hb9⟩; have hb9' := Lib.hid (hb6.out.trans (hb9.mono hb6.out.size)))
                    go_ret
                    exact ⟨rfl, hb9'.out⟩
                  | false =>
                    rcases hlast.out with h4 | h4
                    · subst h4
                      go_wp2_with (go_at_call 14; refine (law13_known _).mono ?_; rintro e w9 ⟨rfl, hb9⟩; have hb9' := Lib.hid (hb6.out.trans (hb9.mono hb6.out.size)))
                      go_ret
                      exact ⟨rfl, hb9'.out⟩
                    · have ht := htop.out rfl h4
                      subst h4
                      rw [ht]
                      have hee : (sum == sum) = true := by simp
                      clear ht
                      go_wp2_with (go_at_call 14; refine (law13_known _).mono ?_; rintro e w9 ⟨rfl, hb9⟩; have hb9' := Lib.hid (hb6.out.trans (hb9.mono hb6.out.size)))
                      go_ret
                      exact ⟨rfl, hb9'.out⟩
          · have he2' : (er2 != 0) = true := by simpa using he2
            clear he2
            go_wp2_with (go_at_call 14; refine (law13_known _).mono ?_; rintro e w9 ⟨rfl, hb9⟩; have hb9' := Lib.hid (hb6.out.trans (hb9.mono hb6.out.size)))
            go_ret
            exact ⟨rfl, hb9'.out⟩

end Go.Proofs.Ytjbhnfejpgjghaa
