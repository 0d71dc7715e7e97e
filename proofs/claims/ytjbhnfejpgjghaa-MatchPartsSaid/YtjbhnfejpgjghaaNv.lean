/- The program's Weight. -/
import Derived.Test.YtjbhnfejpgjghaaNu
namespace Go.Proofs.Ytjbhnfejpgjghaa
open Go.RowKit Go.Maps
set_option linter.unusedSimpArgs false
set_option linter.unusedVariables false

theorem best_at {w0 : World} {A : Option Addr} {n c B : Nat} {ls : List (List Int)} (hL : L2 w0 A n c ls) (hT : isT ls = true) (hB : w0.heap.size ≤ B) (m i s s1 k0 : Nat) (f : Nat → Nat → Option Int) (w : World) (hi : i + m = n) (hs : s < 2 ^ n) (hk0 : k0 + ups m ≤ 1000000000000) (hk : BK ⟨w0, A, c, ls, B⟩ k0 f w) :
    Calls Try.prog 32 #[.slice A n c, .int .i64 (i : Int), .agg #[.int .u64 (s : Int), .int .u64 (s1 : Int)], .map (some B)] w (PB ⟨w0, A, c, ls, B⟩ k0 m w (heavy ls m s)) := by
  have hn := hL.1
  subst hn
  exact m_best ⟨w0, A, c, ls, B⟩ ⟨hL, hT, hB⟩ m i s s1 k0 f w hi hs hk0 hk

/-- what holds throughout -/
def WH (z : BT) (gU s kc : Nat) (v8 : Value) (xs : List Int) (wr : World) : Prop :=
  (∃ f, BK z kc f wr) ∧ Blk wr gU 55 #[.int .u64 (s : Int), .int .u64 0] ∧ RowI wr (gU + 1) v8 xs

theorem WH.call {z : BT} (hz : z.Fine) {gU s kc : Nat} {v8 : Value} {xs : List Int} {wr w' : World} (h : WH z gU s kc v8 xs wr) (hb : Below wr.heap.size wr w') : WH z gU s kc v8 xs w' := by
  obtain ⟨⟨f, h1⟩, h2, h3⟩ := h
  exact ⟨⟨f, BK.call hz h1 hb⟩, h2.call hb, h3.call hb⟩

theorem WH.best {z : BT} {gU s kc kc2 : Nat} {v8 : Value} {xs : List Int} {wr w' : World} (h : WH z gU s kc v8 xs wr) (hB : z.B < gU) (hf : Fr [z.B] wr w') {g : Nat → Nat → Option Int} (hk : BK z kc2 g w') : WH z gU s kc2 v8 xs w' :=
  ⟨⟨g, hk⟩, hf.blk h.2.1 (by simp; omega), h.2.2.fr hf (by simp; omega)⟩

theorem WH.grown {z : BT} (hz : z.Fine) {gU s kc cap g : Nat} {v8 : Value} {xs : List Int} {k : Int} {wr w' : World} (h : WH z gU s kc v8 xs wr) (hB : z.B < gU) (hg : wr.grownBy w' v8.ownBlock)
    (hr : w'.ownsRow (gU + 1) 3 1 (.slice (some ⟨g, 0, none⟩) (xs.length + 1) cap) (xs.length + 1) (vz xs ++ [.int .i64 k])) : WH z gU s kc (.slice (some ⟨g, 0, none⟩) (xs.length + 1) cap) (xs ++ [k]) w' := by
  obtain ⟨⟨f, b1, b2, b3⟩, h2, h3⟩ := h
  have hne : ∀ x, x < gU + 1 → some x ≠ v8.ownBlock := fun x hx e => by have := (h3.at e.symm).1; omega
  refine ⟨⟨f, b1.grown hg b1.size (fun b hb => ?_), b2.blk (hg.block _ b2.lt (hne _ (by omega))), b3⟩, h2.grown hg (hne _ (by omega)), ?_⟩
  · have := (h3.at hb).1; have := hz.2.2; omega
  · unfold RowI
    rw [vz_snoc]
    simpa using hr

theorem WH.put {z : BT} (hz : z.Fine) {gU s t kc : Nat} {v8 : Value} {xs : List Int} {wr : World} (h : WH z gU s kc v8 xs wr) (hB : z.B < gU) :
    WH z gU t kc v8 xs ((wr.setCell ⟨gU, 0, none⟩ (.int .u64 (t : Int))).setCell ⟨gU, 1, none⟩ (.int .u64 0)) := by
  obtain ⟨⟨f, b1, b2, b3⟩, h2, h3⟩ := h
  have hf : Fr [gU] wr ((wr.setCell ⟨gU, 0, none⟩ (.int .u64 (t : Int))).setCell ⟨gU, 1, none⟩ (.int .u64 0)) := ((Fr.refl _ _).set (by simp) _).set (by simp) _
  have hB2 := hz.2.2
  refine ⟨⟨f, ?_, b2.blk (hf.block _ b2.lt (by simp; omega)), b3⟩, h2.setP _ _, h3.fr hf (by simp)⟩
  exact (b1.setCell (p := ⟨gU, 0, none⟩) (by show _ ≤ gU; omega) _).setCell (p := ⟨gU, 1, none⟩) (by show _ ≤ gU; omega) _

/-- rows under way -/
def W1 (z : BT) (ls : List (List Int)) (n gU : Nat) (v8 v10 v30 : Value) (wr : World) : Prop :=
  ∃ i kc : Nat, i ≤ n ∧ v30 = .int .i64 (i : Int) ∧ v10 = .int .i64 (walkW ls i).2.2 ∧ kc ≤ 1111111111 * (1 + 10 * i) ∧ WH z gU (walkW ls i).2.1 kc v8 (walkW ls i).1 wr

/-- one row's columns under way -/
def W2 (z : BT) (ls : List (List Int)) (n gU i : Nat) (l : List Int) (xs : List Int) (s : Nat) (left : Int) (v8 v10 v38 : Value) (wr : World) : Prop :=
  ∃ k kc : Nat, k ≤ n ∧ v38 = .int .i64 (k : Int) ∧ v10 = .int .i64 left ∧ Hid (leastW ls s left (n - (i + 1)) 0 l = leastW ls s left (n - (i + 1)) k (l.drop k)) ∧ kc ≤ 1111111111 * (1 + 10 * i + k) ∧ WH z gU s kc v8 xs wr

set_option maxRecDepth 100000 in
set_option maxHeartbeats 1000000 in
theorem m_weight (A : Option Addr) (n c : Nat) (ls : List (List Int)) (w : World) (hL : L2 w A n c ls) :
    Calls Try.prog 9 #[.slice A n c] w (PWt ls w) := by
  have hu := Try.underlying55
  have hmm := @run_makeMap Try.prog
  have ho := m_orders A n c ls w hL
  obtain ⟨i0, hi0, hz0, hz1, hz2⟩ := info_parts infoI
  cases hT : isT ls with
  | false =>
    have hS : Hid (weightS ls = (0, [], 1)) := if_neg (by rw [hT]; simp)
    rw [oErr_no hT] at ho
    have ho' := Lib.hid ho
    unfold PWt
    obtain ⟨S, hS2⟩ : ∃ S, S = weightS ls := ⟨_, rfl⟩
    rw [← hS2] at hS ⊢
    clear hS2 hT ho
    go_enter Try.func9, Try.ntmps9
    go_wp2_with ((with_reducible refine ho'.out.mono ?_); rintro e w2 ⟨rfl, rfl⟩)
    go_ret3
    exact ⟨_, _, _, _, _, _, rfl, IL.nil _, hS, Below.refl _ _⟩
  | true =>
    rw [oErr_yes hT] at ho
    have hT' := Lib.hid hT
    obtain ⟨t1, t2, t3⟩ := isT_of hT
    have hln := hL.1
    rw [hln] at t1 t2
    have ht3 := Lib.hid t3
    clear t3
    obtain ⟨gA, oA, -, -, -, -, rfl, -⟩ := hL.cell (j := 0) (by omega)
    have hL' := Lib.hid hL
    have hz : (BT.mk w (some ⟨gA, oA, none⟩) c ls w.heap.size).Fine := ⟨by show L2 _ _ ls.length _ _; rw [hln]; exact hL, hT, Nat.le_refl _⟩
    have hz' := Lib.hid hz
    have hb0 : Below w.heap.size w (w.alloc (.map #[] 0)) := (Below.refl _ _).alloc (Nat.le_refl _) _
    have hK0 : BK ⟨w, some ⟨gA, oA, none⟩, c, ls, w.heap.size⟩ 0 (fun _ _ => none) (w.alloc (.map #[] 0)) := ⟨hb0, MM.new w, fun s i v _ _ h => by cases h⟩
    have hB00 : Calls Try.prog 32 #[.slice (some ⟨gA, oA, none⟩) n c, .int .i64 0, .agg #[.int .u64 0, .int .u64 0], .map (some w.heap.size)] (w.alloc (.map #[] 0)) (PB ⟨w, some ⟨gA, oA, none⟩, c, ls, w.heap.size⟩ 0 n (w.alloc (.map #[] 0)) (heavy ls n 0)) :=
      best_at hL hT (Nat.le_refl _) n 0 0 0 0 (fun _ _ => none) _ (by omega) (Nat.two_pow_pos _) (by have := ups_le n t2; omega) hK0
    have hB0 := Lib.hid hB00
    clear hB00
    have ho' := Lib.hid ho
    obtain ⟨sum, hsum⟩ : ∃ sum, sum = heavy ls n 0 := ⟨_, rfl⟩
    rw [← hsum] at hB0
    have hsb := heavy_bd (ls := ls) (fun l hl x hx => (ht3.out l hl).2 x hx |>.2) n 0
    rw [← hsum] at hsb
    clear hL hz hT ho hK0 hb0
    by_cases h0 : sum < 0
    · have hS : Hid (weightS ls = (0, [], 4)) := by show _ = _; unfold weightS; rw [if_pos hT'.out, hln, ← hsum, if_pos h0]
      unfold PWt
      obtain ⟨S, hS2⟩ : ∃ S, S = weightS ls := ⟨_, rfl⟩
      rw [← hS2] at hS ⊢
      have h0' : decide (sum < 0) = true := by simpa using h0
      clear hS2 hsum
      go_enter Try.func9, Try.ntmps9
      go_wp2_with (first
        | (go_at_call 31; (with_reducible refine ho'.out.mono ?_); rintro e w2 ⟨rfl, rfl⟩)
        | (go_at_call 32; (with_reducible refine hB0.out.mono ?_); rintro e w8 ⟨rfl, hF8, kc2, g2, hkc8, hK8⟩))
      go_ret3
      exact ⟨_, _, _, _, _, _, rfl, IL.nil _, hS, hK8.1⟩
    · have hS : Hid (weightS ls = (sum, (walkW ls n).1, 0)) := by show _ = _; unfold weightS; rw [if_pos hT'.out, hln, ← hsum, if_neg h0]
      have h0' : decide (sum < 0) = false := by simpa using h0
      have hbd : ∀ i, i ≤ n → 0 ≤ (walkW ls i).2.2 ∧ (walkW ls i).2.2 ≤ 30 ∧ (walkW ls i).2.1 < 2 ^ n ∧ (walkW ls i).1.length ≤ i := fun i hi => by
        have := walkW_bd hT'.out (by rw [hln, ← hsum]; omega) i (by omega)
        rwa [hln] at this
      have hbd' := Lib.hid hbd
      have hls0 : (walkW ls 0).2.2 = sum := by rw [hsum, ← hln]; rfl
      have hls0' := Lib.hid hls0
      have hups : ups n ≤ 1111111111 := ups_le n t2
      unfold PWt
      obtain ⟨S, hS2⟩ : ∃ S, S = weightS ls := ⟨_, rfl⟩
      rw [← hS2] at hS ⊢
      clear hS2 hsum hbd h0 hls0
      go_enter Try.func9, Try.ntmps9
      go_upto_region 10 with (first
        | (go_at_call 31; (with_reducible refine ho'.out.mono ?_); rintro e w2 ⟨rfl, rfl⟩)
        | (go_at_call 32; (with_reducible refine hB0.out.mono ?_); rintro e w8 ⟨rfl, hF8, kc2, g2, hkc8, hK8⟩))
      obtain ⟨gU, hgU⟩ : ∃ gU, gU = w8.heap.size := ⟨_, rfl⟩
      have hBU : w.heap.size < gU := by rw [hgU]; exact hK8.2.1.lt
      have hWH0 : WH ⟨w, some ⟨gA, oA, none⟩, c, ls, w.heap.size⟩ gU 0 kc2 (.slice none 0 0) [] (w8.alloc (.cells #[.int .u64 0, .int .u64 0] 55)) :=
        ⟨⟨g2, BK.call hz'.out hK8 ((Below.refl _ _).alloc (Nat.le_refl _) _)⟩, by rw [hgU]; exact Blk.new _ _ _, RowI.nil _ _⟩
      obtain ⟨w9, hw9⟩ : ∃ w9, w9 = w8.alloc (.cells #[.int .u64 0, .int .u64 0] 55) := ⟨_, rfl⟩
      rw [← hw9] at hWH0 ⊢
      rw [← hgU]
      have hst : W1 ⟨w, some ⟨gA, oA, none⟩, c, ls, w.heap.size⟩ ls n gU (.slice none 0 0) (.int .i64 sum) (.int .i64 0) w9 := ⟨0, kc2, by omega, rfl, by rw [hls0'.out], by omega, hWH0⟩
      clear hWH0 hw9 hgU hF8 hkc8 hK8 hB0 ho'
      go_wp2_with fail
      go_loopw [8, 10, 30] (fun v8 v10 v30 wr => W1 ⟨w, some ⟨gA, oA, none⟩, c, ls, w.heap.size⟩ ls n gU v8 v10 v30 wr) (fun _ _ i _ => n - (intOf i).toNat)
      case atStart => exact hst
      case round =>
        clear hst
        obtain ⟨i, kc, hi, rfl, rfl, hkc, hW⟩ := hrel
        by_cases hlt : i < n
        · obtain ⟨gl, ol, l, A', n', c', hAA, hgl, hl, hcl, hl1⟩ := (hL'.out.below hW.1.choose_spec.1 (Nat.le_refl _)).cell hlt
          obtain ⟨rfl, rfl⟩ : gA = gl ∧ oA = ol := by simpa using hAA
          have hlb := Lib.hid (ht3.out l (List.mem_of_getElem? hl))
          obtain rfl : n = n' := by rw [← hl1.1, hlb.out.1, hln]
          have hrow : Hid (ls.getD i [] = l) := by show _ = _; rw [List.getD_eq_getElem?_getD, hl]; rfl
          have hiR : (i : Int) < (n : Int) := by omega
          have hl1' : Hid (∀ wx : World, Below w.heap.size w wx → L1 wx A' n c' l) := fun wx hb => by
            obtain ⟨gB, oB, l2, A2, n2, c2', hA2, hgB, hl2, hcl2, hl12⟩ := hL'.out.cell hlt
            obtain ⟨rfl, rfl⟩ : gA = gB ∧ oA = oB := by simpa using hA2
            have h2 : wr.cell? ⟨gA, oA + i, none⟩ = some (.slice A2 n2 c2') := (hW.1.choose_spec.1.cell (p := ⟨gA, oA + i, none⟩) hgB).trans hcl2
            rw [hcl] at h2
            obtain ⟨rfl, rfl, rfl⟩ : A' = A2 ∧ n = n2 ∧ c' = c2' := by simpa using h2
            obtain rfl : l = l2 := by rw [hl] at hl2; injection hl2
            exact hl12.below hb (Nat.le_refl _)
          obtain ⟨xs, hxs⟩ : ∃ xs, xs = (walkW ls i).1 := ⟨_, rfl⟩
          obtain ⟨s, hs⟩ : ∃ s, s = (walkW ls i).2.1 := ⟨_, rfl⟩
          obtain ⟨left, hle⟩ : ∃ left, left = (walkW ls i).2.2 := ⟨_, rfl⟩
          obtain ⟨q1, q2, q3, q4⟩ := hbd'.out i hi
          have hwk : Hid (walkW ls i = (xs, s, left)) := by show _ = _; rw [hxs, hs, hle]
          rw [← hxs, ← hs] at hW
          rw [← hle] at q1 q2 ⊢
          rw [← hs] at q3
          rw [← hxs] at q4
          have hst2 : W2 ⟨w, some ⟨gA, oA, none⟩, c, ls, w.heap.size⟩ ls n gU i l xs s left u8 (.int .i64 left) (.int .i64 0) wr := ⟨0, kc, by omega, rfl, rfl, rfl, by omega, hW⟩
          have hs10 : s < 1024 := Nat.lt_of_lt_of_le q3 (by have : 2 ^ n ≤ 2 ^ 10 := Nat.pow_le_pow_right (by omega) t2; simpa using this)
          have hbst := fun (m s k0 : Nat) f w' h1 h2 h3 h4 => best_at hL'.out hT'.out (Nat.le_refl _) m (i + 1) s 0 k0 f w' h1 h2 h3 h4
          simp only [show ((i + 1 : Nat) : Int) = (i : Int) + 1 from by omega, show ((0 : Nat) : Int) = 0 from rfl] at hbst
          have hbst' := Lib.hid hbst
          clear hl hl1 hAA hkc hW hxs hs hle hbst
          go_wp2_with fail
          go_loopw [8, 10, 38] (fun v8 v10 v38 wr => W2 ⟨w, some ⟨gA, oA, none⟩, c, ls, w.heap.size⟩ ls n gU i l xs s left v8 v10 v38 wr) (fun _ _ k _ => n - (intOf k).toNat)
          case atStart => exact hst2
          case round =>
            clear hst2 hcl
            obtain ⟨k, kc, hk, rfl, rfl, hsc, hkc, hW⟩ := hrel
            by_cases hkn : k < n
            · obtain ⟨gl, ol, x, hAl, hgl, hx, hx64, hcx⟩ := (hl1'.out _ hW.1.choose_spec.1).cell hkn
              have hd : l.drop k = x :: l.drop (k + 1) := by
                have h1 := (List.getElem?_eq_some_iff.1 hx).1
                rw [List.drop_eq_getElem_cons h1]
                congr 1
                exact (List.getElem?_eq_some_iff.1 hx).2
              rw [hd] at hsc
              have hx3 := hlb.out.2 x (List.mem_of_getElem? hx)
              have hgx : Hid (l.getD k 0 = x) := by show _ = _; rw [List.getD_eq_getElem?_getD, hx]; rfl
              subst hAl
              have cU0 : wr.cell? ⟨gU, 0, none⟩ = some (.int .u64 (s : Int)) := hW.2.1.cell 0
              have cU1 : wr.cell? ⟨gU, 1, none⟩ = some (.int .u64 0) := hW.2.1.cell 1
              by_cases hx0 : x < 0
              · have hx0' : decide (x < 0) = true := by simpa using hx0
                have hsc2 : Hid (leastW ls s left (n - (i + 1)) 0 l = leastW ls s left (n - (i + 1)) (k + 1) (l.drop (k + 1))) := by
                  show _ = _
                  rw [hsc.out, leastW, if_pos (by rw [hx0']; rfl)]
                go_wp2_with fail
                exact ⟨⟨k + 1, kc, by omega, by go_num, rfl, hsc2, by omega, hW⟩, by simp [intOf]; omega⟩
              · have hx0' : decide (x < 0) = false := by simpa using hx0
                have hk64 : k < 64 := by omega
                have hs64 : s < 18446744073709551616 := by omega
                cases hb : s.testBit k with
                | true =>
                  have hsc2 : Hid (leastW ls s left (n - (i + 1)) 0 l = leastW ls s left (n - (i + 1)) (k + 1) (l.drop (k + 1))) := by
                    show _ = _
                    rw [hsc.out, leastW, if_pos (by rw [hb]; simp)]
                  go_wp2_with (first
                    | (go_at_call 33; refine (m_has s 0 k _ hk64 hs64).mono ?_; rintro e w6 ⟨rfl, hb6⟩; rw [hb]))
                  exact ⟨⟨k + 1, kc, by omega, by go_num, rfl, hsc2, by omega, hW.call hz'.out hb6⟩, by simp [intOf]; omega⟩
                | false =>
                  have ht : s ||| 2 ^ k < 2 ^ n := Nat.or_lt_two_pow q3 (Nat.pow_lt_pow_right (by omega) hkn)
                  have hmw := m_with s 0 k
                  simp only [show ((0 : Nat) : Int) = 0 from rfl] at hmw
                  obtain ⟨t, ht'⟩ : ∃ t, t = s ||| 2 ^ k := ⟨_, rfl⟩
                  have htt := Lib.hid ht'
                  rw [← ht'] at ht hmw
                  have hups : ups (n - (i + 1)) ≤ 1111111111 := ups_le _ (by omega)
                  have hI := fun w' f h => hbst'.out (n - (i + 1)) t kc f w' (by omega) ht (by omega) h
                  have hbt2 := heavy_bd (ls := ls) (fun l hl x hx => (ht3.out l hl).2 x hx |>.2) (n - (i + 1)) t
                  obtain ⟨rv, hrv⟩ : ∃ rv, rv = heavy ls (n - (i + 1)) t := ⟨_, rfl⟩
                  rw [← hrv] at hbt2
                  simp only [← hrv] at hI
                  have hI' := Lib.hid hI
                  have hmw' := Lib.hid hmw
                  have hrv' := Lib.hid hrv
                  clear hI hmw hrv ht'
                  have hno : ¬ (0 ≤ rv ∧ rv = left - x) → Hid (leastW ls s left (n - (i + 1)) 0 l = leastW ls s left (n - (i + 1)) (k + 1) (l.drop (k + 1))) := fun hc => by
                    show _ = _
                    rw [hsc.out, leastW, if_neg (by rw [hb, hx0']; simp), if_neg (by rw [← htt.out, ← hrv'.out]; exact hc)]
                  by_cases h0 : 0 ≤ rv
                  · have h0' : decide (0 ≤ rv) = true := by simpa using h0
                    by_cases he : rv = left - x
                    · have he' : (rv == left - x) = true := by simpa using he
                      have hsc2 : Hid (leastW ls s left (n - (i + 1)) 0 l = some k) := by
                        show _ = _
                        rw [hsc.out, leastW, if_neg (by rw [hb, hx0']; simp), if_pos (by rw [← htt.out, ← hrv'.out]; exact ⟨h0, he⟩)]
                      clear hno
                      have hwk2 : Hid (walkW ls (i + 1) = (xs ++ [(k : Int)], t, left - x)) := by
                        show _ = _
                        rw [walkW, hwk.out, hrow.out, hln, hsc2.out]
                        show (xs ++ [(k : Int)], s ||| 2 ^ k, left - l.getD k 0) = _
                        rw [← htt.out, hgx.out]
                      clear he
                      go_upto_region 20 with (first
                        | (go_at_call 33; refine (m_has s 0 k _ hk64 hs64).mono ?_; rintro e w6 ⟨rfl, hb6⟩; rw [hb]; have hW6 := hW.call hz'.out hb6; obtain ⟨q0, q5, -⟩ := blkP2 hW6.2.1)
                        | (go_at_call 34; refine (hmw'.out _ hk64 hs64).mono ?_; rintro e w7 ⟨rfl, hb7⟩; have hW7 := hW6.call hz'.out hb7; have hI7 := Lib.hid (hI'.out w7 _ hW7.1.choose_spec))
                        | (go_at_call 32; (with_reducible refine hI7.out.mono ?_); rintro e w8 ⟨rfl, hF8, kc2, g2, hkc8, hK8⟩; have hW8 := Lib.hid (hW7.best hBU hF8 hK8)))
                      have hSS : (fun w' : World => w'.cell? ⟨gU, 0, none⟩ = some (.int .u64 (s : Int)) ∧ w'.cell? ⟨gU, 1, none⟩ = some (.int .u64 0)) w8.drew := ⟨hW8.out.2.1.cell 0, hW8.out.2.1.cell 1⟩
                      have hwr : IntKind.i64.wrap (left - x) = left - x := by rw [IntKind.wrap_i64]; omega
                      refine wp_region_K (S := fun w' : World => w'.cell? ⟨gU, 0, none⟩ = some (.int .u64 (s : Int)) ∧ w'.cell? ⟨gU, 1, none⟩ = some (.int .u64 0)) (K := [11]) (by kernel_rfl) ?_
                      refine AnyK.takeFree (i := 0) (v := u8) rfl (by kernel_rfl) (by kernel_rfl) (by kernel_rfl) (by kernel_rfl) (fun _ _ _ h => h) (Or.inl ⟨by rfl, ?_⟩) hSS ?_
                      · rintro w' -
                        go_simp
                      (try simp only [Act.put, List.setIfInBounds_toArray, List.set_cons_zero, List.set_cons_succ])
                      refine AnyK.takeFree (i := 1) (v := .int .i64 (k : Int)) rfl (by kernel_rfl) (by kernel_rfl) (by kernel_rfl) (by kernel_rfl) (fun _ _ _ h => h) (Or.inl ⟨by rfl, ?_⟩) hSS ?_
                      · rintro w' -
                        go_simp
                      (try simp only [Act.put, List.setIfInBounds_toArray, List.set_cons_zero, List.set_cons_succ])
                      refine AnyK.take (i := 4) (v := .agg #[.int .u64 (s : Int), .int .u64 0]) rfl (by kernel_rfl) (by kernel_rfl) (by kernel_rfl) (by kernel_rfl) (by kernel_rfl) (by kernel_rfl) (fun _ _ _ h => h) (Or.inl ⟨by rfl, ?_⟩) hSS ?_
                      · rintro w' ⟨a0, a1⟩
                        go_simp
                      (try simp only [Act.put, List.setIfInBounds_toArray, List.set_cons_zero, List.set_cons_succ])
                      refine AnyK.takeFree (i := 5) (v := .int .i64 (k : Int)) rfl (by kernel_rfl) (by kernel_rfl) (by kernel_rfl) (by kernel_rfl) (fun _ _ _ h => h) (Or.inl ⟨by rfl, ?_⟩) hSS ?_
                      · rintro w' -
                        go_simp
                      (try simp only [Act.put, List.setIfInBounds_toArray, List.set_cons_zero, List.set_cons_succ])
                      refine AnyK.takeFree (i := 7) (v := .int .i64 left) rfl (by kernel_rfl) (by kernel_rfl) (by kernel_rfl) (by kernel_rfl) (fun _ _ _ h => h) (Or.inl ⟨by rfl, ?_⟩) hSS ?_
                      · rintro w' -
                        go_simp
                      (try simp only [Act.put, List.setIfInBounds_toArray, List.set_cons_zero, List.set_cons_succ])
                      refine AnyK.takeFree (i := 8) (v := .int .i64 x) rfl (by kernel_rfl) (by kernel_rfl) (by kernel_rfl) (by kernel_rfl) (fun _ _ _ h => h) (Or.inl ⟨by rfl, ?_⟩) hSS ?_
                      · rintro w' -
                        go_simp
                      (try simp only [Act.put, List.setIfInBounds_toArray, List.set_cons_zero, List.set_cons_succ])
                      refine AnyK.takeFree (i := 9) (v := .int .i64 (left - x)) rfl (by kernel_rfl) (by kernel_rfl) (by kernel_rfl) (by kernel_rfl) (fun _ _ _ h => h) (Or.inl ⟨by rfl, ?_⟩) hSS ?_
                      · rintro w' -
                        go_simp
                      (try simp only [Act.put, List.setIfInBounds_toArray, List.set_cons_zero, List.set_cons_succ])
                      refine AnyK.one (i := 2) (by kernel_rfl) rfl (fun K' hK => ?_)
                      go_simp
                      have hW9 := Lib.hid (hW8.out.call hz'.out ((Below.refl _ _).alloc (Nat.le_refl _) (.cells #[.int .i64 (k : Int)] 3)).drew)
                      refine hK.out _ _ (fun _ => ⟨hW9.out.2.1.cell 0, hW9.out.2.1.cell 1⟩) ?_
                      clear hK hSS
                      (try simp only [Act.put, List.setIfInBounds_toArray, List.set_cons_zero, List.set_cons_succ])
                      refine AnyK.one (i := 3) (by kernel_rfl) rfl (fun K' hK => ?_)
                      have hgUl : gU < (w8.alloc (.cells #[.int .i64 (k : Int)] 3)).drew.heap.size := hW9.out.2.1.lt
                      refine step_append_lies _ (by rfl) _ _ 23 (by rfl) (gU + 1) 3 i0 (.int .i64 0) 1 8 Try.underlying23 hi0 hz0 hz1 hz2 (by rfl) (by decide) u8 xs.length (vz xs) (by rfl) hW9.out.2.2 ⟨w8.heap.size, 0, none⟩ 1 1 [.int .i64 (k : Int)] (by rfl) (by rfl) (cell_one_new _ _ _) (by intro u hu; simp at hu; subst hu; rfl) (by omega) (by unfold maxLen; omega) (by omega) (by exact hgUl) _ rfl ?_
                      intro g cap w10 hown hgr hat hlt10
                      go_simp
                      have hWa := Lib.hid (WH.grown (k := (k : Int)) hz'.out hW9.out hBU hgr hown)
                      clear hown hgr hat
                      obtain ⟨v8, hv8⟩ : ∃ v8, v8 = Value.slice (some ⟨g, 0, none⟩) (xs.length + 1) cap := ⟨_, rfl⟩
                      rw [← hv8] at hWa ⊢
                      clear hv8
                      refine hK.out _ _ (fun _ => ⟨hWa.out.2.1.cell 0, hWa.out.2.1.cell 1⟩) ?_
                      clear hK
                      (try simp only [Act.put, List.setIfInBounds_toArray, List.set_cons_zero, List.set_cons_succ])
                      refine AnyK.one (i := 6) (by kernel_rfl) rfl (fun K' hK => ?_)
                      go_simp
                      refine (hmw'.out _ hk64 hs64).mono ?_
                      rintro e w11 ⟨rfl, hb11⟩
                      have hWb := Lib.hid (hWa.out.call hz'.out hb11)
                      refine hK.out _ _ (fun _ => ⟨hWb.out.2.1.cell 0, hWb.out.2.1.cell 1⟩) ?_
                      clear hK
                      (try simp only [Act.put, List.setIfInBounds_toArray, List.set_cons_zero, List.set_cons_succ])
                      refine AnyK.one (i := 10) (by kernel_rfl) rfl (fun K' hK => ?_)
                      go_simp
                      refine hK.out _ _ (fun _ => ⟨hWb.out.2.1.cell 0, hWb.out.2.1.cell 1⟩) ?_
                      clear hK
                      (try simp only [Act.put, List.setIfInBounds_toArray, List.set_cons_zero, List.set_cons_succ])
                      obtain ⟨y0, y1, y2, y3, y4, y5⟩ := blkP hWb.out.2.1
                      refine AnyK.one (i := 11) (by kernel_rfl) rfl (fun K' hK => ?_)
                      go_simp
                      refine hK.out _ _ (fun h => absurd h (Bool.eq_false_iff.1 (by kernel_rfl))) ?_
                      clear hK
                      (try simp only [Act.put, List.setIfInBounds_toArray, List.set_cons_zero, List.set_cons_succ])
                      refine AnyK.one (i := 12) (by kernel_rfl) rfl (fun K' hK => ?_)
                      go_simp
                      refine hK.out _ _ (fun h => absurd h (Bool.eq_false_iff.1 (by kernel_rfl))) ?_
                      clear hK
                      (try simp only [Act.put, List.setIfInBounds_toArray, List.set_cons_zero, List.set_cons_succ])
                      refine AnyK.done (by kernel_rfl) ?_ _
                      go_wp2_with fail
                      exact ⟨⟨i + 1, kc2, by omega, by go_num, by rw [hwk2.out], by omega, by rw [hwk2.out]; exact hWb.out.put hz'.out hBU⟩, by simp [intOf]; omega⟩
                    · have he' : (rv == left - x) = false := by simpa using he
                      have hsc2 := hno (fun h => he h.2)
                      clear hno he
                      go_wp2_with (first
                      | (go_at_call 33; refine (m_has s 0 k _ hk64 hs64).mono ?_; rintro e w6 ⟨rfl, hb6⟩; rw [hb]; have hW6 := hW.call hz'.out hb6; obtain ⟨q0, q5, -⟩ := blkP2 hW6.2.1)
                      | (go_at_call 34; refine (hmw'.out _ hk64 hs64).mono ?_; rintro e w7 ⟨rfl, hb7⟩; have hW7 := hW6.call hz'.out hb7; have hI7 := Lib.hid (hI'.out w7 _ hW7.1.choose_spec))
                      | (go_at_call 32; (with_reducible refine hI7.out.mono ?_); rintro e w8 ⟨rfl, hF8, kc2, g2, hkc8, hK8⟩; have hW8 := Lib.hid (hW7.best hBU hF8 hK8)))
                      exact ⟨⟨k + 1, kc2, by omega, by go_num, rfl, hsc2, by omega, hW8.out⟩, by simp [intOf]; omega⟩
                  · have h0' : decide (0 ≤ rv) = false := by simpa using h0
                    have hsc2 := hno (fun h => h0 h.1)
                    clear hno
                    go_wp2_with (first
                      | (go_at_call 33; refine (m_has s 0 k _ hk64 hs64).mono ?_; rintro e w6 ⟨rfl, hb6⟩; rw [hb]; have hW6 := hW.call hz'.out hb6; obtain ⟨q0, q5, -⟩ := blkP2 hW6.2.1)
                      | (go_at_call 34; refine (hmw'.out _ hk64 hs64).mono ?_; rintro e w7 ⟨rfl, hb7⟩; have hW7 := hW6.call hz'.out hb7; have hI7 := Lib.hid (hI'.out w7 _ hW7.1.choose_spec))
                      | (go_at_call 32; (with_reducible refine hI7.out.mono ?_); rintro e w8 ⟨rfl, hF8, kc2, g2, hkc8, hK8⟩; have hW8 := Lib.hid (hW7.best hBU hF8 hK8)))
                    exact ⟨⟨k + 1, kc2, by omega, by go_num, rfl, hsc2, by omega, hW8.out⟩, by simp [intOf]; omega⟩
            · have hkn' : k = n := by omega
              have hdn : l.drop k = [] := List.drop_eq_nil_of_le (by have := hlb.out.1; omega)
              rw [hdn] at hsc
              have hwk2 : walkW ls (i + 1) = (xs, s, left) := by
                rw [walkW, hwk.out, hrow.out, hln, hsc.out, leastW]
              go_wp2_with fail
              exact ⟨⟨i + 1, kc, by omega, by go_num, by rw [hwk2], by omega, by rw [hwk2]; exact hW⟩, by simp [intOf]; omega⟩
        · have hin : i = n := by omega
          subst hin
          obtain ⟨A', n', c', rfl, hil⟩ := hW.2.2.il (by have := (hbd'.out i (Nat.le_refl _)).2.2.2; omega)
          have hbw := Lib.hid hW.1.choose_spec.1
          clear hW
          go_wp2_with fail
          go_ret3
          exact ⟨_, _, _, _, _, _, rfl, hil, hS, hbw.out⟩

end Go.Proofs.Ytjbhnfejpgjghaa
