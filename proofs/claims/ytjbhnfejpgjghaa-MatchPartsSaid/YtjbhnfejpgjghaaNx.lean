/- The reference's Weight. -/
import Derived.Test.YtjbhnfejpgjghaaNw
namespace Go.Proofs.Ytjbhnfejpgjghaa
open Go.RowKit Go.Maps
set_option linter.unusedSimpArgs false
set_option linter.unusedVariables false

theorem heaviest_at {w0 : World} {A : Option Addr} {n c gK : Nat} {gr : Nat → Nat} {ls : List (List Int)} (hn : ls.length = n) (hz : (HT.mk w0 A c ls gK gr).Fine) (m i s : Nat) (kept : Nat → Nat → Int) (w : World) (hi : i + m = n) (hs : s < 2 ^ n) (hk : HK ⟨w0, A, c, ls, gK, gr⟩ kept w) :
    Calls Try.prog 36 #[.slice A n c, .int .i64 (i : Int), .int .i64 (s : Int), .slice (some ⟨gK, 0, none⟩) n n] w (PH ⟨w0, A, c, ls, gK, gr⟩ w (heavy ls m s)) := by
  subst hn
  exact ref_heaviest ⟨w0, A, c, ls, gK, gr⟩ hz m i s kept w hi hs hk

/-- what holds throughout -/
def VH (z : HT) (B : Nat) (v9 : Value) (xs : List Int) (wr : World) : Prop := (∃ kept, HK z kept wr) ∧ RowI wr B v9 xs ∧ B ≤ wr.heap.size

theorem VH.heav {z : HT} {B : Nat} {v9 : Value} {xs : List Int} {wr w' : World} (h : VH z B v9 xs wr) (hB : ∀ i, i < z.n → z.gr i < B) (hf : Fr z.rows wr w') {kept} (hk : HK z kept w') : VH z B v9 xs w' :=
  ⟨⟨kept, hk⟩, h.2.1.fr hf fun x hx => by obtain ⟨i, hi, rfl⟩ := List.mem_map.1 hx; exact hB i (List.mem_range.1 hi), Nat.le_trans h.2.2 hf.size⟩

theorem VH.grown {z : HT} (hz : z.Fine) {B : Nat} {v9 v' : Value} {xs : List Int} {k : Int} {wr w' : World} {o : Obj} (h : VH z B v9 xs wr) (hB : ∀ i, i < z.n → z.gr i < B) (hg : (wr.alloc o).grownBy w' v9.ownBlock)
    (hr : w'.ownsRow B 3 1 v' (xs.length + 1) (vz xs ++ [.int .i64 k])) (hK : z.gK < B) : VH z B v' (xs ++ [k]) w' := by
  obtain ⟨⟨kept, b1, b2, b3, b4⟩, h2, h3⟩ := h
  have h2 := h2.more o
  have hb0 : Below wr.heap.size wr (wr.alloc o) := (Below.refl _ _).alloc (Nat.le_refl _) _
  have hne : ∀ x, x < B → some x ≠ v9.ownBlock := fun x hx e => by have := (h2.at e.symm).1; omega
  have hz1 := hz.2.2.1
  refine ⟨⟨kept, (b1.trans (hb0.mono b1.size)).grown hg (Nat.le_trans b1.size hb0.size) (fun b hb => ?_), (b2.call hb0).grown hg (hne _ hK), fun i hi => ((b3 i hi).call hb0).same (hg.block _ ((b3 i hi).call hb0).lt (hne _ (hB i hi))), b4⟩, ?_, Nat.le_trans h3 (Nat.le_trans hb0.size hg.size)⟩
  · have := (h2.at hb).1; omega
  · unfold RowI
    rw [vz_snoc]
    simpa using hr

/-- rows under way -/
def RW1 (z : HT) (ls : List (List Int)) (n B : Nat) (v9 v10 v11 v12 : Value) (wr : World) : Prop :=
  ∃ i : Nat, i ≤ n ∧ v10 = .int .i64 (i : Int) ∧ v11 = .int .i64 ((walkW ls i).2.1 : Int) ∧ v12 = .int .i64 (walkW ls i).2.2 ∧ VH z B v9 (walkW ls i).1 wr
/-- one row's columns under way -/
def RW2 (z : HT) (ls : List (List Int)) (n B i : Nat) (l : List Int) (xs : List Int) (s : Nat) (left : Int) (v9 v11 v12 v67 : Value) (wr : World) : Prop :=
  ∃ k : Nat, k ≤ n ∧ v67 = .int .i64 (k : Int) ∧ v11 = .int .i64 (s : Int) ∧ v12 = .int .i64 left ∧ Hid (leastW ls s left (n - (i + 1)) 0 l = leastW ls s left (n - (i + 1)) k (l.drop k)) ∧ VH z B v9 xs wr

set_option maxRecDepth 100000 in
set_option maxHeartbeats 1000000 in
theorem ref_weight (A : Option Addr) (n c : Nat) (ls : List (List Int)) (w : World) (hL : L2 w A n c ls) :
    Calls Try.prog 10 #[.slice A n c] w (PWt ls w) := by
  have ho := ref_isTable A n c ls w hL
  obtain ⟨i0, hi0, hz0, hz1, hz2⟩ := info_parts infoI
  obtain ⟨j0, hj0, yz0, yz1, yz2⟩ := info_parts infoS
  cases hT : isT ls with
  | false =>
    have hS : Hid (weightS ls = (0, [], 1)) := if_neg (by rw [hT]; simp)
    rw [hT] at ho
    have ho' := Lib.hid ho
    unfold PWt
    obtain ⟨S, hS2⟩ : ∃ S, S = weightS ls := ⟨_, rfl⟩
    rw [← hS2] at hS ⊢
    clear hS2 hT ho
    go_enter Try.func10, Try.ntmps10
    go_wp2_with ((with_reducible refine ho'.out.mono ?_); rintro e w2 ⟨rfl, rfl⟩)
    go_ret3
    exact ⟨_, _, _, _, _, _, rfl, IL.nil _, hS, Below.refl _ _⟩
  | true =>
    rw [hT] at ho
    have hT' := Lib.hid hT
    obtain ⟨t1, t2, t3⟩ := isT_of hT
    have hln := hL.1
    rw [hln] at t1 t2
    have ht3 := Lib.hid t3
    clear t3
    obtain ⟨gA, oA, -, -, -, -, rfl, -⟩ := hL.cell (j := 0) (by omega)
    have hL' := Lib.hid hL
    have ho' := Lib.hid ho
    obtain ⟨sum, hsum⟩ : ∃ sum, sum = heavy ls n 0 := ⟨_, rfl⟩
    have hsum' := Lib.hid hsum
    have hsb := heavy_bd (ls := ls) (fun l hl x hx => (ht3.out l hl).2 x hx |>.2) n 0
    rw [← hsum] at hsb
    clear hL hT ho hsum
    have hp10 : 2 ^ n ≤ 1024 := by have : 2 ^ n ≤ 2 ^ 10 := Nat.pow_le_pow_right (by omega) t2; simpa using this
    have hpi : (2 : Int) ^ n = ((2 ^ n : Nat) : Int) := by norm_cast
    obtain ⟨p, hp⟩ : ∃ p, p = 2 ^ n := ⟨_, rfl⟩
    rw [← hp] at hp10 hpi
    have hwp : IntKind.i64.wrap (p : Int) = (p : Int) := by rw [IntKind.wrap_i64]; omega
    have hp' := Lib.hid hp
    clear hp
    unfold PWt
    go_enter Try.func10, Try.ntmps10
    go_wp2_with (first
      | (go_at_call 35; (with_reducible refine ho'.out.mono ?_); rintro e w2 ⟨rfl, rfl⟩)
      | (at_make; refine wpList_make_full _ rfl _ _ 22 rfl w.heap.size 23 j0 (.slice none 0 0) 1 Try.underlying22 hj0 yz0 yz1 .i64 .i64 _ _ n rfl rfl ?c1 ?c1' ?c2 ?c3 ?c4 ?_; rotate_left 5; intro w2 hown hg1))
    case c1 => rfl
    case c1' => rfl
    case c2 => rw [yz2]; omega
    case c3 => simp [maxLen]; omega
    case c4 => exact Nat.le_refl _
    rw [made_slices] at hown
    have hK0 : KH w w.heap.size n p 0 (fun _ => 0) w2 := KH.start hg1 hown
    clear hg1 hown
    obtain ⟨gK, hgK⟩ : ∃ gK, gK = w.heap.size := ⟨_, rfl⟩
    rw [← hgK] at hK0 ⊢
    have hgK' := Lib.hid hgK
    clear hgK
    go_loopw [24] (fun v24 wr => ∃ (i : Nat) (gr : Nat → Nat), i ≤ n ∧ v24 = .int .i64 (i : Int) ∧ Hid (KH w gK n p i gr wr)) (fun i _ => n - (intOf i).toNat)
    case atStart => exact ⟨0, fun _ => 0, by omega, rfl, hK0⟩
    case round =>
      clear hK0
      obtain ⟨i, gr, hi, rfl, hK⟩ := hrel
      by_cases hlt : i < n
      · have hiR : (i : Int) < (n : Int) := by omega
        go_wp2_with (at_make; refine wpList_make_full _ rfl _ _ 23 rfl wr.heap.size 3 i0 (.int .i64 0) 1 Try.underlying23 hi0 hz0 hz1 .i64 .i64 _ _ p rfl rfl ?c1 ?c1' ?c2 ?c3 ?c4 ?_; rotate_left 5; intro w3 hown hg3; rw [made_zerosI] at hown; have hKI := Lib.hid (hK.out.next hlt hg3 (made_rf hown)); obtain ⟨ck, fk⟩ := hK.out.at hg3 hlt)
        case c1 => rfl
        case c1' => rfl
        case c2 => rw [hz2]; omega
        case c3 => simp [maxLen]; omega
        case c4 => exact Nat.le_refl _
        clear ck fk hown hg3
        obtain ⟨gr2, hgr2⟩ : ∃ gr2, gr2 = upd gr i wr.heap.size := ⟨_, rfl⟩
        have hgi : wr.heap.size = gr2 i := by rw [hgr2, upd_same]
        rw [← hgr2] at hKI
        rw [hgi] at hKI ⊢
        have hKI0 : ∃ wx, wx = w3.setCell ⟨gK, i, none⟩ (.slice (some ⟨gr2 i, 0, none⟩) p p) := ⟨_, rfl⟩
        obtain ⟨wx, hwx⟩ := hKI0
        rw [← hwx] at hKI ⊢
        clear hwx hgr2 hgi hK
        go_loopw [39] (fun v39 wr => ∃ k : Nat, k ≤ p ∧ v39 = .int .i64 (k : Int) ∧ Hid (KI w gK n p i gr2 k wr)) (fun k _ => p - (intOf k).toNat)
        case atStart => exact ⟨0, by omega, rfl, hKI⟩
        case round =>
          clear hKI
          obtain ⟨k, hk, rfl, hKI⟩ := hrel
          by_cases hkp : k < p
          · have hkR : (k : Int) < (p : Int) := by omega
            have c1 := hKI.out.cell hlt
            have c2 := hKI.out.last.cell hkp
            have c3 := hKI.out.last.frozen k
            have hset := Lib.hid hKI.out.set
            go_wp2_with fail
            go_roundw
            case rel => exact ⟨k + 1, by omega, by go_num, hset⟩
            case measure => simp [intOf]; omega
          · have hkp' : k = p := by omega
            subst hkp'
            have hKd := Lib.hid hKI.out.done
            go_wp2_with fail
            go_roundw
            case rel => exact ⟨i + 1, gr2, by omega, by go_num, hKd⟩
            case measure => simp [intOf]; omega
      · have hin : n = i := by omega
        subst hin
        have hK2 : KH w gK n (2 ^ n) n gr wr := by have := hK.out; rwa [hp'.out] at this
        obtain ⟨hz, hHK⟩ := KH.hk hln hL'.out hT'.out hK2
        have hgl := fun j hj => (hK2.row j hj).2.lt
        have hgKl := hK2.bk.lt
        have hz' := Lib.hid hz
        have hB00 : Calls Try.prog 36 #[.slice (some ⟨gA, oA, none⟩) n c, .int .i64 0, .int .i64 0, .slice (some ⟨gK, 0, none⟩) n n] wr (PH ⟨w, some ⟨gA, oA, none⟩, c, ls, gK, gr⟩ wr (heavy ls n 0)) :=
          heaviest_at hln hz n 0 0 _ wr (by omega) (Nat.two_pow_pos _) hHK
        rw [← hsum'.out] at hB00
        have hB0 := Lib.hid hB00
        have hHK' := Lib.hid hHK
        clear hB00 hK2 hK hz hHK hwp hpi
        by_cases h0 : sum < 0
        · have hS : Hid (weightS ls = (0, [], 4)) := by show _ = _; unfold weightS; rw [if_pos hT'.out, hln, ← hsum'.out, if_pos h0]
          obtain ⟨S, hS2⟩ : ∃ S, S = weightS ls := ⟨_, rfl⟩
          rw [← hS2] at hS
          have h0' : decide (sum < 0) = true := by simpa using h0
          have hS2' := Lib.hid hS2
          clear hS2
          go_wp2_with (go_at_call 36; (with_reducible refine hB0.out.mono ?_); rintro e w8 ⟨rfl, hF8, kept8, hK8⟩)
          go_ret3
          exact ⟨_, _, _, _, _, _, rfl, IL.nil _, by rw [← hS2'.out]; exact hS, hK8.1⟩
        · have hS : Hid (weightS ls = (sum, (walkW ls n).1, 0)) := by show _ = _; unfold weightS; rw [if_pos hT'.out, hln, ← hsum'.out, if_neg h0]
          have h0' : decide (sum < 0) = false := by simpa using h0
          have hbd' : Hid (∀ j, j ≤ n → 0 ≤ (walkW ls j).2.2 ∧ (walkW ls j).2.2 ≤ 30 ∧ (walkW ls j).2.1 < 2 ^ n ∧ (walkW ls j).1.length ≤ j) := fun j hj => by
            have := walkW_bd hT'.out (by rw [hln, ← hsum'.out]; omega) j (by omega)
            rwa [hln] at this
          have hls0' : Hid ((walkW ls 0).2.2 = sum) := by show _ = _; rw [hsum'.out, ← hln]; rfl
          obtain ⟨S, hS2⟩ : ∃ S, S = weightS ls := ⟨_, rfl⟩
          rw [← hS2] at hS
          have hS2' := Lib.hid hS2
          clear hS2 h0
          go_upto_region 18 with (go_at_call 36; (with_reducible refine hB0.out.mono ?_); rintro e w8 ⟨rfl, hF8, kept8, hK8⟩)
          obtain ⟨B, hB⟩ : ∃ B, B = w8.heap.size := ⟨_, rfl⟩
          have hgB : ∀ j, j < ls.length → gr j < B := fun j hj => by rw [hB]; exact Nat.lt_of_lt_of_le (hgl j (by omega)) hF8.size
          have hgB' := Lib.hid hgB
          have hgKB : gK < B := by rw [hB]; exact Nat.lt_of_lt_of_le hgKl hF8.size
          have hst : RW1 ⟨w, some ⟨gA, oA, none⟩, c, ls, gK, gr⟩ ls n B (.slice none 0 0) (.int .i64 0) (.int .i64 0) (.int .i64 sum) w8 := ⟨0, by omega, rfl, rfl, by rw [hls0'.out], ⟨kept8, hK8⟩, RowI.nil _ _, by omega⟩
          clear hgB hgl hF8 hK8 hB0 hHK' hi hlt hB ho'
          go_wp2_with fail
          go_loopw [9, 10, 11, 12] (fun v9 v10 v11 v12 wr => RW1 ⟨w, some ⟨gA, oA, none⟩, c, ls, gK, gr⟩ ls n B v9 v10 v11 v12 wr) (fun _ i _ _ _ => n - (intOf i).toNat)
          case atStart => exact hst
          case round =>
            clear hst
            obtain ⟨i, hi, rfl, rfl, rfl, hW⟩ := hrel
            by_cases hlt : i < n
            · obtain ⟨kept, hHK⟩ := hW.1
              obtain ⟨gl, ol, l, A', n', c', hAA, hgl, hl, hcl, hl1⟩ := (hL'.out.below hHK.1 (Nat.le_refl _)).cell hlt
              obtain ⟨rfl, rfl⟩ : gA = gl ∧ oA = ol := by simpa using hAA
              have hlb := Lib.hid (ht3.out l (List.mem_of_getElem? hl))
              obtain rfl : n = n' := by rw [← hl1.1, hlb.out.1, hln]
              have hrow : Hid (ls.getD i [] = l) := by show _ = _; rw [List.getD_eq_getElem?_getD, hl]; rfl
              have hiR : (i : Int) < (n : Int) := by omega
              have hl1' : Hid (∀ wx : World, Below w.heap.size w wx → L1 wx A' n c' l) := fun wx hb => by
                obtain ⟨gB, oB, l2, A2, n2, c2', hA2, hgB, hl2, hcl2, hl12⟩ := hL'.out.cell hlt
                obtain ⟨rfl, rfl⟩ : gA = gB ∧ oA = oB := by simpa using hA2
                have h2 : wr.cell? ⟨gA, oA + i, none⟩ = some (.slice A2 n2 c2') := (hHK.1.cell (p := ⟨gA, oA + i, none⟩) hgB).trans hcl2
                rw [hcl] at h2
                obtain ⟨rfl, rfl, rfl⟩ : A' = A2 ∧ n = n2 ∧ c' = c2' := by simpa using h2
                obtain rfl : l = l2 := by rw [hl] at hl2; injection hl2
                exact hl12.below hb (Nat.le_refl _)
              obtain ⟨xs, hxs⟩ : ∃ xs, xs = (walkW ls i).1 := ⟨_, rfl⟩
              obtain ⟨s, hs⟩ : ∃ s, s = (walkW ls i).2.1 := ⟨_, rfl⟩
              obtain ⟨left, hle⟩ : ∃ left, left = (walkW ls i).2.2 := ⟨_, rfl⟩
              obtain ⟨q1, q2, q3, q4⟩ := hbd'.out i hi
              have hwk : Hid (walkW ls i = (xs, s, left)) := by show _ = _; rw [hxs, hs, hle]
              rw [← hxs] at hW
              rw [← hle] at q1 q2 ⊢
              rw [← hs] at q3 ⊢
              rw [← hxs] at q4
              have hst2 : RW2 ⟨w, some ⟨gA, oA, none⟩, c, ls, gK, gr⟩ ls n B i l xs s left u9 (.int .i64 (s : Int)) (.int .i64 left) (.int .i64 0) wr := ⟨0, by omega, rfl, rfl, rfl, rfl, hW⟩
              have hs10 : s < 1024 := Nat.lt_of_lt_of_le q3 (by have : 2 ^ n ≤ 2 ^ 10 := Nat.pow_le_pow_right (by omega) t2; simpa using this)
              have hbst := fun (m s : Nat) kept w' h1 h2 h3 => heaviest_at hln hz'.out m (i + 1) s kept w' h1 h2 h3
              simp only [show ((i + 1 : Nat) : Int) = (i : Int) + 1 from by omega] at hbst
              have hbst' := Lib.hid hbst
              clear hl hl1 hAA hW hxs hs hle hbst hHK
              go_wp2_with fail
              go_loopw [9, 11, 12, 67] (fun v9 v11 v12 v67 wr => RW2 ⟨w, some ⟨gA, oA, none⟩, c, ls, gK, gr⟩ ls n B i l xs s left v9 v11 v12 v67 wr) (fun _ _ _ k _ => n - (intOf k).toNat)
              case atStart => exact hst2
              case round =>
                clear hst2 hcl
                obtain ⟨k, hk, rfl, rfl, rfl, hsc, hW⟩ := hrel
                by_cases hkn : k < n
                · obtain ⟨kept, hHK⟩ := hW.1
                  obtain ⟨gl, ol, x, hAl, hgl, hx, hx64, hcx⟩ := (hl1'.out _ hHK.1).cell hkn
                  have hd : l.drop k = x :: l.drop (k + 1) := by
                    have h1 := (List.getElem?_eq_some_iff.1 hx).1
                    rw [List.drop_eq_getElem_cons h1]
                    congr 1
                    exact (List.getElem?_eq_some_iff.1 hx).2
                  rw [hd] at hsc
                  have hx3 := hlb.out.2 x (List.mem_of_getElem? hx)
                  have hgx : Hid (l.getD k 0 = x) := by show _ = _; rw [List.getD_eq_getElem?_getD, hx]; rfl
                  subst hAl
                  by_cases hx0 : x < 0
                  · have hx0' : decide (0 ≤ x) = false := decide_eq_false (by omega)
                    have hsc2 : Hid (leastW ls s left (n - (i + 1)) 0 l = leastW ls s left (n - (i + 1)) (k + 1) (l.drop (k + 1))) := by
                      show _ = _
                      rw [hsc.out, leastW, if_pos (by rw [decide_eq_true hx0]; rfl)]
                    clear hx0
                    go_wp2_with fail
                    exact ⟨⟨k + 1, by omega, by go_num, rfl, rfl, hsc2, hW⟩, by simp [intOf]; omega⟩
                  · have hx0' : decide (0 ≤ x) = true := decide_eq_true (by omega)
                    have hx1 : decide (x < 0) = false := by simpa using hx0
                    obtain ⟨X, hX⟩ : ∃ X, X = s / 2 ^ k := ⟨_, rfl⟩
                    have hXb : X < 1024 := by rw [hX]; exact Nat.lt_of_le_of_lt (Nat.div_le_self _ _) hs10
                    have hdv : (s : Int) / (2 : Int) ^ k = (X : Int) := by rw [hX, Int.natCast_ediv]; norm_cast
                    have hand := i64_and1 X (by omega)
                    have htb : s.testBit k = decide (X % 2 = 1) := by rw [testBit_div, hX]
                    have hX' := Lib.hid hX
                    clear hX
                    by_cases hb : X % 2 = 1
                    · have hbt : (((X % 2 : Nat) : Int) == 0) = false := by simp; omega
                      have hsc2 : Hid (leastW ls s left (n - (i + 1)) 0 l = leastW ls s left (n - (i + 1)) (k + 1) (l.drop (k + 1))) := by
                        show _ = _
                        rw [hsc.out, leastW, if_pos (by rw [htb]; simp [hb])]
                      go_wp2_with fail
                      exact ⟨⟨k + 1, by omega, by go_num, rfl, rfl, hsc2, hW⟩, by simp [intOf]; omega⟩
                    · have hbt : (((X % 2 : Nat) : Int) == 0) = true := by simp; omega
                      have hkw : 2 ^ k < 2 ^ n := Nat.pow_lt_pow_right (by omega) hkn
                      have ht : s ||| 2 ^ k < 2 ^ n := Nat.or_lt_two_pow q3 hkw
                      have hk10 : 2 ^ k < 1024 := Nat.pow_lt_pow_right (n := 10) (by omega) (by omega)
                      have hpi : (2 : Int) ^ k = ((2 ^ k : Nat) : Int) := by norm_cast
                      have hor := i64_or_nat s (2 ^ k) (by omega) (by omega)
                      have htt : Hid ((s ||| 2 ^ k) = s ||| 2 ^ k) := rfl
                      obtain ⟨t, ht'⟩ : ∃ t, t = s ||| 2 ^ k := ⟨_, rfl⟩
                      have htt : Hid (t = s ||| 2 ^ k) := ht'
                      rw [← ht'] at ht hor
                      obtain ⟨p2, hp2⟩ : ∃ p2, p2 = 2 ^ k := ⟨_, rfl⟩
                      rw [← hp2] at hkw hk10 hpi hor
                      have hwp2 : IntKind.i64.wrap (p2 : Int) = (p2 : Int) := by rw [IntKind.wrap_i64]; omega
                      have hdvp : (s : Int) / (p2 : Int) = (X : Int) := by rw [← hpi]; exact hdv
                      have ih4 := hbst'.out (n - (i + 1)) t kept wr (by omega) ht hHK
                      have hbt2 := heavy_bd (ls := ls) (fun l hl x hx => (ht3.out l hl).2 x hx |>.2) (n - (i + 1)) t
                      obtain ⟨rv, hrv⟩ : ∃ rv, rv = heavy ls (n - (i + 1)) t := ⟨_, rfl⟩
                      rw [← hrv] at ih4 hbt2
                      have ih5 := Lib.hid ih4
                      have hrv' := Lib.hid hrv
                      clear ih4 hrv ht' hp2 hHK
                      have hno : ¬ (0 ≤ rv ∧ rv = left - x) → Hid (leastW ls s left (n - (i + 1)) 0 l = leastW ls s left (n - (i + 1)) (k + 1) (l.drop (k + 1))) := fun hc => by
                        show _ = _
                        rw [hsc.out, leastW, if_neg (by rw [htb, hx1]; simp [hb]), if_neg (by rw [← htt.out, ← hrv'.out]; exact hc)]
                      by_cases h0 : 0 ≤ rv
                      · have h0' : decide (0 ≤ rv) = true := by simpa using h0
                        by_cases he : rv = left - x
                        · have he' : (rv + x == left) = true := by simp; omega
                          have hsc2 : Hid (leastW ls s left (n - (i + 1)) 0 l = some k) := by
                            show _ = _
                            rw [hsc.out, leastW, if_neg (by rw [htb, hx1]; simp [hb]), if_pos (by rw [← htt.out, ← hrv'.out]; exact ⟨h0, he⟩)]
                          clear hno
                          have hwk2 : Hid (walkW ls (i + 1) = (xs ++ [(k : Int)], t, rv)) := by
                            show _ = _
                            rw [walkW, hwk.out, hrow.out, hln, hsc2.out]
                            show (xs ++ [(k : Int)], s ||| 2 ^ k, left - l.getD k 0) = _
                            rw [← htt.out, hgx.out, he]
                          clear he
                          go_wp2_with (first
                            | (go_at_call 36; (with_reducible refine ih5.out.mono ?_); rintro e w2 ⟨rfl, hF3, kept3, hK3⟩; have hW3 := Lib.hid (hW.heav hgB'.out hF3 hK3))
                            | (at_builtin; refine wpList_append_own _ rfl _ _ 23 rfl B 3 i0 (.int .i64 0) 1 8 Try.underlying23 hi0 hz0 hz1 hz2 rfl (by decide) _ xs.length (vz xs) rfl (hW3.out.2.1.more _) ⟨w2.heap.size, 0, none⟩ 1 1 [.int .i64 (k : Int)] rfl rfl (cell_one_new _ _ _) (by intro u hu; simp at hu; subst hu; rfl) (by unfold maxLen; omega) (by omega) (by simp; have := hW3.out.2.2; omega) ?_; intro v' w5 hRow5 hgr5 hnil5))
                          have hW5 := hW3.out.grown hz'.out hgB'.out hgr5 hRow5 hgKB
                          exact ⟨⟨i + 1, by omega, by go_num, by rw [hwk2.out], by rw [hwk2.out], by rw [hwk2.out]; exact hW5⟩, by simp [intOf]; omega⟩
                        · have he' : (rv + x == left) = false := by simp; omega
                          have hsc2 := hno (fun h => he h.2)
                          clear hno he
                          go_wp2_with (go_at_call 36; (with_reducible refine ih5.out.mono ?_); rintro e w2 ⟨rfl, hF3, kept3, hK3⟩; have hW3 := Lib.hid (hW.heav hgB'.out hF3 hK3))
                          exact ⟨⟨k + 1, by omega, by go_num, rfl, rfl, hsc2, hW3.out⟩, by simp [intOf]; omega⟩
                      · have h0' : decide (0 ≤ rv) = false := by simpa using h0
                        have hsc2 := hno (fun h => h0 h.1)
                        clear hno
                        go_wp2_with (go_at_call 36; (with_reducible refine ih5.out.mono ?_); rintro e w2 ⟨rfl, hF3, kept3, hK3⟩; have hW3 := Lib.hid (hW.heav hgB'.out hF3 hK3))
                        exact ⟨⟨k + 1, by omega, by go_num, rfl, rfl, hsc2, hW3.out⟩, by simp [intOf]; omega⟩
                · have hkn' : k = n := by omega
                  have hdn : l.drop k = [] := List.drop_eq_nil_of_le (by have := hlb.out.1; omega)
                  rw [hdn] at hsc
                  have hwk2 : walkW ls (i + 1) = (xs, s, left) := by
                    rw [walkW, hwk.out, hrow.out, hln, hsc.out, leastW]
                  go_wp2_with fail
                  exact ⟨⟨i + 1, by omega, by go_num, by rw [hwk2], by rw [hwk2], by rw [hwk2]; exact hW⟩, by simp [intOf]; omega⟩
            · have hin : n = i := by omega
              subst hin
              obtain ⟨A', n', c', rfl, hil⟩ := hW.2.1.il (by have := (hbd'.out n (Nat.le_refl _)).2.2.2; omega)
              have hbw := Lib.hid hW.1.choose_spec.1
              clear hW
              go_wp2_with fail
              go_ret3
              exact ⟨_, _, _, _, _, _, rfl, hil, by rw [← hS2'.out]; exact hS, hbw.out⟩

end Go.Proofs.Ytjbhnfejpgjghaa
