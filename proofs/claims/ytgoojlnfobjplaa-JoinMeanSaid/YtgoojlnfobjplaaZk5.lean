/- The quotient of words: divisor and dividend shifted, then word by word. -/
import Derived.Test.YtgoojlnfobjplaaZk7
namespace Go.Proofs.Ytgoojlnfobjplaa
open Go.RowKit
set_option linter.unusedSimpArgs false
set_option linter.unusedVariables false
attribute [local go_sem] qn30 qe30

set_option maxRecDepth 100000 in
set_option maxHeartbeats 4000000 in
theorem num_quoWords3 (A B : Option Addr) (n c m d : Nat) (xs ys : List Nat) (w : World) (hx : U32 w A n c xs) (hy : U32 w B m d ys) (tx : Tr xs) (ty : Tr ys) (hn : n ≤ 300000) (hm : 2 ≤ m) (hmn : m ≤ n) (hle : Hid (cmpN (val xs) (val ys) = 0 ∨ cmpN (val xs) (val ys) = 1)) :
    Calls Try.prog 81 #[.slice A n c, .slice B m d] w (PQuo w xs ys) := by
  obtain ⟨i0, hi, hz0, hz1, hz2⟩ := info_parts info32
  have hxl := Lib.hid hx.1
  have hyl := Lib.hid hy.1
  go_enter Try.func81, Try.ntmps81
  go_wp2_with fail
  refine (num_cmpWords A B n c m d xs ys _ hx hy tx ty (by omega) (by omega)).mono ?_
  rintro e w1 ⟨rfl, hb1⟩
  obtain ⟨cv, hcv, hcd⟩ : ∃ cv : Int, cv = cmpN (val xs) (val ys) ∧ ¬ cv < 0 := ⟨_, rfl, by rcases hle.out with h | h <;> omega⟩
  rw [← hcv]
  clear hcv hle
  have hx1 := hx.below hb1 (Nat.le_refl _)
  have hy1 := hy.below hb1 (Nat.le_refl _)
  obtain ⟨gy, oy, t, rfl, hgy, htk, htl, hct⟩ := hy1.cell (k := m - 1) (by omega)
  have hm1 : ((m : Int) == 1) = false := by simp; omega
  have ht0 : t ≠ 0 := ty.top hyl.out (by omega) htk
  have htk := Lib.hid htk
  go_wp2_with fail
  refine (lead32 t ht0 htl _).mono ?_
  rintro e wd ⟨s, e, f, rfl, rfl, hs, hE, hte, he2', hf2', he1, hf1, hs0'⟩
  have he2 := Lib.hid he2'
  have hf2 := Lib.hid hf2'
  have hs0 := Lib.hid hs0'
  clear he2' hf2' hs0'
  go_upto_region 15 with (at_make; refine wpList_make_full _ rfl _ _ 30 rfl w1.heap.size 85 i0 (.int .u32 0) 1 Try.underlying30 hi hz0 hz1 .i64 .i64 _ _ (n + 1) rfl rfl ?c1 ?c1' ?c2 ?c3 ?c4 ?_; rotate_left 5; intro w2 hown hg1)
  case c1 => simp
  case c1' => simp
  case c2 => rw [hz2]; omega
  case c3 => simp [maxLen]; omega
  case c4 => exact Nat.le_refl _
  have hb0 : Below w1.heap.size w1 w2 := (Below.refl _ _).grown hg1 (Nat.le_refl _) (by intro k hk; cases hk)
  have hRu := Rw.new hown
  clear hg1 hown
  go_wp2_with (at_make; refine wpList_make_full _ rfl _ _ 30 rfl w2.heap.size 85 i0 (.int .u32 0) 1 Try.underlying30 hi hz0 hz1 .i64 .i64 _ _ m rfl rfl ?c1 ?c1' ?c2 ?c3 ?c4 ?_; rotate_left 5; intro w3 hown hg1)
  case c1 => simp
  case c1' => simp
  case c2 => rw [hz2]; omega
  case c3 => simp [maxLen]; omega
  case c4 => exact Nat.le_refl _
  have hb0 : Below w1.heap.size w1 w3 := hb0.grown hg1 hb0.size (by intro k hk; cases hk)
  have hRv := Rw.new hown
  have hlt12 := hRu.lt
  have hRu := hRu.grown hg1
  have hne1 : w1.heap.size ≠ w2.heap.size := by omega
  have hne2 : w2.heap.size ≠ w1.heap.size := by omega
  have hne3 : gy ≠ w2.heap.size := by omega
  have hne4 : w2.heap.size ≠ gy := by omega
  clear hg1 hown
  go_loopw [96] (fun v96 wr => ∃ (i cy : Nat) (V : List Nat), i ≤ m ∧ v96 = .int .i64 i ∧ Rw wr w2.heap.size m V ∧ Rw wr w1.heap.size (n + 1) (List.replicate (n + 1) 0) ∧ Hid (SH ys V e i cy) ∧ Hid (CY ys e i cy) ∧ Below w1.heap.size w1 wr) (fun i _ => m - (intOf i).toNat)
  case atStart => exact ⟨0, 0, _, by omega, rfl, hRv, hRu, SH.start _ _ _, .inl ⟨rfl, rfl⟩, hb0⟩
  case round =>
    clear hRv hRu hb0
    obtain ⟨i, cy, V, him, rfl, hRv, hRu, hSH, hCY, hb⟩ := hrel
    by_cases hlt : i < m
    · obtain ⟨gy', oy', x, hA', hgy', hxk', hxb, hcx⟩ := (hy1.below hb (Nat.le_refl _)).cell hlt
      obtain ⟨rfl, rfl⟩ : gy = gy' ∧ oy = oy' := by simpa using hA'
      have hxk := Lib.hid hxk'
      clear hA' hgy'
      obtain ⟨o, hok, hob, hco⟩ := hRv.cell hlt
      have hfr := hRv.frozen i
      have hVl := Lib.hid hRv.len
      have hst : Hid (SH ys (V.set i ((x * e) % 4294967296 + cy)) e (i + 1) (x * e / 4294967296)) := hSH.out.step hxk.out (by rw [hVl.out]; exact hlt)
      have hcn : Hid (CY ys e (i + 1) (x * e / 4294967296)) := .inr ⟨i, x, rfl, hxk.out, rfl⟩
      have hxe : ((x : Int) * e) % 4294967296 = (((x * e) % 4294967296 : Nat) : Int) := by rw [← Int.natCast_mul]; omega
      clear hok hxk'
      rcases Nat.eq_zero_or_pos i with h0 | h0
      · have hc0 : cy = 0 := hCY.out.zero hy.2.1 (.inl h0)
        subst h0 hc0
        rw [Nat.add_zero] at hcx
        go_wp2_with fail
        go_roundw
        case rel => exact ⟨1, x * e / 4294967296, _, by omega, by go_num, hRv.set 0 ((x * e) % 4294967296 + 0) (by omega) (by rw [Nat.add_zero, ← hxe, ← he2.out]), hRu.other hRv hne1 _ _, hst, hcn, hb.setCell (Nat.le_of_lt hlt12) _⟩
        case measure => simp [intOf]; omega
      · rcases Nat.eq_zero_or_pos s with s0 | s0
        · have hc0 : cy = 0 := hCY.out.zero hy.2.1 (.inr (hs0.out s0))
          obtain rfl : e = 1 := hs0.out s0
          subst s0 hc0
          go_wp2_with fail
          go_roundw
          case rel => exact ⟨i + 1, x * 1 / 4294967296, _, by omega, by go_num, hRv.set i ((x * 1) % 4294967296 + 0) (by omega) (by rw [Nat.add_zero, Nat.mul_one]; omega), hRu.other hRv hne1 _ _, hst, hcn, hb.setCell (Nat.le_of_lt hlt12) _⟩
          case measure => simp [intOf]; omega
        · obtain ⟨j, rfl⟩ : ∃ j, i = j + 1 := ⟨i - 1, by omega⟩
          obtain ⟨gy', oy', p, hA', hgy', hpk', hpb, hcp⟩ := (hy1.below hb (Nat.le_refl _)).cell (k := j) (by omega)
          obtain ⟨rfl, rfl⟩ : gy = gy' ∧ oy = oy' := by simpa using hA'
          clear hA' hgy'
          obtain rfl : cy = p * e / 4294967296 := hCY.out.at hpk'
          have hj1 : ¬ ((j : Int) + 1 < 0) := by omega
          have hj2 : (j : Int) + 1 < (m : Int) := by omega
          have hj3 : (j : Int) < (m : Int) := by omega
          have hs4 : IntKind.u64.wrap (32 - (s : Int)) = 32 - (s : Int) := by rw [IntKind.wrap_u64]; omega
          have hj4 : IntKind.i64.wrap (j : Int) = (j : Int) := by rw [IntKind.wrap_i64]; omega
          clear hpk'
          have hor := or_sh (x := x) hE.out hf1 he1 hpb
          have ht2 : p * e / 4294967296 + (x * e) % 4294967296 < 4294967296 := by have := hor.2; omega
          have hor := Lib.hid hor.1
          have hRv2 := hRv.set (j + 1) ((x * e) % 4294967296) (by omega) (i := (x : Int) * 2 ^ s % 4294967296) (by rw [← hxe, ← he2.out])
          have hRu2 := hRu.other hRv hne1 (j + 1) (.int .u32 ((x : Int) * 2 ^ s % 4294967296))
          have hb2 := hb.setCell (Nat.le_of_lt hlt12) (p := ⟨w2.heap.size, j + 1, none⟩) (.int .u32 ((x : Int) * 2 ^ s % 4294967296))
          obtain ⟨wa, hwa⟩ : ∃ wa, wa = wr.setCell ⟨w2.heap.size, j + 1, none⟩ (.int .u32 ((x : Int) * 2 ^ s % 4294967296)) := ⟨_, rfl⟩
          have hcv : wa.cell? ⟨w2.heap.size, j + 1, none⟩ = some (.int .u32 (((x * e) % 4294967296 : Nat) : Int)) := by
            obtain ⟨q, hq1, hq2, hq3⟩ := hRv2.cell hlt
            rw [List.getElem?_set_self (by rw [hVl.out]; exact hlt)] at hq1
            injection hq1 with hq1
            rw [hwa, hq3, hq1]
          have hcp2 : wa.cell? ⟨gy, oy + j, none⟩ = some (.int .u32 (p : Int)) := by
            rw [hwa, World.cell?_setCell_other _ _ _ _ (fun e => by injection e with e; exact hne4 e)]
            exact hcp
          go_upto_region 21 with (fail)
          rw [← hwa] at hRv2 hRu2 hb2 ⊢
          clear hwa hcp hcx hco hfr
          have hfr := hRv2.frozen (j + 1)
          obtain ⟨tv, htv'⟩ : ∃ tv, tv = x * e % 4294967296 := ⟨_, rfl⟩
          obtain ⟨pf, hpf'⟩ : ∃ pf, pf = p / f := ⟨_, rfl⟩
          obtain ⟨tz, htz'⟩ : ∃ tz, tz = tv + p * e / 4294967296 := ⟨_, rfl⟩
          have hor := hor.out
          have htb : tv < 4294967296 := by omega
          rw [← htv', ← hpf'] at hor
          rw [← htv'] at ht2 hst hcv
          rw [← htz'] at hor hst
          have htzb : tz < 4294967296 := by omega
          have hpf : (p : Int) / 2 ^ (32 - s) = (pf : Int) := by rw [hf2.out, hpf']; rfl
          have htv := Lib.hid htv'
          have htz := Lib.hid htz'
          clear htv' htz' hpf' hxe
          rw [← htv.out] at hRv2
          have hS : (fun w' => w'.cell? ⟨w2.heap.size, j + 1, none⟩ = some (.int .u32 (tv : Int)) ∧ w'.cell? ⟨gy, oy + j, none⟩ = some (.int .u32 (p : Int))) wa.drew := ⟨hcv, hcp2⟩
          refine wp_region_K (S := fun w' => w'.cell? ⟨w2.heap.size, j + 1, none⟩ = some (.int .u32 (tv : Int)) ∧ w'.cell? ⟨gy, oy + j, none⟩ = some (.int .u32 (p : Int))) (K := [14]) (by kernel_rfl) ?_
          refine AnyK.take (i := 0) (v := .slice (some ⟨w2.heap.size, 0, none⟩) m m) rfl (by kernel_rfl) (by kernel_rfl) (by kernel_rfl) (by kernel_rfl) (by kernel_rfl) (by kernel_rfl) (fun _ _ _ h => h) (Or.inl ⟨by rfl, ?_⟩) hS ?_
          · rintro w' ⟨a0, a1⟩
            go_simp
          (try simp only [Act.put, List.setIfInBounds_toArray, List.set_cons_zero, List.set_cons_succ])
          refine AnyK.take (i := 1) (v := .int .i64 ((j : Int) + 1)) rfl (by kernel_rfl) (by kernel_rfl) (by kernel_rfl) (by kernel_rfl) (by kernel_rfl) (by kernel_rfl) (fun _ _ _ h => h) (Or.inl ⟨by rfl, ?_⟩) hS ?_
          · rintro w' ⟨a0, a1⟩
            go_simp
          (try simp only [Act.put, List.setIfInBounds_toArray, List.set_cons_zero, List.set_cons_succ])
          refine AnyK.take (i := 2) (v := .pointer (some ⟨w2.heap.size, j + 1, none⟩)) rfl (by kernel_rfl) (by kernel_rfl) (by kernel_rfl) (by kernel_rfl) (by kernel_rfl) (by kernel_rfl) (fun _ _ _ h => h) (Or.inl ⟨by rfl, ?_⟩) hS ?_
          · rintro w' ⟨a0, a1⟩
            go_simp
          (try simp only [Act.put, List.setIfInBounds_toArray, List.set_cons_zero, List.set_cons_succ])
          refine AnyK.take (i := 3) (v := .int .u32 (tv : Int)) rfl (by kernel_rfl) (by kernel_rfl) (by kernel_rfl) (by kernel_rfl) (by kernel_rfl) (by kernel_rfl) (fun _ _ _ h => h) (Or.inl ⟨by rfl, ?_⟩) hS ?_
          · rintro w' ⟨a0, a1⟩
            go_simp
          (try simp only [Act.put, List.setIfInBounds_toArray, List.set_cons_zero, List.set_cons_succ])
          refine AnyK.take (i := 4) (v := .slice (some ⟨gy, oy, none⟩) m d) rfl (by kernel_rfl) (by kernel_rfl) (by kernel_rfl) (by kernel_rfl) (by kernel_rfl) (by kernel_rfl) (fun _ _ _ h => h) (Or.inl ⟨by rfl, ?_⟩) hS ?_
          · rintro w' ⟨a0, a1⟩
            go_simp
          (try simp only [Act.put, List.setIfInBounds_toArray, List.set_cons_zero, List.set_cons_succ])
          refine AnyK.take (i := 5) (v := .int .i64 ((j : Int) + 1)) rfl (by kernel_rfl) (by kernel_rfl) (by kernel_rfl) (by kernel_rfl) (by kernel_rfl) (by kernel_rfl) (fun _ _ _ h => h) (Or.inl ⟨by rfl, ?_⟩) hS ?_
          · rintro w' ⟨a0, a1⟩
            go_simp
          (try simp only [Act.put, List.setIfInBounds_toArray, List.set_cons_zero, List.set_cons_succ])
          refine AnyK.take (i := 6) (v := .int .i64 (j : Int)) rfl (by kernel_rfl) (by kernel_rfl) (by kernel_rfl) (by kernel_rfl) (by kernel_rfl) (by kernel_rfl) (fun _ _ _ h => h) (Or.inl ⟨by rfl, ?_⟩) hS ?_
          · rintro w' ⟨a0, a1⟩
            go_simp
          (try simp only [Act.put, List.setIfInBounds_toArray, List.set_cons_zero, List.set_cons_succ])
          refine AnyK.take (i := 7) (v := .pointer (some ⟨gy, oy + j, none⟩)) rfl (by kernel_rfl) (by kernel_rfl) (by kernel_rfl) (by kernel_rfl) (by kernel_rfl) (by kernel_rfl) (fun _ _ _ h => h) (Or.inl ⟨by rfl, ?_⟩) hS ?_
          · rintro w' ⟨a0, a1⟩
            go_simp
          (try simp only [Act.put, List.setIfInBounds_toArray, List.set_cons_zero, List.set_cons_succ])
          refine AnyK.take (i := 8) (v := .int .u32 (p : Int)) rfl (by kernel_rfl) (by kernel_rfl) (by kernel_rfl) (by kernel_rfl) (by kernel_rfl) (by kernel_rfl) (fun _ _ _ h => h) (Or.inl ⟨by rfl, ?_⟩) hS ?_
          · rintro w' ⟨a0, a1⟩
            go_simp
          (try simp only [Act.put, List.setIfInBounds_toArray, List.set_cons_zero, List.set_cons_succ])
          refine AnyK.take (i := 9) (v := .int .u64 (s : Int)) rfl (by kernel_rfl) (by kernel_rfl) (by kernel_rfl) (by kernel_rfl) (by kernel_rfl) (by kernel_rfl) (fun _ _ _ h => h) (Or.inl ⟨by rfl, ?_⟩) hS ?_
          · rintro w' ⟨a0, a1⟩
            go_simp
          (try simp only [Act.put, List.setIfInBounds_toArray, List.set_cons_zero, List.set_cons_succ])
          refine AnyK.take (i := 10) (v := .int .u64 (32 - (s : Int))) rfl (by kernel_rfl) (by kernel_rfl) (by kernel_rfl) (by kernel_rfl) (by kernel_rfl) (by kernel_rfl) (fun _ _ _ h => h) (Or.inl ⟨by rfl, ?_⟩) hS ?_
          · rintro w' ⟨a0, a1⟩
            go_simp
          (try simp only [Act.put, List.setIfInBounds_toArray, List.set_cons_zero, List.set_cons_succ])
          refine AnyK.take (i := 11) (v := .int .u32 (pf : Int)) rfl (by kernel_rfl) (by kernel_rfl) (by kernel_rfl) (by kernel_rfl) (by kernel_rfl) (by kernel_rfl) (fun _ _ _ h => h) (Or.inl ⟨by rfl, ?_⟩) hS ?_
          · rintro w' ⟨a0, a1⟩
            go_simp
          (try simp only [Act.put, List.setIfInBounds_toArray, List.set_cons_zero, List.set_cons_succ])
          refine AnyK.take (i := 12) (v := .int .u32 (tz : Int)) rfl (by kernel_rfl) (by kernel_rfl) (by kernel_rfl) (by kernel_rfl) (by kernel_rfl) (by kernel_rfl) (fun _ _ _ h => h) (Or.inl ⟨by rfl, ?_⟩) hS ?_
          · rintro w' ⟨a0, a1⟩
            go_simp
          (try simp only [Act.put, List.setIfInBounds_toArray, List.set_cons_zero, List.set_cons_succ])
          refine AnyK.take (i := 13) (v := .pointer (some ⟨w2.heap.size, j + 1, none⟩)) rfl (by kernel_rfl) (by kernel_rfl) (by kernel_rfl) (by kernel_rfl) (by kernel_rfl) (by kernel_rfl) (fun _ _ _ h => h) (Or.inl ⟨by rfl, ?_⟩) hS ?_
          · rintro w' ⟨a0, a1⟩
            go_simp
          (try simp only [Act.put, List.setIfInBounds_toArray, List.set_cons_zero, List.set_cons_succ])
          refine AnyK.one (i := 14) (by kernel_rfl) rfl (fun K' hK => ?_)
          go_simp
          refine hK.out _ _ (fun h => absurd h (Bool.eq_false_iff.1 (by kernel_rfl))) ?_
          clear hK
          (try simp only [Act.put, List.setIfInBounds_toArray, List.set_cons_zero, List.set_cons_succ])
          refine AnyK.done (by kernel_rfl) ?_ _
          go_wp2_with fail
          have hRv3 := hRv2.set (j + 1) tz htzb rfl
          rw [List.set_set] at hRv3
          go_roundw
          case rel => exact ⟨j + 1 + 1, x * e / 4294967296, V.set (j + 1) tz, by omega, by go_num, hRv3, hRu2.other hRv2 hne1 _ _, hst, hcn, (hb2.setCell (p := ⟨w2.heap.size, j + 1, none⟩) (Nat.le_of_lt hlt12) _).drew⟩
          case measure => simp [intOf]; omega
    · have : m = i := by omega
      subst this
      have hvV : Hid (val V = val ys * e) := hSH.out.last hCY.out hyl.out hRv.len htk.out (by omega) hte.out
      clear hSH hCY
      have hx2 := hx1.below hb (Nat.le_refl _)
      go_wp2_with fail
      obtain ⟨wo, rfl⟩ : ∃ wo : World, wo = wr := ⟨_, rfl⟩
      obtain ⟨gx, ox, x0, rfl, hgx, hx0, hx0b, hcx0⟩ := hx1.cell (k := 0) (by omega)
      clear hx0 hx0b hcx0
      have hbX : Bd (xs ++ [0]) := by intro z hz; rcases List.mem_append.1 hz with h | h; exact hx.2.1 z h; simp at h; omega
      have hne5 : gx ≠ w1.heap.size := by omega
      have hne6 : w1.heap.size ≠ gx := by omega
      go_loopw [131] (fun v131 wr => ∃ (i cy : Nat) (U : List Nat), i ≤ n + 1 ∧ v131 = .int .i64 i ∧ Rw wr w1.heap.size (n + 1) U ∧ Rw wr w2.heap.size m V ∧ Hid (SH (xs ++ [0]) U e i cy) ∧ Hid (CY (xs ++ [0]) e i cy) ∧ Below w1.heap.size w1 wr) (fun i _ => n + 1 - (intOf i).toNat)
      case atStart => exact ⟨0, 0, _, by omega, rfl, hRu, hRv, SH.start _ _ _, .inl ⟨rfl, rfl⟩, hb⟩
      case round =>
        clear hRv hRu hb
        obtain ⟨i, cy, U, him, rfl, hRu, hRv, hSH, hCY, hb⟩ := hrel
        by_cases hlt : i < n
        · obtain ⟨gx', ox', x, hA', hgx', hxk', hxb, hcx⟩ := (hx1.below hb (Nat.le_refl _)).cell hlt
          obtain ⟨rfl, rfl⟩ : gx = gx' ∧ ox = ox' := by simpa using hA'
          have hxk : Hid ((xs ++ [0])[i]? = some x) := by show _ = _; rw [List.getElem?_append_left (by rw [hxl.out]; exact hlt)]; exact hxk'
          clear hA' hgx'
          obtain ⟨o, hok, hob, hco⟩ := hRu.cell (k := i) (by omega)
          have hfr := hRu.frozen i
          have hUl := Lib.hid hRu.len
          have hst : Hid (SH (xs ++ [0]) (U.set i ((x * e) % 4294967296 + cy)) e (i + 1) (x * e / 4294967296)) := hSH.out.step hxk.out (by rw [hUl.out]; omega)
          have hcn : Hid (CY (xs ++ [0]) e (i + 1) (x * e / 4294967296)) := .inr ⟨i, x, rfl, hxk.out, rfl⟩
          have hxe : Hid (((x : Int) * e) % 4294967296 = (((x * e) % 4294967296 : Nat) : Int)) := by show _ = _; rw [← Int.natCast_mul]; omega
          clear hok hxk'
          rcases Nat.eq_zero_or_pos i with h0 | h0
          · have hc0 : cy = 0 := hCY.out.zero hbX (.inl h0)
            subst h0 hc0
            rw [Nat.add_zero] at hcx
            go_wp2_with fail
            go_roundw
            case rel => exact ⟨1, x * e / 4294967296, _, by omega, by go_num, hRu.set 0 ((x * e) % 4294967296 + 0) (by omega) (by rw [Nat.add_zero, ← hxe.out, ← he2.out]), hRv.other hRu hne2 _ _, hst, hcn, hb.setCell (Nat.le_refl _) _⟩
            case measure => simp [intOf] <;> omega
          · rcases Nat.eq_zero_or_pos s with s0 | s0
            · have hc0 : cy = 0 := hCY.out.zero hbX (.inr (hs0.out s0))
              obtain rfl : e = 1 := hs0.out s0
              subst s0 hc0
              go_wp2_with fail
              go_roundw
              case rel => exact ⟨i + 1, x * 1 / 4294967296, _, by omega, by go_num, hRu.set i ((x * 1) % 4294967296 + 0) (by omega) (by rw [Nat.add_zero, Nat.mul_one]; omega), hRv.other hRu hne2 _ _, hst, hcn, hb.setCell (Nat.le_refl _) _⟩
              case measure => simp [intOf] <;> omega
            · obtain ⟨j, rfl⟩ : ∃ j, i = j + 1 := ⟨i - 1, by omega⟩
              obtain ⟨gx', ox', p, hA', hgx', hpk', hpb, hcp⟩ := (hx1.below hb (Nat.le_refl _)).cell (k := j) (by omega)
              obtain ⟨rfl, rfl⟩ : gx = gx' ∧ ox = ox' := by simpa using hA'
              clear hA' hgx'
              obtain rfl : cy = p * e / 4294967296 := hCY.out.at (by rw [List.getElem?_append_left (by rw [hxl.out]; omega)]; exact hpk')
              have hj1 : ¬ ((j : Int) + 1 < 0) := by omega
              have hj2 : (j : Int) + 1 < (n : Int) + 1 := by omega
              have hj3 : (j : Int) < (n : Int) := by omega
              have hs4 : IntKind.u64.wrap (32 - (s : Int)) = 32 - (s : Int) := by rw [IntKind.wrap_u64]; omega
              have hj4 : IntKind.i64.wrap (j : Int) = (j : Int) := by rw [IntKind.wrap_i64]; omega
              clear hpk'
              have hor := or_sh (x := x) hE.out hf1 he1 hpb
              have ht2 : p * e / 4294967296 + (x * e) % 4294967296 < 4294967296 := by have := hor.2; omega
              have hor := Lib.hid hor.1
              have hRu2 := hRu.set (j + 1) ((x * e) % 4294967296) (by omega) (i := (x : Int) * 2 ^ s % 4294967296) (by rw [← hxe.out, ← he2.out])
              have hRv2 := hRv.other hRu hne2 (j + 1) (.int .u32 ((x : Int) * 2 ^ s % 4294967296))
              have hb2 := hb.setCell (Nat.le_refl _) (p := ⟨w1.heap.size, j + 1, none⟩) (.int .u32 ((x : Int) * 2 ^ s % 4294967296))
              obtain ⟨wa, hwa⟩ : ∃ wa, wa = wr.setCell ⟨w1.heap.size, j + 1, none⟩ (.int .u32 ((x : Int) * 2 ^ s % 4294967296)) := ⟨_, rfl⟩
              have hcv : wa.cell? ⟨w1.heap.size, j + 1, none⟩ = some (.int .u32 (((x * e) % 4294967296 : Nat) : Int)) := by
                obtain ⟨q, hq1, hq2, hq3⟩ := hRu2.cell (k := j + 1) (by omega)
                rw [List.getElem?_set_self (by rw [hUl.out]; omega)] at hq1
                injection hq1 with hq1
                rw [hwa, hq3, hq1]
              have hcp2 : wa.cell? ⟨gx, ox + j, none⟩ = some (.int .u32 (p : Int)) := by
                rw [hwa, World.cell?_setCell_other _ _ _ _ (fun e => by injection e with e; exact hne6 e)]
                exact hcp
              go_upto_region 29 with (fail)
              rw [← hwa] at hRv2 hRu2 hb2 ⊢
              clear hwa hcp hcx hco hfr
              have hfr := hRu2.frozen (j + 1)
              obtain ⟨tv, htv'⟩ : ∃ tv, tv = x * e % 4294967296 := ⟨_, rfl⟩
              obtain ⟨pf, hpf'⟩ : ∃ pf, pf = p / f := ⟨_, rfl⟩
              obtain ⟨tz, htz'⟩ : ∃ tz, tz = tv + p * e / 4294967296 := ⟨_, rfl⟩
              have hor := hor.out
              have htb : tv < 4294967296 := by omega
              rw [← htv', ← hpf'] at hor
              rw [← htv'] at ht2 hst hcv
              rw [← htz'] at hor hst
              have htzb : tz < 4294967296 := by omega
              have hpf : (p : Int) / 2 ^ (32 - s) = (pf : Int) := by rw [hf2.out, hpf']; rfl
              have htv := Lib.hid htv'
              have htz := Lib.hid htz'
              clear htv' htz' hpf' hxe
              rw [← htv.out] at hRu2
              have hS : (fun w' => w'.cell? ⟨w1.heap.size, j + 1, none⟩ = some (.int .u32 (tv : Int)) ∧ w'.cell? ⟨gx, ox + j, none⟩ = some (.int .u32 (p : Int))) wa.drew := ⟨hcv, hcp2⟩
              refine wp_region_K (S := fun w' => w'.cell? ⟨w1.heap.size, j + 1, none⟩ = some (.int .u32 (tv : Int)) ∧ w'.cell? ⟨gx, ox + j, none⟩ = some (.int .u32 (p : Int))) (K := [14]) (by kernel_rfl) ?_
              refine AnyK.take (i := 0) (v := .slice (some ⟨w1.heap.size, 0, none⟩) (n + 1) (n + 1)) rfl (by kernel_rfl) (by kernel_rfl) (by kernel_rfl) (by kernel_rfl) (by kernel_rfl) (by kernel_rfl) (fun _ _ _ h => h) (Or.inl ⟨by rfl, ?_⟩) hS ?_
              · rintro w' ⟨a0, a1⟩
                go_simp
              (try simp only [Act.put, List.setIfInBounds_toArray, List.set_cons_zero, List.set_cons_succ])
              refine AnyK.take (i := 1) (v := .int .i64 ((j : Int) + 1)) rfl (by kernel_rfl) (by kernel_rfl) (by kernel_rfl) (by kernel_rfl) (by kernel_rfl) (by kernel_rfl) (fun _ _ _ h => h) (Or.inl ⟨by rfl, ?_⟩) hS ?_
              · rintro w' ⟨a0, a1⟩
                go_simp
              (try simp only [Act.put, List.setIfInBounds_toArray, List.set_cons_zero, List.set_cons_succ])
              refine AnyK.take (i := 2) (v := .pointer (some ⟨w1.heap.size, j + 1, none⟩)) rfl (by kernel_rfl) (by kernel_rfl) (by kernel_rfl) (by kernel_rfl) (by kernel_rfl) (by kernel_rfl) (fun _ _ _ h => h) (Or.inl ⟨by rfl, ?_⟩) hS ?_
              · rintro w' ⟨a0, a1⟩
                go_simp
              (try simp only [Act.put, List.setIfInBounds_toArray, List.set_cons_zero, List.set_cons_succ])
              refine AnyK.take (i := 3) (v := .int .u32 (tv : Int)) rfl (by kernel_rfl) (by kernel_rfl) (by kernel_rfl) (by kernel_rfl) (by kernel_rfl) (by kernel_rfl) (fun _ _ _ h => h) (Or.inl ⟨by rfl, ?_⟩) hS ?_
              · rintro w' ⟨a0, a1⟩
                go_simp
              (try simp only [Act.put, List.setIfInBounds_toArray, List.set_cons_zero, List.set_cons_succ])
              refine AnyK.take (i := 4) (v := .slice (some ⟨gx, ox, none⟩) n c) rfl (by kernel_rfl) (by kernel_rfl) (by kernel_rfl) (by kernel_rfl) (by kernel_rfl) (by kernel_rfl) (fun _ _ _ h => h) (Or.inl ⟨by rfl, ?_⟩) hS ?_
              · rintro w' ⟨a0, a1⟩
                go_simp
              (try simp only [Act.put, List.setIfInBounds_toArray, List.set_cons_zero, List.set_cons_succ])
              refine AnyK.take (i := 5) (v := .int .i64 ((j : Int) + 1)) rfl (by kernel_rfl) (by kernel_rfl) (by kernel_rfl) (by kernel_rfl) (by kernel_rfl) (by kernel_rfl) (fun _ _ _ h => h) (Or.inl ⟨by rfl, ?_⟩) hS ?_
              · rintro w' ⟨a0, a1⟩
                go_simp
              (try simp only [Act.put, List.setIfInBounds_toArray, List.set_cons_zero, List.set_cons_succ])
              refine AnyK.take (i := 6) (v := .int .i64 (j : Int)) rfl (by kernel_rfl) (by kernel_rfl) (by kernel_rfl) (by kernel_rfl) (by kernel_rfl) (by kernel_rfl) (fun _ _ _ h => h) (Or.inl ⟨by rfl, ?_⟩) hS ?_
              · rintro w' ⟨a0, a1⟩
                go_simp
              (try simp only [Act.put, List.setIfInBounds_toArray, List.set_cons_zero, List.set_cons_succ])
              refine AnyK.take (i := 7) (v := .pointer (some ⟨gx, ox + j, none⟩)) rfl (by kernel_rfl) (by kernel_rfl) (by kernel_rfl) (by kernel_rfl) (by kernel_rfl) (by kernel_rfl) (fun _ _ _ h => h) (Or.inl ⟨by rfl, ?_⟩) hS ?_
              · rintro w' ⟨a0, a1⟩
                go_simp
              (try simp only [Act.put, List.setIfInBounds_toArray, List.set_cons_zero, List.set_cons_succ])
              refine AnyK.take (i := 8) (v := .int .u32 (p : Int)) rfl (by kernel_rfl) (by kernel_rfl) (by kernel_rfl) (by kernel_rfl) (by kernel_rfl) (by kernel_rfl) (fun _ _ _ h => h) (Or.inl ⟨by rfl, ?_⟩) hS ?_
              · rintro w' ⟨a0, a1⟩
                go_simp
              (try simp only [Act.put, List.setIfInBounds_toArray, List.set_cons_zero, List.set_cons_succ])
              refine AnyK.take (i := 9) (v := .int .u64 (s : Int)) rfl (by kernel_rfl) (by kernel_rfl) (by kernel_rfl) (by kernel_rfl) (by kernel_rfl) (by kernel_rfl) (fun _ _ _ h => h) (Or.inl ⟨by rfl, ?_⟩) hS ?_
              · rintro w' ⟨a0, a1⟩
                go_simp
              (try simp only [Act.put, List.setIfInBounds_toArray, List.set_cons_zero, List.set_cons_succ])
              refine AnyK.take (i := 10) (v := .int .u64 (32 - (s : Int))) rfl (by kernel_rfl) (by kernel_rfl) (by kernel_rfl) (by kernel_rfl) (by kernel_rfl) (by kernel_rfl) (fun _ _ _ h => h) (Or.inl ⟨by rfl, ?_⟩) hS ?_
              · rintro w' ⟨a0, a1⟩
                go_simp
              (try simp only [Act.put, List.setIfInBounds_toArray, List.set_cons_zero, List.set_cons_succ])
              refine AnyK.take (i := 11) (v := .int .u32 (pf : Int)) rfl (by kernel_rfl) (by kernel_rfl) (by kernel_rfl) (by kernel_rfl) (by kernel_rfl) (by kernel_rfl) (fun _ _ _ h => h) (Or.inl ⟨by rfl, ?_⟩) hS ?_
              · rintro w' ⟨a0, a1⟩
                go_simp
              (try simp only [Act.put, List.setIfInBounds_toArray, List.set_cons_zero, List.set_cons_succ])
              refine AnyK.take (i := 12) (v := .int .u32 (tz : Int)) rfl (by kernel_rfl) (by kernel_rfl) (by kernel_rfl) (by kernel_rfl) (by kernel_rfl) (by kernel_rfl) (fun _ _ _ h => h) (Or.inl ⟨by rfl, ?_⟩) hS ?_
              · rintro w' ⟨a0, a1⟩
                go_simp
              (try simp only [Act.put, List.setIfInBounds_toArray, List.set_cons_zero, List.set_cons_succ])
              refine AnyK.take (i := 13) (v := .pointer (some ⟨w1.heap.size, j + 1, none⟩)) rfl (by kernel_rfl) (by kernel_rfl) (by kernel_rfl) (by kernel_rfl) (by kernel_rfl) (by kernel_rfl) (fun _ _ _ h => h) (Or.inl ⟨by rfl, ?_⟩) hS ?_
              · rintro w' ⟨a0, a1⟩
                go_simp
              (try simp only [Act.put, List.setIfInBounds_toArray, List.set_cons_zero, List.set_cons_succ])
              refine AnyK.one (i := 14) (by kernel_rfl) rfl (fun K' hK => ?_)
              go_simp
              refine hK.out _ _ (fun h => absurd h (Bool.eq_false_iff.1 (by kernel_rfl))) ?_
              clear hK
              (try simp only [Act.put, List.setIfInBounds_toArray, List.set_cons_zero, List.set_cons_succ])
              refine AnyK.done (by kernel_rfl) ?_ _
              go_wp2_with fail
              have hRu3 := hRu2.set (j + 1) tz htzb rfl
              rw [List.set_set] at hRu3
              go_roundw
              case rel => exact ⟨j + 1 + 1, x * e / 4294967296, U.set (j + 1) tz, by omega, by go_num, hRu3, hRv2.other hRu2 hne2 _ _, hst, hcn, (hb2.setCell (p := ⟨w1.heap.size, j + 1, none⟩) (Nat.le_refl _) _).drew⟩
              case measure => simp [intOf] <;> omega
        · by_cases hin : n = i
          · subst hin
            obtain ⟨tv, hok, htb, hco⟩ := hRu.cell (k := n) (by omega)
            have hUl := Lib.hid hRu.len
            have hx0 : Hid ((xs ++ [0])[n]? = some 0) := by show _ = _; rw [List.getElem?_append_right (by rw [hxl.out]; exact Nat.le_refl _), hxl.out]; simp
            have htv0 : Hid (tv = 0) := by have h := hSH.out.2 n (Nat.le_refl _) (by rw [hUl.out]; omega); rw [hok] at h; injection h
            have hst : Hid (SH (xs ++ [0]) (U.set n ((0 * e) % 4294967296 + cy)) e (n + 1) (0 * e / 4294967296)) := hSH.out.step hx0.out (by rw [hUl.out]; omega)
            have hcn : Hid (CY (xs ++ [0]) e (n + 1) (0 * e / 4294967296)) := .inr ⟨n, 0, rfl, hx0.out, rfl⟩
            rw [Nat.zero_mul, Nat.zero_mod, Nat.zero_add, Nat.zero_div] at hst
            rw [Nat.zero_mul, Nat.zero_div] at hcn
            rcases Nat.eq_zero_or_pos s with s0 | s0
            · have hc0 : cy = 0 := hCY.out.zero hbX (.inr (hs0.out s0))
              have hset : U.set n 0 = U := by
                apply List.ext_getElem?
                intro k
                by_cases hk : n = k
                · subst hk
                  rw [List.getElem?_set_self (by rw [hUl.out]; omega), hok, htv0.out]
                · rw [List.getElem?_set_ne hk]
              rw [hc0, hset] at hst
              clear hset hok hco
              subst s0 hc0
              go_wp2_with fail
              go_roundw
              case rel => exact ⟨n + 1, by omega, by omega, 0, U, hRu, hst, hcn⟩
              case measure => simp [intOf] <;> omega
            · obtain ⟨j, rfl⟩ : ∃ j, n = j + 1 := ⟨n - 1, by omega⟩
              obtain ⟨gx', ox', p, hA', hgx', hpk', hpb, hcp2⟩ := (hx1.below hb (Nat.le_refl _)).cell (k := j) (by omega)
              obtain ⟨rfl, rfl⟩ : gx = gx' ∧ ox = ox' := by simpa using hA'
              clear hA' hgx' hok
              obtain rfl : cy = p * e / 4294967296 := hCY.out.at (by rw [List.getElem?_append_left (by rw [hxl.out]; omega)]; exact hpk')
              have hj1 : ¬ ((j : Int) + 1 < 0) := by omega
              have hj2 : (j : Int) + 1 < (j : Int) + 1 + 1 := by omega
              have hj3 : (j : Int) < (j : Int) + 1 := by omega
              have hs4 : IntKind.u64.wrap (32 - (s : Int)) = 32 - (s : Int) := by rw [IntKind.wrap_u64]; omega
              have hj4 : IntKind.i64.wrap (j : Int) = (j : Int) := by rw [IntKind.wrap_i64]; omega
              clear hpk'
              have hor := or_sh (x := 0) hE.out hf1 he1 hpb
              rw [Nat.zero_mul, Nat.zero_mod, Nat.zero_add] at hor
              have hfr := hRu.frozen (j + 1)
              go_upto_region 29 with (fail)
              obtain ⟨pf, hpf'⟩ : ∃ pf, pf = p / f := ⟨_, rfl⟩
              obtain ⟨tz, htz'⟩ : ∃ tz, tz = p * e / 4294967296 := ⟨_, rfl⟩
              rw [← hpf', ← htz'] at hor
              rw [← htz'] at hst
              have htzb : tz < 4294967296 := hor.2
              have hor := hor.1
              have hor : bits .or .u32 (tv : Int) (pf : Int) = (tz : Int) := by rw [htv0.out]; exact hor
              have hpf : (p : Int) / 2 ^ (32 - s) = (pf : Int) := by rw [hf2.out, hpf']; rfl
              clear htz' hpf'
              have hS : (fun w' => w'.cell? ⟨w1.heap.size, j + 1, none⟩ = some (.int .u32 (tv : Int)) ∧ w'.cell? ⟨gx, ox + j, none⟩ = some (.int .u32 (p : Int))) wr.drew := ⟨hco, hcp2⟩
              refine wp_region_K (S := fun w' => w'.cell? ⟨w1.heap.size, j + 1, none⟩ = some (.int .u32 (tv : Int)) ∧ w'.cell? ⟨gx, ox + j, none⟩ = some (.int .u32 (p : Int))) (K := [14]) (by kernel_rfl) ?_
              refine AnyK.take (i := 0) (v := .slice (some ⟨w1.heap.size, 0, none⟩) (j + 1 + 1) (j + 1 + 1)) rfl (by kernel_rfl) (by kernel_rfl) (by kernel_rfl) (by kernel_rfl) (by kernel_rfl) (by kernel_rfl) (fun _ _ _ h => h) (Or.inl ⟨by rfl, ?_⟩) hS ?_
              · rintro w' ⟨a0, a1⟩
                go_simp
              (try simp only [Act.put, List.setIfInBounds_toArray, List.set_cons_zero, List.set_cons_succ])
              refine AnyK.take (i := 1) (v := .int .i64 ((j : Int) + 1)) rfl (by kernel_rfl) (by kernel_rfl) (by kernel_rfl) (by kernel_rfl) (by kernel_rfl) (by kernel_rfl) (fun _ _ _ h => h) (Or.inl ⟨by rfl, ?_⟩) hS ?_
              · rintro w' ⟨a0, a1⟩
                go_simp
              (try simp only [Act.put, List.setIfInBounds_toArray, List.set_cons_zero, List.set_cons_succ])
              refine AnyK.take (i := 2) (v := .pointer (some ⟨w1.heap.size, j + 1, none⟩)) rfl (by kernel_rfl) (by kernel_rfl) (by kernel_rfl) (by kernel_rfl) (by kernel_rfl) (by kernel_rfl) (fun _ _ _ h => h) (Or.inl ⟨by rfl, ?_⟩) hS ?_
              · rintro w' ⟨a0, a1⟩
                go_simp
              (try simp only [Act.put, List.setIfInBounds_toArray, List.set_cons_zero, List.set_cons_succ])
              refine AnyK.take (i := 3) (v := .int .u32 (tv : Int)) rfl (by kernel_rfl) (by kernel_rfl) (by kernel_rfl) (by kernel_rfl) (by kernel_rfl) (by kernel_rfl) (fun _ _ _ h => h) (Or.inl ⟨by rfl, ?_⟩) hS ?_
              · rintro w' ⟨a0, a1⟩
                go_simp
              (try simp only [Act.put, List.setIfInBounds_toArray, List.set_cons_zero, List.set_cons_succ])
              refine AnyK.take (i := 4) (v := .slice (some ⟨gx, ox, none⟩) (j + 1) c) rfl (by kernel_rfl) (by kernel_rfl) (by kernel_rfl) (by kernel_rfl) (by kernel_rfl) (by kernel_rfl) (fun _ _ _ h => h) (Or.inl ⟨by rfl, ?_⟩) hS ?_
              · rintro w' ⟨a0, a1⟩
                go_simp
              (try simp only [Act.put, List.setIfInBounds_toArray, List.set_cons_zero, List.set_cons_succ])
              refine AnyK.take (i := 5) (v := .int .i64 ((j : Int) + 1)) rfl (by kernel_rfl) (by kernel_rfl) (by kernel_rfl) (by kernel_rfl) (by kernel_rfl) (by kernel_rfl) (fun _ _ _ h => h) (Or.inl ⟨by rfl, ?_⟩) hS ?_
              · rintro w' ⟨a0, a1⟩
                go_simp
              (try simp only [Act.put, List.setIfInBounds_toArray, List.set_cons_zero, List.set_cons_succ])
              refine AnyK.take (i := 6) (v := .int .i64 (j : Int)) rfl (by kernel_rfl) (by kernel_rfl) (by kernel_rfl) (by kernel_rfl) (by kernel_rfl) (by kernel_rfl) (fun _ _ _ h => h) (Or.inl ⟨by rfl, ?_⟩) hS ?_
              · rintro w' ⟨a0, a1⟩
                go_simp
              (try simp only [Act.put, List.setIfInBounds_toArray, List.set_cons_zero, List.set_cons_succ])
              refine AnyK.take (i := 7) (v := .pointer (some ⟨gx, ox + j, none⟩)) rfl (by kernel_rfl) (by kernel_rfl) (by kernel_rfl) (by kernel_rfl) (by kernel_rfl) (by kernel_rfl) (fun _ _ _ h => h) (Or.inl ⟨by rfl, ?_⟩) hS ?_
              · rintro w' ⟨a0, a1⟩
                go_simp
              (try simp only [Act.put, List.setIfInBounds_toArray, List.set_cons_zero, List.set_cons_succ])
              refine AnyK.take (i := 8) (v := .int .u32 (p : Int)) rfl (by kernel_rfl) (by kernel_rfl) (by kernel_rfl) (by kernel_rfl) (by kernel_rfl) (by kernel_rfl) (fun _ _ _ h => h) (Or.inl ⟨by rfl, ?_⟩) hS ?_
              · rintro w' ⟨a0, a1⟩
                go_simp
              (try simp only [Act.put, List.setIfInBounds_toArray, List.set_cons_zero, List.set_cons_succ])
              refine AnyK.take (i := 9) (v := .int .u64 (s : Int)) rfl (by kernel_rfl) (by kernel_rfl) (by kernel_rfl) (by kernel_rfl) (by kernel_rfl) (by kernel_rfl) (fun _ _ _ h => h) (Or.inl ⟨by rfl, ?_⟩) hS ?_
              · rintro w' ⟨a0, a1⟩
                go_simp
              (try simp only [Act.put, List.setIfInBounds_toArray, List.set_cons_zero, List.set_cons_succ])
              refine AnyK.take (i := 10) (v := .int .u64 (32 - (s : Int))) rfl (by kernel_rfl) (by kernel_rfl) (by kernel_rfl) (by kernel_rfl) (by kernel_rfl) (by kernel_rfl) (fun _ _ _ h => h) (Or.inl ⟨by rfl, ?_⟩) hS ?_
              · rintro w' ⟨a0, a1⟩
                go_simp
              (try simp only [Act.put, List.setIfInBounds_toArray, List.set_cons_zero, List.set_cons_succ])
              refine AnyK.take (i := 11) (v := .int .u32 (pf : Int)) rfl (by kernel_rfl) (by kernel_rfl) (by kernel_rfl) (by kernel_rfl) (by kernel_rfl) (by kernel_rfl) (fun _ _ _ h => h) (Or.inl ⟨by rfl, ?_⟩) hS ?_
              · rintro w' ⟨a0, a1⟩
                go_simp
              (try simp only [Act.put, List.setIfInBounds_toArray, List.set_cons_zero, List.set_cons_succ])
              refine AnyK.take (i := 12) (v := .int .u32 (tz : Int)) rfl (by kernel_rfl) (by kernel_rfl) (by kernel_rfl) (by kernel_rfl) (by kernel_rfl) (by kernel_rfl) (fun _ _ _ h => h) (Or.inl ⟨by rfl, ?_⟩) hS ?_
              · rintro w' ⟨a0, a1⟩
                go_simp
              (try simp only [Act.put, List.setIfInBounds_toArray, List.set_cons_zero, List.set_cons_succ])
              refine AnyK.take (i := 13) (v := .pointer (some ⟨w1.heap.size, j + 1, none⟩)) rfl (by kernel_rfl) (by kernel_rfl) (by kernel_rfl) (by kernel_rfl) (by kernel_rfl) (by kernel_rfl) (fun _ _ _ h => h) (Or.inl ⟨by rfl, ?_⟩) hS ?_
              · rintro w' ⟨a0, a1⟩
                go_simp
              (try simp only [Act.put, List.setIfInBounds_toArray, List.set_cons_zero, List.set_cons_succ])
              refine AnyK.one (i := 14) (by kernel_rfl) rfl (fun K' hK => ?_)
              go_simp
              refine hK.out _ _ (fun h => absurd h (Bool.eq_false_iff.1 (by kernel_rfl))) ?_
              clear hK
              (try simp only [Act.put, List.setIfInBounds_toArray, List.set_cons_zero, List.set_cons_succ])
              refine AnyK.done (by kernel_rfl) ?_ _
              go_wp2_with fail
              go_roundw
              case rel => exact ⟨j + 1 + 1, by omega, by omega, 0, U.set (j + 1) tz, hRu.set (j + 1) tz htzb rfl, hRv.other hRu hne2 _ _, hst, hcn, (hb.setCell (p := ⟨w1.heap.size, j + 1, none⟩) (Nat.le_refl _) _).drew⟩
              case measure => simp [intOf] <;> omega
          · obtain rfl : i = n + 1 := by omega
            have hvU : Hid (val U = val xs * e) := by
              have h1 := hSH.out.1
              have h2 := hCY.out.at (p := 0) (by rw [List.getElem?_append_right (by rw [hxl.out]; exact Nat.le_refl _), hxl.out]; simp)
              rw [Nat.zero_mul, Nat.zero_div] at h2
              rw [h2, Nat.mul_zero, Nat.add_zero, List.take_of_length_le (by rw [hRu.len]; exact Nat.le_refl _), List.take_of_length_le (by simp [hxl.out]), val_append] at h1
              show val U = _
              simpa [val] using h1
            clear hSH hCY
            obtain ⟨wo2, rfl⟩ : ∃ wo2 : World, wo2 = wr := ⟨_, rfl⟩
            have hl1 := hRu.lt
            have hl2 := hRv.lt
            go_wp2_with (at_make; refine wpList_make_full _ rfl _ _ 30 rfl wo2.heap.size 85 i0 (.int .u32 0) 1 Try.underlying30 hi hz0 hz1 .i64 .i64 _ _ (n - m + 1) rfl rfl ?c1 ?c1' ?c2 ?c3 ?c4 ?_; rotate_left 5; intro w4 hown hg1)
            case c1 => omega
            case c1' => omega
            case c2 => rw [hz2]; omega
            case c3 => simp [maxLen]; omega
            case c4 => exact Nat.le_refl _
            have hb4 : Below w1.heap.size w1 w4 := hb.grown hg1 hb.size (by intro k hk; cases hk)
            have hRo4 := Rw.new hown
            have hRu4 := hRu.grown hg1
            have hRv4 := hRv.grown hg1
            have hne7 : w1.heap.size ≠ wo2.heap.size := by omega
            have hne8 : wo2.heap.size ≠ w1.heap.size := by omega
            have hne9 : w2.heap.size ≠ wo2.heap.size := by omega
            have hneA : wo2.heap.size ≠ w2.heap.size := by omega
            have hQ0 : Hid (QS (val xs * e) (val ys * e) (n - m + 1) U (List.replicate (n - m + 1) 0)) := QS.start hvU.out hx.2.1 hxl.out hyl.out ty (by omega) hmn he1
            have hlow : Hid (4294967296 ^ (m - 1) ≤ val ys * e) := by
              have h2 := ty.low (by intro h; subst h; have := hyl.out; simp at this; omega)
              rw [hyl.out] at h2
              exact Nat.le_trans h2 (Nat.le_mul_of_pos_right _ he1)
            clear hg1 hown hvU hRu hRv hb
            go_loopw [17] (fun v17 wr => ∃ (k : Nat) (z : Int) (U O : List Nat), k ≤ n - m + 1 ∧ z = (k : Int) - 1 ∧ v17 = .int .i64 z ∧ Rw wr w1.heap.size (n + 1) U ∧ Rw wr w2.heap.size m V ∧ Rw wr wo2.heap.size (n - m + 1) O ∧ Hid (QS (val xs * e) (val ys * e) k U O) ∧ Below w1.heap.size w1 wr) (fun i _ => (intOf i + 1).toNat)
            case atStart => exact ⟨n - m + 1, (n : Int) - m, U, _, by omega, by omega, rfl, hRu4, hRv4, hRo4, hQ0, hb4⟩
            case round =>
              clear hRu4 hRv4 hRo4 hQ0 hb4
              obtain ⟨k, z, U, O, hkm, hz, rfl, hRu, hRv, hRo, hQ, hb⟩ := hrel
              rcases Nat.eq_zero_or_pos k with h0 | h0
              · subst h0
                obtain rfl : z = -1 := by omega
                obtain ⟨wo3, rfl⟩ : ∃ wo3 : World, wo3 = wr := ⟨_, rfl⟩
                have hl3 := hRu.lt
                have hl5 := hRo.lt
                have hVm : Hid (val ys * e < 4294967296 ^ m) := by
                  have h := val_lt V hRv.2
                  rw [hRv.len, hvV.out] at h
                  exact h
                obtain ⟨u0, hu0, -, -⟩ := hRu.cell (k := 0) (by omega)
                have hRS0 : Hid (RS U (List.replicate m 0) e 0) := RS.start _ hQ.out rfl rfl hE.out hu0
                clear hu0 hz hkm
                go_wp2_with (at_make; refine wpList_make_full _ rfl _ _ 30 rfl wo3.heap.size 85 i0 (.int .u32 0) 1 Try.underlying30 hi hz0 hz1 .i64 .i64 _ _ m rfl rfl ?c1 ?c1' ?c2 ?c3 ?c4 ?_; rotate_left 5; intro w5 hown hg1)
                case c1 => rfl
                case c1' => rfl
                case c2 => rw [hz2]; omega
                case c3 => simp [maxLen]; omega
                case c4 => exact Nat.le_refl _
                have hb5 : Below w1.heap.size w1 w5 := hb.grown hg1 hb.size (by intro k hk; cases hk)
                have hRr5 := Rw.new hown
                have hRu5 := hRu.grown hg1
                have hRo5 := hRo.grown hg1
                have hneB : w1.heap.size ≠ wo3.heap.size := by omega
                have hneC : wo3.heap.size ≠ w1.heap.size := by omega
                have hneD : wo2.heap.size ≠ wo3.heap.size := by omega
                have hl6 : w1.heap.size ≤ wo3.heap.size := by omega
                clear hg1 hown hRu hRv hRo hb
                go_loopw [361] (fun v361 wq => ∃ (i : Nat) (R : List Nat), i ≤ m ∧ v361 = .int .i64 i ∧ Rw wq wo3.heap.size m R ∧ Rw wq w1.heap.size (n + 1) U ∧ Rw wq wo2.heap.size (n - m + 1) O ∧ Hid (RS U R e i) ∧ Below w1.heap.size w1 wq) (fun i _ => m - (intOf i).toNat)
                case atStart => exact ⟨0, _, by omega, rfl, hRr5, hRu5, hRo5, hRS0, hb5⟩
                case round =>
                  clear hRr5 hRu5 hRo5 hRS0 hb5
                  obtain ⟨i, R, him, rfl, hRr, hRu, hRo, hRS, hb⟩ := hrel
                  by_cases hlt : i < m
                  · obtain ⟨x, hx, hxb, hcx⟩ := hRu.cell (k := i) (by omega)
                    obtain ⟨y, hy, hyb, hcp⟩ := hRu.cell (k := i + 1) (by omega)
                    obtain ⟨o, ho, hob, hco⟩ := hRr.cell hlt
                    have hfr := hRr.frozen i
                    have hRl := Lib.hid hRr.len
                    have hst := hRS.out.step hE.out hx hy (by rw [hRl.out]; exact hlt)
                    clear hx hy ho hRS
                    rcases Nat.eq_zero_or_pos s with s0 | s0
                    · obtain rfl : e = 1 := hs0.out s0
                      have hf : f = 4294967296 := by have h := hE.out.2; rw [Nat.one_mul] at h; exact h
                      rw [hf, Nat.mul_mod_left, Nat.div_one, Nat.add_zero] at hst
                      have hst := Lib.hid hst
                      clear hf
                      subst s0
                      go_wp2_with fail
                      go_roundw
                      case rel => exact ⟨i + 1, R.set i x, by omega, by go_num, hRr.set i x hxb (by omega), hRu.other hRr hneB _ _, hRo.other hRr hneD _ _, hst.out, hb.setCell hl6 _⟩
                      case measure => simp [intOf] <;> omega
                    · have hor := or_sh2 (y := y) hE.out (by omega) hf1 he1 hxb
                      obtain ⟨xe, hxe'⟩ : ∃ xe, xe = x / e := ⟨_, rfl⟩
                      obtain ⟨yf, hyf'⟩ : ∃ yf, yf = (y * f) % 4294967296 := ⟨_, rfl⟩
                      obtain ⟨tz, htz'⟩ : ∃ tz, tz = xe + yf := ⟨_, rfl⟩
                      rw [← hxe', ← hyf', ← htz'] at hor hst
                      obtain ⟨hor, htzb⟩ := hor
                      have hst := Lib.hid hst
                      have hxe : (x : Int) / 2 ^ s = (xe : Int) := by rw [he2.out, hxe']; rfl
                      have hyf : IntKind.u32.wrap ((y : Int) * 2 ^ (32 - s)) = (yf : Int) := by rw [IntKind.wrap_u32, hf2.out, hyf', ← Int.natCast_mul]; omega
                      have hxeb : xe < 4294967296 := by omega
                      have hj1 : ¬ ((i : Int) + 1 < 0) := by omega
                      have hj2 : (i : Int) + 1 < (n : Int) + 1 := by omega
                      have hj3 : (i : Int) < (m : Int) := by omega
                      have hs4 : IntKind.u64.wrap (32 - (s : Int)) = 32 - (s : Int) := by rw [IntKind.wrap_u64]; omega
                      have hj4 : IntKind.i64.wrap ((i : Int) + 1) = (i : Int) + 1 := by rw [IntKind.wrap_i64]; omega
                      clear hxe' hyf' htz'
                      have hRr2 := hRr.set i xe hxeb rfl
                      have hRu2 := hRu.other hRr hneB i (.int .u32 (xe : Int))
                      have hRo2 := hRo.other hRr hneD i (.int .u32 (xe : Int))
                      have hb2 := hb.setCell hl6 (p := ⟨wo3.heap.size, i, none⟩) (.int .u32 (xe : Int))
                      obtain ⟨wa, hwa⟩ : ∃ wa, wa = wr.setCell ⟨wo3.heap.size, i, none⟩ (.int .u32 (xe : Int)) := ⟨_, rfl⟩
                      have hcv : wa.cell? ⟨wo3.heap.size, i, none⟩ = some (.int .u32 (xe : Int)) := by
                        obtain ⟨q, hq1, hq2, hq3⟩ := hRr2.cell hlt
                        rw [List.getElem?_set_self (by rw [hRl.out]; exact hlt)] at hq1
                        injection hq1 with hq1
                        rw [hwa, hq3, hq1]
                      have hcp2 : wa.cell? ⟨w1.heap.size, i + 1, none⟩ = some (.int .u32 (y : Int)) := by
                        rw [hwa, World.cell?_setCell_other _ _ _ _ (fun e => by injection e with e; exact hneC e)]
                        exact hcp
                      go_upto_region 74 with (fail)
                      rw [← hwa] at hRr2 hRu2 hRo2 hb2 ⊢
                      clear hwa hcp hcx hco hfr
                      have hfr := hRr2.frozen i
                      have hS : (fun w' => w'.cell? ⟨wo3.heap.size, i, none⟩ = some (.int .u32 (xe : Int)) ∧ w'.cell? ⟨w1.heap.size, i + 1, none⟩ = some (.int .u32 (y : Int))) wa.drew := ⟨hcv, hcp2⟩
                      refine wp_region_K (S := (fun w' => w'.cell? ⟨wo3.heap.size, i, none⟩ = some (.int .u32 (xe : Int)) ∧ w'.cell? ⟨w1.heap.size, i + 1, none⟩ = some (.int .u32 (y : Int)))) (K := [14]) (by kernel_rfl) ?_
                      refine AnyK.take (i := 0) (v := .slice (some ⟨wo3.heap.size, 0, none⟩) m m) rfl (by kernel_rfl) (by kernel_rfl) (by kernel_rfl) (by kernel_rfl) (by kernel_rfl) (by kernel_rfl) (fun _ _ _ h => h) (Or.inl ⟨by rfl, ?_⟩) hS ?_
                      · rintro w' ⟨a0, a1⟩
                        go_simp
                      (try simp only [Act.put, List.setIfInBounds_toArray, List.set_cons_zero, List.set_cons_succ])
                      refine AnyK.take (i := 1) (v := .int .i64 (i : Int)) rfl (by kernel_rfl) (by kernel_rfl) (by kernel_rfl) (by kernel_rfl) (by kernel_rfl) (by kernel_rfl) (fun _ _ _ h => h) (Or.inl ⟨by rfl, ?_⟩) hS ?_
                      · rintro w' ⟨a0, a1⟩
                        go_simp
                      (try simp only [Act.put, List.setIfInBounds_toArray, List.set_cons_zero, List.set_cons_succ])
                      refine AnyK.take (i := 2) (v := .pointer (some ⟨wo3.heap.size, i, none⟩)) rfl (by kernel_rfl) (by kernel_rfl) (by kernel_rfl) (by kernel_rfl) (by kernel_rfl) (by kernel_rfl) (fun _ _ _ h => h) (Or.inl ⟨by rfl, ?_⟩) hS ?_
                      · rintro w' ⟨a0, a1⟩
                        go_simp
                      (try simp only [Act.put, List.setIfInBounds_toArray, List.set_cons_zero, List.set_cons_succ])
                      refine AnyK.take (i := 3) (v := .int .u32 (xe : Int)) rfl (by kernel_rfl) (by kernel_rfl) (by kernel_rfl) (by kernel_rfl) (by kernel_rfl) (by kernel_rfl) (fun _ _ _ h => h) (Or.inl ⟨by rfl, ?_⟩) hS ?_
                      · rintro w' ⟨a0, a1⟩
                        go_simp
                      (try simp only [Act.put, List.setIfInBounds_toArray, List.set_cons_zero, List.set_cons_succ])
                      refine AnyK.take (i := 4) (v := .slice (some ⟨w1.heap.size, 0, none⟩) (n + 1) (n + 1)) rfl (by kernel_rfl) (by kernel_rfl) (by kernel_rfl) (by kernel_rfl) (by kernel_rfl) (by kernel_rfl) (fun _ _ _ h => h) (Or.inl ⟨by rfl, ?_⟩) hS ?_
                      · rintro w' ⟨a0, a1⟩
                        go_simp
                      (try simp only [Act.put, List.setIfInBounds_toArray, List.set_cons_zero, List.set_cons_succ])
                      refine AnyK.take (i := 5) (v := .int .i64 (i : Int)) rfl (by kernel_rfl) (by kernel_rfl) (by kernel_rfl) (by kernel_rfl) (by kernel_rfl) (by kernel_rfl) (fun _ _ _ h => h) (Or.inl ⟨by rfl, ?_⟩) hS ?_
                      · rintro w' ⟨a0, a1⟩
                        go_simp
                      (try simp only [Act.put, List.setIfInBounds_toArray, List.set_cons_zero, List.set_cons_succ])
                      refine AnyK.take (i := 6) (v := .int .i64 ((i : Int) + 1)) rfl (by kernel_rfl) (by kernel_rfl) (by kernel_rfl) (by kernel_rfl) (by kernel_rfl) (by kernel_rfl) (fun _ _ _ h => h) (Or.inl ⟨by rfl, ?_⟩) hS ?_
                      · rintro w' ⟨a0, a1⟩
                        go_simp
                      (try simp only [Act.put, List.setIfInBounds_toArray, List.set_cons_zero, List.set_cons_succ])
                      refine AnyK.take (i := 7) (v := .pointer (some ⟨w1.heap.size, i + 1, none⟩)) rfl (by kernel_rfl) (by kernel_rfl) (by kernel_rfl) (by kernel_rfl) (by kernel_rfl) (by kernel_rfl) (fun _ _ _ h => h) (Or.inl ⟨by rfl, ?_⟩) hS ?_
                      · rintro w' ⟨a0, a1⟩
                        go_simp
                      (try simp only [Act.put, List.setIfInBounds_toArray, List.set_cons_zero, List.set_cons_succ])
                      refine AnyK.take (i := 8) (v := .int .u32 (y : Int)) rfl (by kernel_rfl) (by kernel_rfl) (by kernel_rfl) (by kernel_rfl) (by kernel_rfl) (by kernel_rfl) (fun _ _ _ h => h) (Or.inl ⟨by rfl, ?_⟩) hS ?_
                      · rintro w' ⟨a0, a1⟩
                        go_simp
                      (try simp only [Act.put, List.setIfInBounds_toArray, List.set_cons_zero, List.set_cons_succ])
                      refine AnyK.take (i := 9) (v := .int .u64 (s : Int)) rfl (by kernel_rfl) (by kernel_rfl) (by kernel_rfl) (by kernel_rfl) (by kernel_rfl) (by kernel_rfl) (fun _ _ _ h => h) (Or.inl ⟨by rfl, ?_⟩) hS ?_
                      · rintro w' ⟨a0, a1⟩
                        go_simp
                      (try simp only [Act.put, List.setIfInBounds_toArray, List.set_cons_zero, List.set_cons_succ])
                      refine AnyK.take (i := 10) (v := .int .u64 (32 - (s : Int))) rfl (by kernel_rfl) (by kernel_rfl) (by kernel_rfl) (by kernel_rfl) (by kernel_rfl) (by kernel_rfl) (fun _ _ _ h => h) (Or.inl ⟨by rfl, ?_⟩) hS ?_
                      · rintro w' ⟨a0, a1⟩
                        go_simp
                      (try simp only [Act.put, List.setIfInBounds_toArray, List.set_cons_zero, List.set_cons_succ])
                      refine AnyK.take (i := 11) (v := .int .u32 (yf : Int)) rfl (by kernel_rfl) (by kernel_rfl) (by kernel_rfl) (by kernel_rfl) (by kernel_rfl) (by kernel_rfl) (fun _ _ _ h => h) (Or.inl ⟨by rfl, ?_⟩) hS ?_
                      · rintro w' ⟨a0, a1⟩
                        go_simp
                      (try simp only [Act.put, List.setIfInBounds_toArray, List.set_cons_zero, List.set_cons_succ])
                      refine AnyK.take (i := 12) (v := .int .u32 (tz : Int)) rfl (by kernel_rfl) (by kernel_rfl) (by kernel_rfl) (by kernel_rfl) (by kernel_rfl) (by kernel_rfl) (fun _ _ _ h => h) (Or.inl ⟨by rfl, ?_⟩) hS ?_
                      · rintro w' ⟨a0, a1⟩
                        go_simp
                      (try simp only [Act.put, List.setIfInBounds_toArray, List.set_cons_zero, List.set_cons_succ])
                      refine AnyK.take (i := 13) (v := .pointer (some ⟨wo3.heap.size, i, none⟩)) rfl (by kernel_rfl) (by kernel_rfl) (by kernel_rfl) (by kernel_rfl) (by kernel_rfl) (by kernel_rfl) (fun _ _ _ h => h) (Or.inl ⟨by rfl, ?_⟩) hS ?_
                      · rintro w' ⟨a0, a1⟩
                        go_simp
                      (try simp only [Act.put, List.setIfInBounds_toArray, List.set_cons_zero, List.set_cons_succ])
                      refine AnyK.one (i := 14) (by kernel_rfl) rfl (fun K' hK => ?_)
                      go_simp
                      refine hK.out _ _ (fun h => absurd h (Bool.eq_false_iff.1 (by kernel_rfl))) ?_
                      clear hK
                      (try simp only [Act.put, List.setIfInBounds_toArray, List.set_cons_zero, List.set_cons_succ])
                      refine AnyK.done (by kernel_rfl) ?_ _
                      go_wp2_with fail
                      have hRr3 := hRr2.set i tz htzb rfl
                      rw [List.set_set] at hRr3
                      go_roundw
                      case rel => exact ⟨i + 1, R.set i tz, by omega, by go_num, hRr3, hRu2.other hRr2 hneB _ _, hRo2.other hRr2 hneD _ _, hst.out, (hb2.setCell (p := ⟨wo3.heap.size, i, none⟩) hl6 _).drew⟩
                      case measure => simp [intOf] <;> omega
                  · have : m = i := by omega
                    subst this
                    have hfin := Lib.hid (hRS.out.last hQ.out rfl rfl hVm.out hRr.len he1)
                    have hq : Hid (val O = val xs / val ys ∧ val R = val xs % val ys) := by
                      obtain ⟨h1, h2⟩ := hfin.out
                      show _ ∧ _
                      rw [h1]
                      constructor
                      · rw [Nat.mul_add_div (by omega), Nat.div_eq_of_lt h2]; rfl
                      · rw [Nat.mul_add_mod, Nat.mod_eq_of_lt h2]
                    clear hfin
                    go_wp2_with fail
                    go_ret2
                    exact ⟨some ⟨wo2.heap.size, 0, none⟩, n - m + 1, n - m + 1, O, some ⟨wo3.heap.size, 0, none⟩, m, m, R, rfl, hRo.u32, hRr.u32, hq.out.1, hq.out.2, by omega, by omega, hb1.trans (Below.mono hb hb1.size)⟩
              · obtain ⟨j, rfl⟩ : ∃ j, k = j + 1 := ⟨k - 1, by omega⟩
                obtain rfl : z = (j : Int) := by omega
                clear hz h0
                obtain ⟨u0, hu0, hu0b, hc0⟩ := hRu.cell (k := j + m) (by omega)
                obtain ⟨u1, hu1, hu1b, hc1⟩ := hRu.cell (k := j + m - 1) (by omega)
                obtain ⟨u2, hu2, hu2b, hc2⟩ := hRu.cell (k := j + m - 2) (by omega)
                obtain ⟨v1, hv1, hv1b, hd1⟩ := hRv.cell (k := m - 1) (by omega)
                obtain ⟨v2, hv2, hv2b, hd2⟩ := hRv.cell (k := m - 2) (by omega)
                have hW : Hid (VW (val ys * e) (val (U.drop j)) (u0 * 4294967296 + u1) u2 v1 v2) := hQ.out.view hRu.2 hRv.2 hRv.len hvV.out hm hlow.out hu0 hu1 hu2 hv1 hv2
                have hv1p : 0 < v1 := by obtain ⟨W, U3, V3, -, -, -, -, -, -, h, -, -⟩ := hW.out; exact h
                have hu0h := Lib.hid hu0
                have hu2h := Lib.hid hu2
                have hv1h := Lib.hid hv1
                have hv2h := Lib.hid hv2
                clear hu0 hu1 hu2 hv1 hv2
                have hor := or_shl hu0b hu1b
                obtain ⟨hor1, hor2⟩ := hor
                obtain ⟨tp, htp⟩ : ∃ tp, tp = u0 * 4294967296 + u1 := ⟨_, rfl⟩
                rw [← htp] at hor1 hor2 hW
                have hdv := tdivN tp v1
                have hmd := tmodN tp v1
                have htpb : tp < 18446744073709551616 := by omega
                have hq0b : tp / v1 < 18446744073709551616 := Nat.lt_of_le_of_lt (Nat.div_le_self _ _) htpb
                have hr0b : tp % v1 < 4294967296 := Nat.lt_trans (Nat.mod_lt _ hv1p) hv1b
                have hQ1 : Hid (Qh (val ys * e) (val (U.drop j)) tp v1 (tp / v1) (tp % v1)) := hW.out.init
                obtain ⟨q0, hq0⟩ : ∃ q0, q0 = tp / v1 := ⟨_, rfl⟩
                obtain ⟨r0, hr0⟩ : ∃ r0, r0 = tp % v1 := ⟨_, rfl⟩
                rw [← hq0] at hdv hq0b hQ1
                rw [← hr0] at hmd hr0b hQ1
                clear hq0 hr0 htp
                have hvne : ((v1 : Int) == 0) = false := by simp; omega
                go_upto_region 36 with (fail)
                go_quiet (fail)
                go_upto_region 37 with (fail)
                go_quiet (fail)
                go_upto_block 8 with fail
                rename_i Kt hKt
                have hpos : Hid (0 < val ys * e) := hW.out.pos
                refine quo_guess _ _ _ _ _ _ _ _ _ _ _ _ _ _ _ _ _ _ _ _ _ _ _ _ _ _ _ _ _ _ _ _ _ _ _ _ _ _ _ _ _ _ _ _ _ _ _ _ _ _ _ _ _ _ _ _ _ _ _ _ _ _ _ _ _ _ _ _ _ _ _ _ _ _ _ _ _ _ _ _ _ _ _ _ _ _ _ _ _ _ _ _ _ _ _ _ _ _ _ _ _ _ _ _ _ _ _ _ _ _ _ _ _ _ _ _ _ _ _ _ _ _ _ _ _ _ _ _ _ _ _ _ _ _ _ _ _ _ _ _ _ _ _ _ _ _ _ _ _ _ _ _ _ _ _ _ _ _ _ _ _ _ _ _ _ _ _ _ _ _ _ _ _ _ _ _ _ _ _ _ _ _ _ _ _ _ _ _ _ _ _ _ _ _ _ _ _ _ _ _ _ _ _ _ _ _ _ _ _ _ _ _ _ _ _ _ _ _ _ _ _ _ _ _ _ _ _ _ _ _ _ _ _ _ _ _ _ _ _ _ _ _ _ _ _ _ _ _ _ _ _ _ _ _ _ _ _ _ _ _ _ _ _ _ _ _ _ _ _ _ _ _ _ _ _ _ _ _ _ _ _ _ _ _ _ _ _ _ _ _ _ _ _ _ _ _ _ _ _ _ _ _ _ _ _ _ _ _ _ _ _ _ _ _ _ _ _ _ _ _ _ _ _ _ _ _ _ _ _ _ _ _ _ _ _ _ _ _ _ _ _ _ _ _ _ _ _ _ _ _ _ _ _ _ _ _ _ _ _ _ _ _ _ _ _ _ _ _ _ _ _ _ _ _ _ _ _ _ _ _ _ _ _ _ _ _ n m j w1.heap.size w2.heap.size wo2.heap.size e tp v1 v2 u0 u2 q0 r0 ys U V O w1 _ hn hm hmn hkm hu2b hv1b hv2b hW hu2h hv1h hv2h hq0b hr0b hQ1 hRu hRv hRo (bdN (bdN hb _) _) ?_
                clear hc0 hc1 hc2 hd1 hd2 hRu hRv hRo hb hor1 hor2 hdv hmd hvne hQ1 hq0b hr0b htpb hu0h hu2h hv1h hv2h
                refine Lib.hid ?_
                intro q r20 r217 r218 r219 r220 r221 r222 r223 r224 r225 r226 r227 r228 r229 r230 r231 r232 r233 r234 r235 r236 r237 r238 r239 r240 r241 r242 r243 r244 r245 r246 r247 r248 r249 r250 r251 r252 wc hGQ hRu hRv hRo hb
                refine hKt _ _ ?_
                refine quo_take _ _ _ _ _ _ _ _ _ _ _ _ _ _ _ _ _ _ _ _ _ _ _ _ _ _ _ _ _ _ _ _ _ _ _ _ _ _ _ _ _ _ _ _ _ _ _ _ _ _ _ _ _ _ _ _ _ _ _ _ _ _ _ _ _ _ _ _ _ _ _ _ _ _ _ _ _ _ _ _ _ _ _ _ _ _ _ _ _ _ _ _ _ _ _ _ _ _ _ _ _ _ _ _ _ _ _ _ _ _ _ _ _ _ _ _ _ _ _ _ _ _ _ _ _ _ _ _ _ _ _ _ _ _ _ _ _ _ _ _ _ _ _ _ _ _ _ _ _ _ _ _ _ _ _ _ _ _ _ _ _ _ _ _ _ _ _ _ _ _ _ _ _ _ _ _ _ _ _ _ _ _ _ _ _ _ _ _ _ _ _ _ _ _ _ _ _ _ _ _ _ _ _ _ _ _ _ _ _ _ _ _ _ _ _ _ _ _ _ _ _ _ _ _ _ _ _ _ _ _ _ _ _ _ _ _ _ _ _ _ _ _ _ _ _ _ _ _ _ _ _ _ _ _ _ _ _ _ _ _ _ _ _ _ _ _ _ _ _ _ _ _ _ _ _ _ _ _ _ _ _ _ _ _ _ _ _ _ _ _ _ _ _ _ _ _ _ _ _ _ _ _ _ _ _ _ _ _ _ _ _ _ _ _ _ _ _ _ _ _ _ _ _ _ _ _ _ _ _ _ _ _ _ _ _ _ _ _ _ _ _ _ _ _ _ _ _ _ _ _ _ _ _ _ _ _ _ _ _ _ _ _ _ _ _ _ _ _ _ _ _ _ _ _ _ _ _ _ _ _ _ _ _ _ _ _ _ n m j w1.heap.size w2.heap.size wo2.heap.size e q xs ys U V O w1 _ hn hm hmn hkm hne2 hne7 hne8 hne9 hl1 hpos hvV hQ hGQ hRu hRv hRo hb ?_
                clear hRu hRv hRo hb hGQ hQ hW hpos
                refine Lib.hid ?_
                intro r19 r21 r22 r23 r24 r25 r26 r27 r28 r29 r253 r254 r255 r256 r257 r258 r259 r260 r261 r262 r263 r264 r265 r266 r267 r268 r269 r270 r271 r272 r273 r274 r275 r276 r277 r278 r279 r280 r281 r282 r283 r284 r285 r286 r287 r288 r289 r290 r291 r292 r293 r294 r295 r296 r297 r298 r299 r300 r301 r302 r303 r304 r305 r306 r307 r308 r309 r310 r311 r312 r313 r314 r315 r316 r317 r318 r319 r320 r321 r322 r323 r324 r325 r326 r327 r328 r329 r330 r331 r332 r333 r334 r335 r336 r337 r338 r339 r340 r341 r342 r343 r344 r345 r346 r347 r348 r349 r350 r351 r352 r353 r354 r355 r356 r357 U' O' w' hRu hRv hRo hQ hb
                go_wp2_with fail
                go_roundw
                case rel => exact ⟨j, (j : Int) - 1, U', O', by omega, rfl, by go_num, hRu, hRv, hRo, hQ, hb⟩
                case measure => simp [intOf] <;> omega

end Go.Proofs.Ytgoojlnfobjplaa
