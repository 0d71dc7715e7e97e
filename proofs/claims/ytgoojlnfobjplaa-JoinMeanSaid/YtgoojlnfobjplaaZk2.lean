/- The quotient of words: the short ways (a less than b; b one word). -/
import Derived.Test.YtgoojlnfobjplaaZq0
import Derived.Test.YtgoojlnfobjplaaZk1
namespace Go.Proofs.Ytgoojlnfobjplaa
open Go.RowKit
set_option linter.unusedSimpArgs false
set_option linter.unusedVariables false
attribute [local go_sem] qn30 qe30

theorem add_own (g o j : Nat) : (Addr.add ⟨g, o, none⟩ j) = ⟨g, o + j, none⟩ := by
  unfold Addr.add
  split
  · rename_i h
    subst h
    rfl
  · rfl

set_option maxRecDepth 100000 in
set_option maxHeartbeats 1000000 in
theorem num_quoWords1 (A B : Option Addr) (n c m d : Nat) (xs ys : List Nat) (w : World) (hx : U32 w A n c xs) (hy : U32 w B m d ys) (tx : Tr xs) (ty : Tr ys) (hn : n ≤ 300000) (hm : m ≤ 300000) (hlt : Hid (val xs < val ys)) :
    Calls Try.prog 81 #[.slice A n c, .slice B m d] w (PQuo w xs ys) := by
  obtain ⟨i0, hi, hz0, hz1, hz2⟩ := info_parts info32
  have hc := Lib.hid (cmpN_lt hlt.out)
  have hq : Hid (val ([] : List Nat) = val xs / val ys) := by show _ = _; rw [Nat.div_eq_of_lt hlt.out]; rfl
  have hr : Hid (val xs = val xs % val ys) := by show _ = _; rw [Nat.mod_eq_of_lt hlt.out]
  go_enter Try.func81, Try.ntmps81
  go_wp2_with fail
  refine (num_cmpWords A B n c m d xs ys _ hx hy tx ty (by omega) (by omega)).mono ?_
  rintro e w1 ⟨rfl, hb1⟩
  rw [hc.out]
  have hx1 := hx.below hb1 (Nat.le_refl _)
  have hx1' := hx1
  obtain ⟨h1, h2, h3, h4, ⟨rfl, rfl⟩ | ⟨g, o, rfl, hg, hcells⟩⟩ := hx1'
  · have hn0 : n = 0 := by omega
    subst hn0
    have hnil : xs = [] := List.eq_nil_of_length_eq_zero h1
    subst hnil
    clear h1 h2 h3 h4
    go_wp2_with (at_builtin; refine wpList_append_own_none rfl _ _ 30 rfl w1.heap.size 85 i0 1 Try.underlying30 hi _ 0 [] rfl (World.ownsRow_nil _ _ _ _) rfl ?_)
    go_ret2
    exact ⟨none, 0, 0, [], none, 0, 0, [], rfl, U32.nil _, U32.nil _, hq.out, hr.out, by omega, by omega, hb1⟩
  · have hl : (vs xs).length = n * 1 := by rw [vs_len]; omega
    clear h1
    go_wp2_with (at_builtin; refine wpList_append_own _ rfl _ _ 30 rfl w1.heap.size 85 i0 (.int .u32 0) 1 4 Try.underlying30 hi hz0 hz1 hz2 rfl (by omega) _ 0 [] rfl (World.ownsRow_nil _ _ _ _) ⟨g, o, none⟩ n c (vs xs) rfl hl ?c1 (vs_one _) ?c2 ?c3 (Nat.le_refl _) ?_; rotate_left 3; intro v' w2 hown hgr hiff)
    case c1 =>
      intro j u hu
      rw [add_own]
      simp only [vs, List.getElem?_map, Option.map_eq_some_iff] at hu
      obtain ⟨t, ht, rfl⟩ := hu
      exact hcells j t ht
    case c2 => simp [maxLen]; omega
    case c3 => omega
    have hb2 : Below w.heap.size w w2 := hb1.grown hgr hb1.size (by intro k hk; cases hk)
    rcases Nat.eq_zero_or_pos n with h0 | h0
    · subst h0
      have hv' : v' = .slice none 0 0 := hiff.2 ⟨rfl, rfl⟩
      subst hv'
      have hnil : xs = [] := List.eq_nil_of_length_eq_zero (by rw [vs_len] at hl; omega)
      subst hnil
      go_wp2_with fail
      go_ret2
      exact ⟨none, 0, 0, [], none, 0, 0, [], rfl, U32.nil _, U32.nil _, hq.out, hr.out, by omega, by omega, hb2⟩
    · obtain ⟨g', cap, rfl⟩ : ∃ g cap, v' = .slice (some ⟨g, 0, none⟩) (0 + n) cap := by
        rcases hown.2 with ⟨_, h5⟩ | ⟨g, cap, cur, h5, _⟩
        · omega
        · exact ⟨g, cap, h5⟩
      rw [Nat.zero_add, List.nil_append] at hown
      rw [Nat.zero_add]
      go_wp2_with fail
      go_ret2
      exact ⟨none, 0, 0, [], some ⟨g', 0, none⟩, n, cap, xs, rfl, U32.nil _, U32.own hown h2, hq.out, hr.out, by omega, by omega, hb2⟩

end Go.Proofs.Ytgoojlnfobjplaa
