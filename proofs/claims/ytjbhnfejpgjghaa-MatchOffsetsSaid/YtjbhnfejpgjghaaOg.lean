/- MatchOffsets: the law's walk. -/
import Derived.Test.YtjbhnfejpgjghaaOe
import Derived.Test.YtjbhnfejpgjghaaOf
import Derived.Test.YtjbhnfejpgjghaaMn
namespace Go.Proofs.Ytjbhnfejpgjghaa
open Go.RowKit
set_option linter.unusedSimpArgs false
set_option linter.unusedVariables false

theorem IL.below' {w w' : World} {A n c l} (h : IL w A n c l) (hb : Below w.heap.size w w') : IL w' A n c l := h.below hb

set_option maxRecDepth 100000 in
set_option maxHeartbeats 1000000 in
theorem law13_MatchOffsets (A : Option Addr) (n c : Nat) (ls : List (List Int)) (w : World) (hL : L2 w A n c ls) :
    Calls Try.prog 3 #[.slice A n c] w fun e w' => e = .returned (.bool true) ∧ Below w.heap.size w w' := by
  have hW := Lib.hid (m_weight A n c ls w hL)
  have hL' := Lib.hid hL
  have h1 : Hid (1 = 1) := rfl
  have h2 : Hid (2 = 2) := rfl
  have h3 : Hid (3 = 3) := rfl
  clear hL
  go_enter Try.func3, Try.ntmps3
  go_upto_region 2 with (go_at_call 9; (with_reducible refine hW.out.mono ?_); rintro e w2 ⟨A1, n1, c1, sum, zs, er, rfl, hil, hws, hb⟩)
  have hb2 := Lib.hid hb
  have hR := Lib.hid (ref_weight A n c ls w2 (hL'.out.below hb (Nat.le_refl _)))
  clear hb hW
  go_upto_region 3 with (go_at_call 10; (with_reducible refine hR.out.mono ?_); rintro e w3 ⟨A2, n2, c2, sum2, zs2, er2, rfl, hil2, hws2, hb⟩; obtain ⟨rfl, rfl, rfl⟩ := ws_eq hws.out hws2)
  have hs1 := Lib.hid (law13_same A1 A2 n1 n2 c1 c2 zs2 w3 (hil.below hb) hil2)
  have hb3 := Lib.hid (hb2.out.trans (hb.mono hb2.out.size))
  clear hb hR hb2 hil hil2 hws2
  have hss : (sum2 != sum2) = false := by simp
  have hee : (er2 != er2) = false := by simp
  go_upto_region 5 with (go_at_call 11; (with_reducible refine hs1.out.mono ?_); rintro e w4 ⟨rfl, hb⟩)
  have hb4 := Lib.hid (hb3.out.trans (hb.mono hb3.out.size))
  have hO := Lib.hid (m_offsets A n c ls w4 (hL'.out.below hb4.out (Nat.le_refl _)))
  clear hb hs1 hb3
  go_upto_region 6 with (go_at_call 12; (with_reducible refine hO.out.mono ?_); rintro e w5 ⟨A3, n3, c3, A4, n4, c4, us, vs, er4, rfl, hil3, hil4, hof, hb⟩)
  have hb5 := Lib.hid (hb4.out.trans (hb.mono hb4.out.size))
  have hO2 := Lib.hid (ref_offsets A n c ls w5 (hL'.out.below hb5.out (Nat.le_refl _)))
  clear hb hO hb4
  go_upto_region 7 with (go_at_call 13; (with_reducible refine hO2.out.mono ?_); rintro e w6 ⟨A5, n5, c5, A6, n6, c6, us2, vs2, er3, rfl, hil5, hil6, hof2, hb⟩; obtain ⟨rfl, rfl, rfl⟩ := hof.uniq hof2)
  have hs1 := Lib.hid (law13_same A3 A5 n3 n5 c3 c5 us w6 (hil3.below hb) hil5)
  have hil4b := hil4.below hb
  have hb6 := Lib.hid (hb5.out.trans (hb.mono hb5.out.size))
  have hee2 : (er4 == er4) = true := by simp
  clear hb hO2 hb5 hil3 hil5 hil4 hof hof2 hL' hws
  go_wp2_with (first
    | (have hz := h1; go_at_call 11; clear hz h1; (with_reducible refine hs1.out.mono ?_); rintro e w7 ⟨rfl, hb7⟩; have hb7' := Lib.hid (hb6.out.trans (hb7.mono hb6.out.size)); have hs2 := Lib.hid (law13_same A4 A6 n4 n6 c4 c6 vs w7 (hil4b.below hb7) (hil6.below hb7)))
    | (go_at_call 11; (with_reducible refine hs2.out.mono ?_); rintro e w8 ⟨rfl, hb8⟩; have hb8' := Lib.hid (hb7'.out.trans (hb8.mono hb7'.out.size)))
    | (go_at_call 14; refine (law13_known _).mono ?_; rintro e w9 ⟨rfl, hb9⟩; have hb9' := Lib.hid (hb8'.out.trans (hb9.mono hb8'.out.size))))
  go_ret
  exact ⟨rfl, hb9'.out⟩

end Go.Proofs.Ytjbhnfejpgjghaa
