/- What stands for a node: (joined[int]).top; two trees joined: (joined[int]).join. -/
import Derived.Test.YtgoojlnfobjplaaFb
import Derived.Deep.LoopGhost
namespace Go.Proofs.Ytgoojlnfobjplaa
open Go.RowKit Go.Maps
set_option linter.unusedSimpArgs false
set_option linter.unusedVariables false

theorem Top.next {f : Nat → Option Nat} {x d r u : Nat} (h : Top f x d r) (hf : f x = some u) : ∃ d', d = d' + 1 ∧ Top f u d' r := by
  cases h with
  | root h => rw [h] at hf; cases hf
  | step h1 h2 => rw [h1] at hf; injection hf with hf; subst hf; exact ⟨_, rfl, h2⟩

theorem gb_trans {w w2 w3 : World} {B : Nat} (hb : Below w.heap.size w w2) (hg : w2.grownBy w3 (some B)) : w.grownBy w3 (some B) :=
  ⟨hg.os.trans hb.os, hg.tape.trans hb.tape, hg.output.trans hb.output, Nat.le_trans hb.size hg.size, fun i hi hne => (hg.block i (Nat.lt_of_lt_of_le hi hb.size) hne).trans (hb.block i hi)⟩

theorem gb_below {w w2 : World} (hb : Below w.heap.size w w2) (row : Option Nat) : w.grownBy w2 row := ⟨hb.os, hb.tape, hb.output, hb.size, fun i hi _ => hb.block i hi⟩

set_option maxRecDepth 100000 in
theorem join_top (B k : Nat) (f : Nat → Option Nat) (x d r : Nat) (w : World) (hU : UM w B k f) (hT : Hid (Top f x d r)) (hx : x < 1000) (hv : Hid (∀ x u, f x = some u → u < 1000)) :
    Calls Try.prog 38 #[.agg #[.map (some B)], .int .i64 x] w fun e w' => e = .returned (.int .i64 (r : Int)) ∧ Below w.heap.size w w' := by
  have hB := hU.lt
  have hU1 : UM (w.alloc (.cells #[.map (some B)] 66)) B k f := hU.call ((Below.refl _ _).alloc (Nat.le_refl _) _)
  have hb1 : Below w.heap.size w (w.alloc (.cells #[.map (some B)] 66)) := (Below.refl _ _).alloc (Nat.le_refl _) _
  have hc1 : Blk (w.alloc (.cells #[.map (some B)] 66)) w.heap.size 66 #[.map (some B)] := Blk.new _ _ _
  have hc0 := hc1.cell 0
  go_enter Try.func38, Try.ntmps38
  go_wp2_with fail
  obtain ⟨w1, hw1⟩ : ∃ w1, w1 = w.alloc (.cells #[.map (some B)] 66) := ⟨_, rfl⟩
  rw [← hw1] at hU1 hb1 hc0 ⊢
  clear hw1 hc1
  go_loopg [1] d (fun g v1 wr => w1 = wr ∧ ∃ y : Nat, y < 1000 ∧ v1 = .int .i64 y ∧ Hid (Top f y g r))
  case atStart => exact ⟨rfl, x, hx, rfl, hT⟩
  case round =>
    obtain ⟨rfl, y, hy, rfl, hTy⟩ := hrel
    have hl := hU1.look hy
    cases hf : f y with
    | none =>
      rw [hf] at hl
      have hr : y = r := (hTy.out.det (.root hf)).2.symm
      subst hr
      clear hf
      go_wp2_with fail
      go_ret
      exact ⟨rfl, hb1⟩
    | some u =>
      rw [hf] at hl
      have hu := hv.out _ _ hf
      have hne : ((u : Int) == (y : Int)) = false := by have := hTy.out.ne hf; simp; omega
      obtain ⟨d', hd, hTu'⟩ := hTy.out.next hf
      have hTu := Lib.hid hTu'
      subst hd
      clear hf hTu'
      go_wp2_with fail
      go_roundg d'
      case measure => omega
      case rel => exact ⟨rfl, u, hu, rfl, hTu⟩

/-- two trees joined, or found to be one -/
def PJoin (w : World) (B k : Nat) (f : Nat → Option Nat) (a b : Nat) (e : Ending) (w' : World) : Prop :=
  ∃ c : Bool, e = .returned (.bool c) ∧ Hid ((c = true ∧ a ≠ b ∧ UM w' B (k + 1) (upd f b (some a))) ∨ (c = false ∧ a = b ∧ UM w' B k f)) ∧ w.grownBy w' (some B)

set_option maxRecDepth 100000 in
theorem join_join (B k : Nat) (f : Nat → Option Nat) (x dx a y dy b : Nat) (w : World) (hU : UM w B k f) (hTx : Hid (Top f x dx a)) (hTy : Hid (Top f y dy b)) (hx : x < 1000) (hy : y < 1000) (ha : a < 1000) (hb : b < 1000) (hv : Hid (∀ x u, f x = some u → u < 1000)) (hk : k < 1000000000000) :
    Calls Try.prog 37 #[.agg #[.map (some B)], .int .i64 x, .int .i64 y] w (PJoin w B k f a b) := by
  have hB := hU.lt
  have hO := Own.one w 66 #[.map (some B)]
  have hU1 := hU.call hO.1
  have hS : (w.alloc (.cells #[.map (some B)] 66)).drew.cell? ⟨w.heap.size, 0, none⟩ = some (.map (some B)) := hO.b0.drew.cell 0
  have hk' : k < maxLen := by unfold maxLen; omega
  have hO := Lib.hid hO
  have hm1 : Hid (1 = 1) := rfl
  go_enter Try.func37, Try.ntmps37
  go_wp2_with fail
  go_region_held3 (fun w' => w'.cell? ⟨w.heap.size, 0, none⟩ = some (.map (some B)))
    (first | (with_reducible exact hS))
    (first
      | (have hz := hm1; go_at_call 38; clear hz hm1; refine (join_top B k f x dx a _ hU1.drew hTx hx hv).mono ?_; rintro e w1 ⟨rfl, hb1⟩; have hO1 := Lib.hid (hO.out.drew.call hb1); have hU2 := hU1.drew.call hb1; clear hS; have hS : w1.cell? ⟨w.heap.size, 0, none⟩ = some (.map (some B)) := hO1.out.b0.cell 0; clear hb1)
      | (go_at_call 38; refine (join_top B k f y dy b _ hU2 hTy hy hv).mono ?_; rintro e w2 ⟨rfl, hb2⟩; have hO2 := Lib.hid (hO1.out.call hb2); have hU3 := hU2.call hb2; clear hS; have hS : w2.cell? ⟨w.heap.size, 0, none⟩ = some (.map (some B)) := hO2.out.b0.cell 0; clear hb2))
  by_cases hab : a = b
  · subst hab
    have hab' : ((a : Int) == (a : Int)) = true := by simp
    go_wp2_with fail
    go_ret
    exact ⟨false, rfl, .inr ⟨rfl, rfl, hU3⟩, gb_below hO2.out.1 _⟩
  · have hab' : ((a : Int) == (b : Int)) = false := by simp; omega
    go_wp2_with (at_mapUpdate; refine wpList_upU _ rfl _ _ _ rfl B k f rfl hU3 hk' b a rfl rfl hb ha ?_; intro w3 hU4 hg3)
    go_ret
    exact ⟨true, rfl, .inl ⟨rfl, hab, hU4⟩, gb_trans hO2.out.1 hg3⟩

end Go.Proofs.Ytgoojlnfobjplaa
