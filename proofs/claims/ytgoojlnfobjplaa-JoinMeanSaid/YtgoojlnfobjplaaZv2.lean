/- Lists of numbers of package api; a number as a fraction, and a fraction as a number. -/
import Derived.Test.YtgoojlnfobjplaaZv1
namespace Go.Proofs.Ytgoojlnfobjplaa
open Go.RowKit
set_option linter.unusedSimpArgs false
set_option linter.unusedVariables false
attribute [local go_sem] qn30 qe30

/-- the slice `.slice A n c` reads as numbers, numerator and denominator -/
def Rats (w : World) (A : Option Addr) (n c : Nat) (xs : List (Int × Int)) : Prop :=
  xs.length = n ∧ n ≤ c ∧ Hid (c ≤ 4611686018427387904) ∧ (∀ x ∈ xs, In64 x.1 ∧ In64 x.2) ∧ ((A = none ∧ c = 0) ∨ ∃ g o, A = some ⟨g, o, none⟩ ∧ g < w.heap.size ∧ ∀ (j : Nat) (x : Int × Int), xs[j]? = some x → w.cell? ⟨g, o + j * 2, none⟩ = some (.int .i64 x.1) ∧ w.cell? ⟨g, o + j * 2 + 1, none⟩ = some (.int .i64 x.2))

theorem Rats.below {w w' : World} {A n c xs B} (h : Rats w A n c xs) (hb : Below B w w') (hB : w.heap.size ≤ B) : Rats w' A n c xs := by
  obtain ⟨h1, h2, h3, h4, h5⟩ := h
  refine ⟨h1, h2, h3, h4, ?_⟩
  rcases h5 with h5 | ⟨g, o, rfl, hg, hc⟩
  · exact .inl h5
  · exact .inr ⟨g, o, rfl, Nat.lt_of_lt_of_le hg hb.size, fun j x hx => ⟨(hb.cell (p := ⟨g, o + j * 2, none⟩) (Nat.lt_of_lt_of_le hg hB)).trans (hc j x hx).1, (hb.cell (p := ⟨g, o + j * 2 + 1, none⟩) (Nat.lt_of_lt_of_le hg hB)).trans (hc j x hx).2⟩⟩

theorem Rats.cell {w : World} {A n c xs} (h : Rats w A n c xs) {k : Nat} (hk : k < n) : ∃ (g o : Nat) (x : Int × Int), A = some ⟨g, o, none⟩ ∧ g < w.heap.size ∧ xs[k]? = some x ∧ In64 x.1 ∧ In64 x.2 ∧ w.cell? ⟨g, o + k * 2, none⟩ = some (.int .i64 x.1) ∧ w.cell? ⟨g, o + k * 2 + 1, none⟩ = some (.int .i64 x.2) := by
  obtain ⟨h1, h2, h3, h4, h5⟩ := h
  rcases h5 with ⟨_, h5⟩ | ⟨g, o, rfl, hg, hc⟩
  · omega
  · have hl : k < xs.length := by omega
    have hm := h4 _ (List.getElem_mem hl)
    exact ⟨g, o, xs[k], rfl, hg, List.getElem?_eq_getElem hl, hm.1, hm.2, hc k _ (List.getElem?_eq_getElem hl)⟩

theorem Own.rats {w w1 : World} {bs} {A n c xs} (h : Own w bs w1) (hr : Rats w A n c xs) : Rats w1 A n c xs := hr.below h.1 (Nat.le_refl _)

def AllVR (xs : List (Int × Int)) : Prop := ∀ x ∈ xs, VR x.1 x.2
instance (xs : List (Int × Int)) : Decidable (AllVR xs) := by unfold AllVR; infer_instance

theorem allvr_step {xs : List (Int × Int)} {k : Nat} {x : Int × Int} (h : xs[k]? = some x) (hv : Hid (AllVR (xs.take k))) (hx : VR x.1 x.2) : Hid (AllVR (xs.take (k + 1))) := by
  show AllVR _
  intro y hy
  rw [List.take_add_one, h] at hy
  rcases List.mem_append.1 hy with h1 | h1
  · exact hv.out y h1
  · simp at h1
    subst h1
    exact hx

set_option maxRecDepth 100000 in
set_option maxHeartbeats 4000000 in
theorem num_AllValid (A : Option Addr) (n c : Nat) (xs : List (Int × Int)) (w : World) (hr : Rats w A n c xs) :
    Calls Try.prog 15 #[.slice A n c] w fun e w' => e = .returned (.bool (decide (AllVR xs))) ∧ Below w.heap.size w w' := by
  have hu := Try.underlying24
  have hn : n ≤ 4611686018427387904 := Nat.le_trans hr.2.1 hr.2.2.1
  have hlen := Lib.hid hr.1
  go_enter Try.func15, Try.ntmps15
  go_wp2_with fail
  go_loopw [7] (fun v7 wr => ∃ k : Nat, k ≤ n ∧ v7 = .int .i64 k ∧ Hid (AllVR (xs.take k)) ∧ Hid (Below w.heap.size w wr)) (fun v _ => n - (intOf v).toNat)
  case atStart => exact ⟨0, Nat.zero_le _, rfl, (by show AllVR _; simp [AllVR]), Below.refl _ _⟩
  case round =>
    obtain ⟨k, hk, rfl, hv, hB⟩ := hrel
    by_cases hlt : k < n
    · obtain ⟨g, o, x, rfl, hg, hxk', -, -, hc0, hc1⟩ := (hr.below hB.out (Nat.le_refl _)).cell hlt
      have hxk := Lib.hid hxk'
      clear hxk'
      go_wp2_with fail
      refine (num_Valid x.1 x.2 _).mono ?_
      rintro e w1 ⟨rfl, hb1⟩
      have hB1 := Lib.hid (hB.out.trans (((Below.refl w.heap.size wr).alloc hB.out.size _).trans (hb1.mono (by have := hB.out.size; simp; omega))))
      clear hb1
      by_cases hx : VR x.1 x.2
      · have hd : decide (VR x.1 x.2) = true := by simpa using hx
        have hx := Lib.hid hx
        go_wp2_with fail
        go_roundw
        case rel => exact ⟨k + 1, by omega, by go_num, allvr_step hxk.out hv hx.out, hB1⟩
        case measure => simp [intOf]; omega
      · have hd : decide (VR x.1 x.2) = false := by simpa using hx
        have hV := Lib.hid (show decide (AllVR xs) = false from decide_eq_false (fun h => hx (h x (List.mem_of_getElem? hxk.out))))
        clear hx
        go_wp2_with fail
        go_ret
        exact ⟨by rw [hV.out]; rfl, hB1.out⟩
    · have hV := Lib.hid (show decide (AllVR xs) = true from decide_eq_true (by have h1 := hv.out; have h2 := hlen.out; rwa [List.take_of_length_le (by omega)] at h1))
      have : k = n := by omega
      subst this
      go_wp2_with fail
      go_ret
      exact ⟨by rw [hV.out]; rfl, hB.out⟩

set_option maxRecDepth 100000 in
set_option maxHeartbeats 4000000 in
theorem num_QInt (n : Int) (w : World) (hn : In64 n) (r : Rat) (hr : Hid (r = (n : Rat))) :
    Calls Try.prog 16 #[.int .i64 n] w (PQ w r) := by
  have hu := Try.underlying47
  have hO0 := Lib.hid (Own.one w 47 #[.int .i64 0, .slice none 0 0, .bool false, .int .i64 0, .slice none 0 0, .bool false])
  go_enter Try.func16, Try.ntmps16
  go_wp2_with fail
  refine (num_I n hn _).mono ?_
  rintro e w1 ⟨z1, rfl, hz1, hb⟩
  have hO1 := Lib.hid (hO0.out.call hb)
  clear hb
  go_wp2_with fail
  refine (num_I 1 (by unfold In64; omega) _).mono ?_
  rintro e w2 ⟨z2, rfl, hz2, hb⟩
  have hO2 := Lib.hid (hO1.out.call hb)
  have hz1 := hz1.below hb (Nat.le_refl _)
  obtain ⟨⟨e0, e1, e2, e3, e4, e5⟩, f0, f1, f2, f3, f4, f5⟩ := blk6 hO2.out.b0
  clear hb
  go_wp2_with fail
  refine bodyPost_ret (v := .agg #[.int .i64 z1.x, .slice z1.A z1.l z1.c, .bool z1.g, .int .i64 z2.x, .slice z2.A z2.l z2.c, .bool z2.g]) (by simp [results, Try.results16, go_sem, e0, e1, e2, e3, e4, e5, f0, f1, f2, f3, f4, f5]) rfl (q_end (q := ⟨z1, z2⟩) hO2.out 0 rfl (by rw [hr.out, Rat.num_intCast]; exact hz1) (by rw [hr.out, Rat.den_intCast]; exact hz2) _ _ _ _ _ _)

/-- the fraction of a number -/
def ratOf (x : Int × Int) : Rat := Rat.divInt x.1 x.2
theorem ratOf_num {x : Int × Int} (h : VR x.1 x.2) : (ratOf x).num = x.1 ∧ ((ratOf x).den : Int) = x.2 := over_one (by unfold VR at h; omega) h.2.2.2.2
theorem ratOf_sz {x : Int × Int} (h : VR x.1 x.2) : Sz 40 (ratOf x) := by
  obtain ⟨h1, h2⟩ := ratOf_num h
  unfold VR at h
  refine ⟨by rw [h1]; omega, by omega⟩

theorem keep2 {w w1 : World} {N D : Int} {t : TypeId} {r} (h : Own w ((t, #[.int .i64 N, .int .i64 D]) :: r) w1) : w1.cell? ⟨w.heap.size, 0, none⟩ = some (.int .i64 N) ∧ w1.cell? ⟨w.heap.size, 1, none⟩ = some (.int .i64 D) := ⟨h.b0.cell 0, h.b0.cell 1⟩
theorem keep2s {w w1 w2 : World} {N D : Int} {t : TypeId} {r} (h : Own w ((t, #[.int .i64 N, .int .i64 D]) :: r) w1) (hs : SetB (w.heap.size + 1) w1 w2) : w2.cell? ⟨w.heap.size, 0, none⟩ = some (.int .i64 N) ∧ w2.cell? ⟨w.heap.size, 1, none⟩ = some (.int .i64 D) := by
  have k : ∀ i, w2.cell? ⟨w.heap.size, i, none⟩ = w1.cell? ⟨w.heap.size, i, none⟩ := fun i => hs.2 ⟨w.heap.size, i, none⟩ (by simp)
  rw [k 0, k 1]
  exact keep2 h

set_option maxRecDepth 100000 in
set_option maxHeartbeats 4000000 in
theorem num_QOf (x : Int × Int) (w : World) (h : Hid (VR x.1 x.2)) :
    Calls Try.prog 17 #[.agg #[.int .i64 x.1, .int .i64 x.2]] w (PQ w (ratOf x)) := by
  have hu := Try.underlying47
  have hu2 := Try.underlying24
  have hO0 := Lib.hid (Own.two w 24 47 #[.int .i64 x.1, .int .i64 x.2] #[.int .i64 0, .slice none 0 0, .bool false, .int .i64 0, .slice none 0 0, .bool false])
  have hS := keep2 hO0.out.drew
  have i1 := Lib.hid (In64_small h.out.2.2.1 h.out.2.2.2.1).1
  have i2 := Lib.hid (In64_small (show -1000000000000 ≤ x.2 by have := h.out.1; omega) h.out.2.1).1
  go_enter Try.func17, Try.ntmps17
  go_wp2_with fail
  go_region_held3 (fun w' => w'.cell? ⟨w.heap.size, 0, none⟩ = some (.int .i64 x.1) ∧ w'.cell? ⟨w.heap.size, 1, none⟩ = some (.int .i64 x.2))
    (first | (with_reducible exact hS) | (with_reducible exact hT _ _ _ _ _ _))
    (first
      | (go_at_call_of 43 (Value.int IntKind.i64 x.1); refine (num_I x.1 i1.out _).mono ?_; rintro e w1 ⟨z1, rfl, hz1, hb⟩; have hO1 := Lib.hid (hO0.out.drew.call hb); clear hS; have hS := keep2 hO1.out; clear hb)
      | (go_at_call_of 43 (Value.int IntKind.i64 x.2); refine (num_I x.2 i2.out _).mono ?_; rintro e w2 ⟨z2, rfl, hz2, hb⟩; have hz1 := hz1.below hb (Nat.le_refl _); have hO2 := Lib.hid (hO1.out.call hb); clear hS; have hS := keep2 hO2.out; clear hb; have hT := fun u1 u2 u3 u4 u5 u6 => keep2s hO2.out (SetB.set6 w2 (w.heap.size + 1) 0 1 2 3 4 5 u1 u2 u3 u4 u5 u6); obtain ⟨⟨e0, e1, e2, e3, e4, e5⟩, f0, f1, f2, f3, f4, f5⟩ := blk6 hO2.out.b1))
  go_wp2_with fail
  refine bodyPost_ret (v := .agg #[.int .i64 z1.x, .slice z1.A z1.l z1.c, .bool z1.g, .int .i64 z2.x, .slice z2.A z2.l z2.c, .bool z2.g]) (by simp [results, Try.results17, go_sem, e0, e1, e2, e3, e4, e5, f0, f1, f2, f3, f4, f5]) rfl (q_end (q := ⟨z1, z2⟩) hO2.out 1 rfl (by rw [(ratOf_num h.out).1]; exact hz1) (by rw [(ratOf_num h.out).2]; exact hz2) _ _ _ _ _ _)

/-- what Out tells -/
def POut (w : World) (r : Rat) (e : Ending) (w' : World) : Prop :=
  Below w.heap.size w w' ∧ ((-1000000000000 ≤ r.num ∧ r.num ≤ 1000000000000 ∧ (r.den : Int) ≤ 1000000000000 ∧ e = .returned (.tuple #[.agg #[.int .i64 r.num, .int .i64 r.den], .bool true])) ∨
    (¬ (-1000000000000 ≤ r.num ∧ r.num ≤ 1000000000000 ∧ (r.den : Int) ≤ 1000000000000) ∧ e = .returned (.tuple #[.agg #[.int .i64 0, .int .i64 0], .bool false])))

end Go.Proofs.Ytgoojlnfobjplaa
