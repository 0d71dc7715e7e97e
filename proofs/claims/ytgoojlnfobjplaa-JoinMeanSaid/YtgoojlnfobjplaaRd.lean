/- Integers of the reference: an amount with a sign. -/
import Derived.Test.YtgoojlnfobjplaaRa
import Derived.Test.YtgoojlnfobjplaaZp
import Derived.Test.YtgoojlnfobjplaaZf
namespace Go.Proofs.Ytgoojlnfobjplaa
open Go.RowKit
set_option linter.unusedSimpArgs false
set_option linter.unusedVariables false
attribute [local go_sem] qn30 qe30

/-- an integer's fields -/
structure Wv where
  A : Option Addr
  l : Nat
  c : Nat
  g : Bool

/-- its fields in memory say the integer n -/
def WR (w : World) (z : Wv) (n : Int) : Prop := ∃ xs, U32 w z.A z.l z.c xs ∧ Tr xs ∧ val xs = n.natAbs ∧ z.g = decide (n < 0)

theorem WR.below {w w' : World} {z n B} (h : WR w z n) (hb : Below B w w') (hB : w.heap.size ≤ B) : WR w' z n := by
  obtain ⟨xs, h1, h2⟩ := h
  exact ⟨xs, h1.below hb hB, h2⟩
theorem WR.drew {w : World} {z n} (h : WR w z n) : WR w.drew z n := h
theorem WR.drewN {w : World} {z n} (h : WR w z n) (k : Nat) : WR (w.drewN k) z n := h
theorem WR.set {w w' : World} {z n g} (h : WR w z n) (hN : NoW w g) (hs : SetB g w w') : WR w' z n := by
  obtain ⟨xs, h1, h2⟩ := h
  exact ⟨xs, h1.set hN hs, h2⟩

theorem Tr.pos {w : World} {A l c xs} (h : U32 w A l c xs) (ht : Tr xs) : (l = 0 ↔ val xs = 0) := by
  constructor
  · rintro rfl
    have := h.1
    obtain rfl : xs = [] := by simpa using this
    rfl
  · intro hv
    rcases Nat.eq_zero_or_pos l with h0 | h0
    · exact h0
    · have h1 := ht.low (by rintro rfl; have := h.1; simp at this; omega)
      have h2 : (0 : Nat) < 4294967296 ^ (xs.length - 1) := Nat.pow_pos (by omega)
      omega

/-- an integer comes out -/
def PI (w : World) (n : Int) (e : Ending) (w' : World) : Prop :=
  ∃ z : Wv, e = .returned (.agg #[.slice z.A z.l z.c, .bool z.g]) ∧ WR w' z n ∧ Below w.heap.size w w'

theorem NoW.w {w : World} {g : Nat} {t : TypeId} {A : Option Addr} {l c : Nat} {s : Bool} (h : Blk w g t #[.slice A l c, .bool s]) : NoW w g := by
  intro i u
  rw [h.cell i]
  rcases i with _ | _ | i <;> simp

theorem SetB.set2 (w : World) (g : Nat) (a b : Nat) (u v : Value) : SetB g w ((w.setCell ⟨g, a, none⟩ u).setCell ⟨g, b, none⟩ v) := ((SetB.refl g w).setCell rfl u).setCell rfl v
theorem Own.setW2 {w w1 : World} {bs : List (TypeId × Array Value)} (h : Own w bs w1) (i a b : Nat) (u v : Value) : Below w.heap.size w ((w1.setCell ⟨w.heap.size + i, a, none⟩ u).setCell ⟨w.heap.size + i, b, none⟩ v) :=
  ((h.1.setCell (p := ⟨w.heap.size + i, a, none⟩) (Nat.le_add_right _ _) _).setCell (p := ⟨w.heap.size + i, b, none⟩) (Nat.le_add_right _ _) _)
theorem blkW2 {w : World} {g : Nat} {t : TypeId} {a b : Value} (h : Blk w g t #[a, b]) : w.cell? ⟨g, 0, none⟩ = some a ∧ w.cell? ⟨g, 1, none⟩ = some b ∧ w.frozen? ⟨g, 0, none⟩ = false ∧ w.frozen? ⟨g, 1, none⟩ = false := ⟨h.cell 0, h.cell 1, h.frozen 0, h.frozen 1⟩
theorem Own.wr {w w1 : World} {bs : List (TypeId × Array Value)} {z n} (h : Own w bs w1) (hz : WR w z n) : WR w1 z n := hz.below h.1 (Nat.le_refl _)
theorem Own.u32 {w w1 : World} {bs : List (TypeId × Array Value)} {A n c xs} (h : Own w bs w1) (hz : U32 w A n c xs) : U32 w1 A n c xs := hz.below h.1 (Nat.le_refl _)

set_option maxRecDepth 100000 in
theorem r_signed (A : Option Addr) (l c : Nat) (s : Bool) (xs : List Nat) (w : World) (hx : U32 w A l c xs) (ht : Tr xs) (hl : l ≤ 1000000) (n : Int) (hn : Hid (n = if s then -(val xs : Int) else (val xs : Int))) :
    Calls Try.prog 60 #[.slice A l c, .bool s] w (PI w n) := by
  have hu := Try.underlying32
  have hp := Lib.hid (Tr.pos hx ht)
  have hfin : Hid (∀ b, b = decide (n < 0) → WR (w.alloc (.cells #[.slice A l c, .bool b] 32)) ⟨A, l, c, b⟩ n) := fun b hb => ⟨xs, hx.below ((Below.refl _ _).alloc (Nat.le_refl _) _) (Nat.le_refl _), ht, by have := hn.out; cases s <;> simp at this <;> omega, hb⟩
  have hb : Hid (∀ b : Bool, Below w.heap.size w (w.alloc (.cells #[.slice A l c, .bool b] 32))) := fun b => (Below.refl _ _).alloc (Nat.le_refl _) _
  cases s with
  | true =>
    by_cases h0 : 0 < l
    · have hd : Hid (decide (n < 0) = true) := by have h1 := hn.out; have h2 := hp.out; show _ = _; simp at h1 ⊢; omega
      go_enter Try.func60, Try.ntmps60
      go_wp2_with fail
      refine bodyPost_ret (v := .agg #[.slice A l c, .bool true]) (by simp [results, Try.results60, go_sem]) rfl ⟨⟨A, l, c, true⟩, rfl, hfin.out _ hd.out.symm, hb.out _⟩
    · have hd : Hid (decide (n < 0) = false) := by have h1 := hn.out; have h2 := hp.out; show _ = _; simp at h1 ⊢; omega
      have h00 : l = 0 := by omega
      subst h00
      go_enter Try.func60, Try.ntmps60
      go_wp2_with fail
      refine bodyPost_ret (v := .agg #[.slice A 0 c, .bool false]) (by simp [results, Try.results60, go_sem]) rfl ⟨⟨A, 0, c, false⟩, rfl, hfin.out _ hd.out.symm, hb.out _⟩
  | false =>
    have hd : Hid (decide (n < 0) = false) := by have h1 := hn.out; show _ = _; simp at h1 ⊢; omega
    go_enter Try.func60, Try.ntmps60
    go_wp2_with fail
    refine bodyPost_ret (v := .agg #[.slice A l c, .bool false]) (by simp [results, Try.results60, go_sem]) rfl ⟨⟨A, l, c, false⟩, rfl, hfin.out _ hd.out.symm, hb.out _⟩

set_option maxRecDepth 100000 in
theorem r_isNought (z : Wv) (n : Int) (w : World) (h : WR w z n) :
    Calls Try.prog 55 #[.agg #[.slice z.A z.l z.c, .bool z.g]] w fun e w' => e = .returned (.bool (decide (n = 0))) ∧ Below w.heap.size w w' := by
  have hu := Try.underlying32
  obtain ⟨A, l, c, s⟩ := z
  obtain ⟨xs, hx, ht, hv, -⟩ := h
  simp only at hx
  have hp := Lib.hid (Tr.pos hx ht)
  have hv := Lib.hid hv
  have hO := Own.one w 32 #[.slice A l c, .bool s]
  obtain ⟨hc0, hc1, hf0, hf1⟩ := blkW2 hO.b0
  have hO := Lib.hid hO
  have hd : Hid (((l : Int) == 0) = decide (n = 0)) := by
    have h1 := hp.out
    have h2 := hv.out
    show _ = _
    rw [Bool.eq_iff_iff]
    simp
    omega
  go_enter Try.func55, Try.ntmps55
  go_wp2_with fail
  go_ret
  refine ⟨?_, hO.out.1⟩
  rw [← hd.out]
  rfl

set_option maxRecDepth 100000 in
theorem r_one (w : World) : Calls Try.prog 63 #[] w (PI w 1) := by
  have hu := Try.underlying32
  go_enter Try.func63, Try.ntmps63
  go_wp2_with fail
  refine bodyPost_ret (v := .agg #[.slice (some ⟨w.heap.size + 1, 0, none⟩) 1 1, .bool false]) (by simp [results, Try.results63, go_sem]) rfl ⟨⟨some ⟨w.heap.size + 1, 0, none⟩, 1, 1, false⟩, rfl, ⟨[1], U32.new2 (xs := [1]) (by simp) rfl (by intro x hx; simp at hx; omega) (by simp), by simp [Tr], rfl, rfl⟩, ((Below.refl _ _).alloc (Nat.le_refl _) _).alloc (by simp) _⟩

/-- whether an integer is 1 -/
theorem one_iff {w : World} {A l c xs} {n : Int} {s : Bool} (hx : U32 w A l c xs) (ht : Tr xs) (hv : val xs = n.natAbs) (hs : s = decide (n < 0)) : n = 1 ↔ (xs = [1] ∧ s = false) := by
  constructor
  · rintro rfl
    refine ⟨?_, by simpa using hs⟩
    have h1 : val xs = 1 := hv
    rcases xs with _ | ⟨a, _ | ⟨b, r⟩⟩
    · simp [val] at h1
    · simp [val] at h1
      rw [h1]
    · exfalso
      have h2 := ht.low (by simp)
      have h3 : (4294967296 : Nat) ^ 1 ≤ 4294967296 ^ ((a :: b :: r).length - 1) := Nat.pow_le_pow_right (by omega) (by simp)
      omega
  · rintro ⟨rfl, rfl⟩
    simp [val] at hv hs
    omega

set_option maxRecDepth 100000 in
theorem r_isOne (z : Wv) (n : Int) (w : World) (h : WR w z n) :
    Calls Try.prog 54 #[.agg #[.slice z.A z.l z.c, .bool z.g]] w fun e w' => e = .returned (.bool (decide (n = 1))) ∧ Below w.heap.size w w' := by
  have hu := Try.underlying32
  obtain ⟨A, l, c, s⟩ := z
  obtain ⟨xs, hx, ht, hv, hs⟩ := h
  simp only at hx hs
  have hone := Lib.hid (one_iff hx ht hv hs)
  have hO := Own.one w 32 #[.slice A l c, .bool s]
  obtain ⟨hc0, hc1, hf0, hf1⟩ := blkW2 hO.b0
  have hx' := hO.u32 hx
  have hO := Lib.hid hO
  have hl := Lib.hid hx.1
  clear hv hs
  by_cases h1 : l = 1
  · subst h1
    obtain ⟨g, o, u, rfl, hg, hu0, hul, hcu⟩ := hx'.cell (k := 0) (by omega)
    have hxu : xs = [u] := by
      have := hl.out
      rcases xs with _ | ⟨a, _ | ⟨b, r⟩⟩ <;> simp at this hu0
      rw [hu0]
    subst hxu
    rw [Nat.add_zero] at hcu
    clear hu0 hl
    by_cases h2 : u = 1
    · subst h2
      cases s with
      | true =>
        have hd : Hid (decide (n = 1) = false) := by have := hone.out; show _ = _; simp at this ⊢; exact this
        go_enter Try.func54, Try.ntmps54
        go_wp2_with fail
        go_ret
        exact ⟨by rw [hd.out]; rfl, hO.out.1⟩
      | false =>
        have hd : Hid (decide (n = 1) = true) := by have := hone.out; show _ = _; simp at this ⊢; exact this
        go_enter Try.func54, Try.ntmps54
        go_wp2_with fail
        go_ret
        exact ⟨by rw [hd.out]; rfl, hO.out.1⟩
    · have h3 : ((u : Int) == 1) = false := by simp; omega
      have hd : Hid (decide (n = 1) = false) := by have := hone.out; show _ = _; simp at this ⊢; intro e; exact h2 (this.1 e).1
      clear h2
      go_enter Try.func54, Try.ntmps54
      go_wp2_with fail
      go_ret
      exact ⟨by rw [hd.out]; rfl, hO.out.1⟩
  · have h3 : ((l : Int) == 1) = false := by simp; omega
    have hd : Hid (decide (n = 1) = false) := by
      have h4 := hone.out
      have h5 := hl.out
      show _ = _
      simp
      intro e
      have := (h4.1 e).1
      rw [this] at h5
      simp at h5
      omega
    clear h1 hl
    go_enter Try.func54, Try.ntmps54
    go_wp2_with fail
    go_ret
    exact ⟨by rw [hd.out]; rfl, hO.out.1⟩

theorem WR.len {w : World} {z : Wv} {n : Int} (h : WR w z n) (hF : Fit n) : z.l ≤ 300000 := by
  obtain ⟨xs, hx, ht, hv, -⟩ := h
  exact hF.len hx ht hv

set_option maxRecDepth 100000 in
theorem r_neg (z : Wv) (n : Int) (w : World) (h : WR w z n) (hF : Fit n) :
    Calls Try.prog 57 #[.agg #[.slice z.A z.l z.c, .bool z.g]] w (PI w (-n)) := by
  have hu := Try.underlying32
  have hl := h.len hF
  obtain ⟨A, l, c, s⟩ := z
  obtain ⟨xs, hx, ht, hv, hs⟩ := h
  simp only at hx hs hl
  have hO := Own.two w 32 32 #[.slice A l c, .bool s] #[.slice none 0 0, .bool false]
  obtain ⟨hc0, hc1, hf0, hf1⟩ := blkW2 hO.b0
  have hO := Lib.hid hO
  have hn : Hid (-n = if (!s) then -(val xs : Int) else (val xs : Int)) := by
    show _ = _
    rw [hs, hv]
    by_cases hn : n < 0 <;> simp [hn] <;> omega
  clear hs hv
  go_enter Try.func57, Try.ntmps57
  go_wp2_with fail
  refine (r_signed A l c (!s) xs _ (hO.out.u32 hx) ht (by omega) (-n) hn).mono ?_
  rintro e w2 ⟨z2, rfl, hz2, hb2⟩
  have hO2 := hO.out.call hb2
  obtain ⟨hd0, hd1, he0, he1⟩ := blkW2 hO2.b1
  have hO2 := Lib.hid hO2
  have hb2 := Lib.hid hb2
  clear hc0 hc1 hf0 hf1
  go_wp2_with fail
  refine bodyPost_ret (v := .agg #[.slice z2.A z2.l z2.c, .bool z2.g]) (by simp [results, Try.results57, go_sem, hd0, hd1, he0, he1]) rfl ⟨z2, rfl, hz2.set (NoW.w hO2.out.b1) (SetB.set2 _ _ _ _ _ _), hO2.out.setW2 1 0 1 _ _⟩

set_option maxRecDepth 100000 in
theorem r_ofInt (n : Int) (w : World) (h : In64 n) :
    Calls Try.prog 32 #[.int .i64 n] w (PI w n) := by
  have hu := Try.underlying32
  have hO := Own.one w 32 #[.slice none 0 0, .bool false]
  have hO := Lib.hid hO
  by_cases hn : n < 0
  · obtain ⟨u, rfl⟩ : ∃ u : Nat, n = -(u : Int) := ⟨n.natAbs, by omega⟩
    have hw := uneg u (by omega) h
    have hU : Hid (u < 18446744073709551616) := by have := h.1; show _ < _; omega
    clear h
    go_enter Try.func32, Try.ntmps32
    go_wp2_with fail
    have hX : U32 ((w.alloc (.cells #[.slice none 0 0, .bool false] 32)).alloc (.cells #[Value.int .u32 ((u : Int) % 4294967296), Value.int .u32 ((u : Int) / 4294967296 % 4294967296)] 85)) (some ⟨w.heap.size + 1, 0, none⟩) 2 2 [u % 4294967296, u / 4294967296] := U32.new2 (xs := [u % 4294967296, u / 4294967296]) (by simp) (two_cs hU) (two_bd hU) (by simp)
    have hO2 := Lib.hid (hO.out.more (.cells #[Value.int .u32 ((u : Int) % 4294967296), Value.int .u32 ((u : Int) / 4294967296 % 4294967296)] 85))
    refine (r_trim _ _ _ _ _ hX (by omega)).mono ?_
    rintro e w2 ⟨k, hk, rfl, hv, ht, hb2⟩
    have hX2 := (hX.take hk).below hb2 (Nat.le_refl _)
    have hO3 := hO2.out.call hb2
    obtain ⟨hd0, hd1, he0, he1⟩ := blkW2 hO3.b0
    have hO3 := Lib.hid hO3
    have hb2 := Lib.hid hb2
    go_wp2_with fail
    refine bodyPost_ret (v := .agg #[.slice (some ⟨w.heap.size + 1, 0, none⟩) k 2, .bool true]) (by simp [results, Try.results32, go_sem, hd0, hd1, he0, he1]) rfl ⟨⟨some ⟨w.heap.size + 1, 0, none⟩, k, 2, true⟩, rfl, ⟨_, hX2.set (NoW.w hO3.out.b0) (SetB.set2 _ _ _ _ _ _), ht, by have := hv.out; rw [this]; simp [val]; omega, by simpa using hn⟩, hO3.out.setW2 0 0 1 _ _⟩
  · obtain ⟨u, rfl⟩ : ∃ u : Nat, n = (u : Int) := ⟨n.natAbs, by omega⟩
    have hw := upos u h
    have hU : Hid (u < 18446744073709551616) := by have := h.2; show _ < _; omega
    clear h
    go_enter Try.func32, Try.ntmps32
    go_wp2_with fail
    have hX : U32 ((w.alloc (.cells #[.slice none 0 0, .bool false] 32)).alloc (.cells #[Value.int .u32 ((u : Int) % 4294967296), Value.int .u32 ((u : Int) / 4294967296 % 4294967296)] 85)) (some ⟨w.heap.size + 1, 0, none⟩) 2 2 [u % 4294967296, u / 4294967296] := U32.new2 (xs := [u % 4294967296, u / 4294967296]) (by simp) (two_cs hU) (two_bd hU) (by simp)
    have hO2 := Lib.hid (hO.out.more (.cells #[Value.int .u32 ((u : Int) % 4294967296), Value.int .u32 ((u : Int) / 4294967296 % 4294967296)] 85))
    refine (r_trim _ _ _ _ _ hX (by omega)).mono ?_
    rintro e w2 ⟨k, hk, rfl, hv, ht, hb2⟩
    have hX2 := (hX.take hk).below hb2 (Nat.le_refl _)
    have hO3 := hO2.out.call hb2
    obtain ⟨hd0, hd1, he0, he1⟩ := blkW2 hO3.b0
    have hO3 := Lib.hid hO3
    have hb2 := Lib.hid hb2
    go_wp2_with fail
    refine bodyPost_ret (v := .agg #[.slice (some ⟨w.heap.size + 1, 0, none⟩) k 2, .bool false]) (by simp [results, Try.results32, go_sem, hd0, hd1, he0, he1]) rfl ⟨⟨some ⟨w.heap.size + 1, 0, none⟩, k, 2, false⟩, rfl, ⟨_, hX2.set (NoW.w hO3.out.b0) (SetB.set2 _ _ _ _ _ _), ht, by have := hv.out; rw [this]; simp [val]; omega, by simp⟩, hO3.out.setW2 0 0 1 _ _⟩

end Go.Proofs.Ytgoojlnfobjplaa

/- What the reference does with words: products. -/
namespace Go.Proofs.Ytgoojlnfobjplaa
open Go.RowKit
set_option linter.unusedSimpArgs false
set_option linter.unusedVariables false
attribute [local go_sem] qn30 qe30

theorem mul_wraps2 {o x y c : Nat} (ho : o < 4294967296) (hx : x < 4294967296) (hy : y < 4294967296) (hc : c < 4294967296) :
    IntKind.u64.wrap ((x : Int) * y) = (x : Int) * y ∧ IntKind.u64.wrap ((x : Int) * y + o) = (x : Int) * y + o ∧ IntKind.u64.wrap ((c : Int) + ((x : Int) * y + o)) = (c : Int) + ((x : Int) * y + o) := by
  have h := carry_bd ho hx hy hc
  have e : ((x * y : Nat) : Int) = (x : Int) * y := Int.natCast_mul _ _
  rw [← e]
  generalize x * y = p at *
  rw [IntKind.wrap_u64, IntKind.wrap_u64, IntKind.wrap_u64]
  omega

theorem mul_q2 (o x y c : Nat) : Value.int .u64 (((c : Int) + ((x : Int) * y + o)) / 4294967296) = Value.int .u64 (((o + x * y + c) / 4294967296 : Nat) : Int) := by
  have e : ((x * y : Nat) : Int) = (x : Int) * y := Int.natCast_mul _ _
  rw [← e]
  generalize x * y = p at *
  exact congrArg _ (by omega)
theorem mul_r2 (o x y c : Nat) : (((o + x * y + c) % 4294967296 : Nat) : Int) = ((c : Int) + ((x : Int) * y + o)) % 4294967296 := by
  have e : ((x * y : Nat) : Int) = (x : Int) * y := Int.natCast_mul _ _
  rw [← e]
  generalize x * y = p at *
  omega

set_option maxRecDepth 100000 in
set_option maxHeartbeats 1000000 in
theorem r_times (A B : Option Addr) (l c k d : Nat) (xs ys : List Nat) (w : World) (hU : U32 w A l c xs) (hV : U32 w B k d ys) (hn : l ≤ 400000) (hm : k ≤ 400000) :
    Calls Try.prog 62 #[.slice A l c, .slice B k d] w (PW w (val xs * val ys)) := by
  obtain ⟨i0, hi, hz0, hz1, hz2⟩ := info_parts info32
  have hlx := Lib.hid hU.1
  have hly := Lib.hid hV.1
  go_enter Try.func62, Try.ntmps62
  go_wp2_with (at_make; refine wpList_make_full _ rfl _ _ 30 rfl w.heap.size 85 i0 (.int .u32 0) 1 Try.underlying30 hi hz0 hz1 .i64 .i64 _ _ (l + k) rfl rfl ?c1 ?c1' ?c2 ?c3 ?c4 ?_; rotate_left 5; intro w3 hown hg1)
  case c1 => simp
  case c1' => simp
  case c2 => rw [hz2]; omega
  case c3 => simp [maxLen]; omega
  case c4 => exact Nat.le_refl _
  have hb0 : Below w.heap.size w w3 := (Below.refl _ _).grown hg1 (Nat.le_refl _) (by intro k hk; cases hk)
  rw [made_zeros] at hown
  clear hg1
  go_loopw [6] (fun v6 wr => ∃ (i : Nat) (L : List Nat), i ≤ l ∧ v6 = .int .i64 i ∧ wr.ownsRow w.heap.size 85 1 (.slice (some ⟨w.heap.size, 0, none⟩) (l + k) (l + k)) (l + k) (vs L) ∧ Bd L ∧ Hid (MulOut L xs ys i) ∧ Below w.heap.size w wr) (fun i _ => l - (intOf i).toNat)
  case atStart => exact ⟨0, _, by omega, rfl, hown, Bd_zeros _, by have := MulOut.start xs ys; rwa [hlx.out, hly.out] at this, hb0⟩
  case round =>
    clear hown hb0
    obtain ⟨i, L, hil, rfl, hown, hbd, hM, hb⟩ := hrel
    by_cases hlt : i < l
    · obtain ⟨gx, ox, x, rfl, hgx, hxk', hxl, hcx⟩ := hU.cellD hb (Nat.le_refl _) hlt
      have hxk := Lib.hid hxk'
      clear hxk' hcx hgx
      go_wp2_with fail
      go_loopw [7, 8] (fun v7 v8 wq => ∃ (j cy : Nat) (M : List Nat), j ≤ k ∧ cy < 4294967296 ∧ v8 = .int .i64 j ∧ v7 = .int .u64 cy ∧ wq.ownsRow w.heap.size 85 1 (.slice (some ⟨w.heap.size, 0, none⟩) (l + k) (l + k)) (l + k) (vs M) ∧ Bd M ∧ Hid (MulIn L M i x ys j cy) ∧ Below w.heap.size w wq) (fun _ j _ => k - (intOf j).toNat)
      case atStart => exact ⟨0, 0, L, by omega, by omega, rfl, rfl, hown, hbd, MulIn.start _ _ _ _, hb⟩
      case round =>
        clear hown hbd hb
        obtain ⟨j, cy, M, hjk, hcy, rfl, rfl, hown, hbd, hI, hb⟩ := hrel
        by_cases hlj : j < k
        · obtain ⟨gx', ox', x', hA', hgx, hxk', hxl', hcx⟩ := hU.cellD hb (Nat.le_refl _) hlt
          obtain ⟨rfl, rfl⟩ : gx = gx' ∧ ox = ox' := by simpa using hA'
          obtain rfl : x' = x := by have h1 := hxk.out; rw [hxk'] at h1; injection h1
          clear hxk' hA' hxl'
          obtain ⟨gy, oy, y', rfl, hgy, hyk', hyl, hcy'⟩ := hV.cellD hb (Nat.le_refl _) hlj
          have hyk := Lib.hid hyk'
          clear hyk'
          obtain ⟨o, ho', hco⟩ := row_cell hown (k := i + j) (by omega)
          have hol : o < 4294967296 := hbd _ (List.mem_of_getElem? ho')
          have ho := Lib.hid ho'
          clear ho'
          have hfr := hown.frozenAt (i + j)
          obtain ⟨q1, q2, q3⟩ := mul_wraps2 hol hxl hyl hcy
          have hcb := Lib.hid (carry_bd hol hxl hyl hcy)
          go_wp2_with fail
          go_quiet (fail)
          go_wp2_with fail
          go_roundw
          case rel => exact ⟨j + 1, (o + x' * y' + cy) / 4294967296, M.set (i + j) ((o + x' * y' + cy) % 4294967296), by omega, by have := hcb.out; omega, by go_num, mul_q2 o x' y' cy, row_set (row_drewN hown _) (i + j) _ (mul_r2 o x' y' cy), Bd_set hbd (by omega), hI.out.step ho.out hyk.out, (bdN hb _).setCell (Nat.le_refl _) _⟩
          case measure => simp [intOf]; omega
        · have : j = k := by omega
          subst this
          obtain ⟨o, ho', hco⟩ := row_cell hown (k := i + j) (by omega)
          have hfr := hown.frozenAt (i + j)
          clear ho'
          go_wp2_with fail
          go_roundw
          case rel => exact ⟨i + 1, M.set (i + j) cy, by omega, by go_num, row_set hown (i + j) cy rfl, Bd_set hbd hcy, by have h1 := hlx.out; have h2 := hly.out; have := MulOut.step (c := cy) (L := M) hM.out hxk.out (by rw [h2]; exact hI.out); rwa [h2] at this, hb.setCell (Nat.le_refl _) _⟩
          case measure => simp [intOf]; omega
    · have : i = l := by omega
      subst this
      have hR := U32.own hown hbd
      have hvL := Lib.hid hM.out.1
      clear hown hM
      go_wp2_with fail
      refine (r_trim _ _ _ _ _ hR (by omega)).mono ?_
      rintro e w4 ⟨k', hk', rfl, hv', ht', hb3⟩
      have hb4 := hb.trans (hb3.mono hb.size)
      go_wp2_with fail
      go_ret
      exact ⟨_, _, _, _, rfl, (hR.take hk').below hb3 (Nat.le_refl _), ht', by rw [hv'.out, hvL.out, List.take_of_length_le (by have := hlx.out; omega)], hb4⟩

end Go.Proofs.Ytgoojlnfobjplaa
