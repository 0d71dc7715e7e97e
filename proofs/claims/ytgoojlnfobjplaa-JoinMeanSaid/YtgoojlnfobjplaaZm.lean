/- Plain laws on lists of 32 bit words: sums, differences, comparison. No program here. -/
import Derived.Test.YtgoojlnfobjplaaZw
namespace Go.Proofs.Ytgoojlnfobjplaa
open Go.RowKit
set_option linter.unusedSimpArgs false
set_option linter.unusedVariables false

theorem val_take_succ (xs : List Nat) (k u : Nat) (h : xs[k]? = some u) : val (xs.take (k + 1)) = val (xs.take k) + 4294967296 ^ k * u := by
  have hl : k < xs.length := (List.getElem?_eq_some_iff.1 h).1
  rw [List.take_add_one, h]
  simp only [Option.toList]
  rw [val_append, List.length_take]
  simp [val, Nat.min_eq_left (Nat.le_of_lt hl)]

theorem val_snoc (zs : List Nat) (x : Nat) : val (zs ++ [x]) = val zs + 4294967296 ^ zs.length * x := by
  rw [val_append]; simp [val]

theorem Bd_snoc {zs : List Nat} {x : Nat} (h : Bd zs) (hx : x < 4294967296) : Bd (zs ++ [x]) := by
  intro y hy
  rcases List.mem_append.1 hy with hy | hy
  · exact h y hy
  · simp at hy; omega
theorem Bd_take {zs : List Nat} (h : Bd zs) (k : Nat) : Bd (zs.take k) := fun y hy => h y (List.mem_of_mem_take hy)
theorem Bd_drop {zs : List Nat} (h : Bd zs) (k : Nat) : Bd (zs.drop k) := fun y hy => h y (List.mem_of_mem_drop hy)
theorem Bd_nil : Bd [] := fun _ h => absurd h List.not_mem_nil

theorem vs1 (zs : List Nat) (t : Nat) (i : Int) (h : (t : Int) = i) : vs (zs ++ [t]) = vs zs ++ [.int .u32 i] := by subst h; simp [vs]

theorem own_snoc {w : World} {B n : Nat} {e : TypeId} {v : Value} {zs : List Nat} {t : Nat} {i : Int} (h : w.ownsRow B e 1 v n (vs zs ++ [.int .u32 i])) (he : (t : Int) = i) : w.ownsRow B e 1 v n (vs (zs ++ [t])) := by
  rw [vs1 zs t i he]; exact h
theorem own_len {w : World} {B n : Nat} {e : TypeId} {v : Value} {zs : List Nat} (h : w.ownsRow B e 1 v n (vs zs)) : zs.length = n := by
  have := h.1; rw [vs_len] at this; omega

theorem val_split (xs : List Nat) (k : Nat) (h : k ≤ xs.length) : val xs = val (xs.take k) + 4294967296 ^ k * val (xs.drop k) := by
  have := val_append (xs.take k) (xs.drop k)
  rw [List.take_append_drop, List.length_take, Nat.min_eq_left h] at this
  exact this

theorem take_past {ys : List Nat} {k : Nat} (h : ys.length ≤ k) : val (ys.take (k + 1)) = val (ys.take k) + 4294967296 ^ k * 0 := by
  rw [List.take_of_length_le (by omega), List.take_of_length_le h]; rfl

/-- one word of a sum -/
theorem add_step {xs ys zs : List Nat} {k cy x y : Nat} (hk : zs.length = k) (hx : xs[k]? = some x) (hy : val (ys.take (k + 1)) = val (ys.take k) + 4294967296 ^ k * y)
    (h : Hid (val zs + 4294967296 ^ k * cy = val (xs.take k) + val (ys.take k))) :
    Hid (val (zs ++ [(x + cy + y) % 4294967296]) + 4294967296 ^ (k + 1) * ((x + cy + y) / 4294967296) = val (xs.take (k + 1)) + val (ys.take (k + 1))) := by
  have h := h.out
  show _ = _
  rw [val_snoc, hk, val_take_succ xs k x hx, hy, Nat.pow_succ]
  have e := Nat.div_add_mod (x + cy + y) 4294967296
  generalize (x + cy + y) / 4294967296 = q at *
  generalize (x + cy + y) % 4294967296 = r at *
  generalize 4294967296 ^ k = P at *
  grind

/-- one word of a difference: t is what is laid, b' the new borrow -/
theorem sub_step {xs ys zs : List Nat} {k bw bw' x y t : Nat} (hk : zs.length = k) (hx : xs[k]? = some x) (hy : val (ys.take (k + 1)) = val (ys.take k) + 4294967296 ^ k * y)
    (ht : t + bw + y = x + 4294967296 * bw')
    (h : Hid (val zs + val (ys.take k) = val (xs.take k) + 4294967296 ^ k * bw)) :
    Hid (val (zs ++ [t]) + val (ys.take (k + 1)) = val (xs.take (k + 1)) + 4294967296 ^ (k + 1) * bw') := by
  have h := h.out
  show _ = _
  rw [val_snoc, hk, val_take_succ xs k x hx, hy, Nat.pow_succ]
  generalize 4294967296 ^ k = P at *
  have : P * (t + bw + y) = P * (x + 4294967296 * bw') := by rw [ht]
  grind

theorem sub_end {a b z P bw : Nat} (h : z + b = a + P * bw) (hz : z < P) (hab : b ≤ a) : z + b = a := by
  rcases bw with _ | bw
  · omega
  · have : P ≤ P * (bw + 1) := Nat.le_mul_of_pos_right P (by omega)
    omega

/-- the highest word is not 0 -/
def Tr (xs : List Nat) : Prop := xs.getLast? ≠ some 0
theorem Tr_nil : Tr [] := by simp [Tr]

theorem Tr.low {xs : List Nat} (h : Tr xs) (hn : xs ≠ []) : 4294967296 ^ (xs.length - 1) ≤ val xs := by
  obtain ⟨ys, y, rfl⟩ : ∃ ys y, xs = ys ++ [y] := ⟨xs.dropLast, xs.getLast hn, (List.dropLast_concat_getLast hn).symm⟩
  have hy : y ≠ 0 := by intro e; apply h; simp [e]
  rw [val_snoc]
  simp only [List.length_append, List.length_cons, List.length_nil, Nat.zero_add, Nat.add_sub_cancel]
  have : 4294967296 ^ ys.length * 1 ≤ 4294967296 ^ ys.length * y := Nat.mul_le_mul_left _ (by omega)
  omega

theorem Tr.lt_of_len {xs ys : List Nat} (hx : Bd xs) (hy : Tr ys) (h : xs.length < ys.length) : val xs < val ys := by
  have h1 := val_lt xs hx
  have h2 := hy.low (by intro e; subst e; simp at h)
  have h3 : (4294967296 : Nat) ^ xs.length ≤ 4294967296 ^ (ys.length - 1) := Nat.pow_le_pow_right (by omega) (by omega)
  omega

/-- -1, 0 or 1 -/
def cmpN (a b : Nat) : Int := if a < b then -1 else if b < a then 1 else 0
theorem cmpN_lt {a b : Nat} (h : a < b) : cmpN a b = -1 := by simp [cmpN, h]
theorem cmpN_gt {a b : Nat} (h : b < a) : cmpN a b = 1 := by simp [cmpN, h]; omega
theorem cmpN_eq {a b : Nat} (h : a = b) : cmpN a b = 0 := by subst h; simp [cmpN]

theorem val_lt_at {xs ys : List Nat} {k x y : Nat} (hx : Bd xs) (hlx : xs.length = ys.length) (h1 : xs[k]? = some x) (h2 : ys[k]? = some y) (hd : xs.drop (k + 1) = ys.drop (k + 1)) (h : x < y) : val xs < val ys := by
  have l1 : k < xs.length := (List.getElem?_eq_some_iff.1 h1).1
  have l2 : k < ys.length := (List.getElem?_eq_some_iff.1 h2).1
  have e1 := val_split xs (k + 1) l1
  have e2 := val_split ys (k + 1) l2
  rw [val_take_succ _ _ _ h1, hd] at e1
  rw [val_take_succ _ _ _ h2] at e2
  have b1 := val_lt (xs.take k) (Bd_take hx k)
  rw [List.length_take, Nat.min_eq_left (by omega)] at b1
  generalize 4294967296 ^ (k + 1) * val (ys.drop (k + 1)) = T at *
  generalize 4294967296 ^ k = P at *
  have : P * (x + 1) ≤ P * y := Nat.mul_le_mul_left _ h
  rw [Nat.mul_add] at this
  omega

theorem drop_step {xs ys : List Nat} {k x : Nat} (h1 : xs[k]? = some x) (h2 : ys[k]? = some x) (hd : xs.drop (k + 1) = ys.drop (k + 1)) : xs.drop k = ys.drop k := by
  have l1 : k < xs.length := (List.getElem?_eq_some_iff.1 h1).1
  have l2 : k < ys.length := (List.getElem?_eq_some_iff.1 h2).1
  rw [List.drop_eq_getElem_cons l1, List.drop_eq_getElem_cons l2, hd]
  congr 1
  rw [List.getElem?_eq_getElem l1] at h1
  rw [List.getElem?_eq_getElem l2] at h2
  injection h1 with h1
  injection h2 with h2
  omega

theorem bdN {B : Nat} {a w : World} (h : Below B a w) (n : Nat) : Below B a (w.drewN n) := ⟨h.os, h.tape, h.output, h.size, h.block⟩

theorem U32.of_block {w : World} {g : Nat} {xs : List Nat} {t : TypeId} (h : w.heap[g]? = some (.cells (vs xs).toArray t (0, 0))) (hb : Bd xs) (hl : xs.length ≤ 1000000) : U32 w (some ⟨g, 0, none⟩) xs.length xs.length xs := by
  refine ⟨rfl, hb, Nat.le_refl _, by omega, .inr ⟨g, 0, rfl, (Array.getElem?_eq_some_iff.1 h).1, fun j u hu => ?_⟩⟩
  rw [Nat.zero_add, cell_of_row w g j _ t (0, 0) h]
  simpa using vs_get _ _ _ hu

theorem U32.drew {w : World} {A n c xs} (h : U32 w A n c xs) : U32 w.drew A n c xs := h
theorem U32.drewN {w : World} {A n c xs} (h : U32 w A n c xs) (k : Nat) : U32 (w.drewN k) A n c xs := h
theorem two_bd {u : Nat} (h : Hid (u < 18446744073709551616)) : Bd [u % 4294967296, u / 4294967296] := by
  intro x hx
  have h := h.out
  simp at hx
  omega

theorem U32.new2 {w : World} {k : Nat} {cs : Array Value} {xs : List Nat} {t : TypeId} (hk : k = w.heap.size) (hcs : cs = (vs xs).toArray) (hb : Bd xs) (hl : xs.length ≤ 1000000) : U32 (w.alloc (.cells cs t)) (some ⟨k, 0, none⟩) xs.length xs.length xs := by
  subst hk
  subst hcs
  exact U32.of_block (t := t) (heap_alloc_new w _) hb hl
theorem two_cs {u : Nat} (h : Hid (u < 18446744073709551616)) : #[Value.int .u32 ((u : Int) % 4294967296), Value.int .u32 ((u : Int) / 4294967296 % 4294967296)] = (vs [u % 4294967296, u / 4294967296]).toArray := by
  have h := h.out
  have e1 : (u : Int) % 4294967296 = ((u % 4294967296 : Nat) : Int) := by omega
  have e2 : (u : Int) / 4294967296 % 4294967296 = ((u / 4294967296 : Nat) : Int) := by omega
  rw [e1, e2]
  rfl

theorem ZR.cases3 {w : World} {z : Zv} {n : Int} (h : ZR w z n) :
    (z = ⟨n, none, 0, 0, false⟩ ∧ In64 n) ∨
    (∃ (g o c : Nat) (xs : List Nat), z = ⟨0, some ⟨g, o, none⟩, xs.length, c, false⟩ ∧ U32 w (some ⟨g, o, none⟩) xs.length c xs ∧ Tr xs ∧ Hid (9223372036854775808 ≤ val xs) ∧ Hid (n = (val xs : Int)) ∧ 0 < n) ∨
    (∃ (g o c : Nat) (xs : List Nat), z = ⟨0, some ⟨g, o, none⟩, xs.length, c, true⟩ ∧ U32 w (some ⟨g, o, none⟩) xs.length c xs ∧ Tr xs ∧ Hid (9223372036854775808 ≤ val xs) ∧ Hid (n = -(val xs : Int)) ∧ n < 0) := by
  rcases h.cases with h1 | ⟨g, o, c, s, xs, rfl, hU, hl, hv, hn⟩
  · exact .inl h1
  · rcases s with _ | _
    · exact .inr (.inl ⟨g, o, c, xs, rfl, hU, hl, hv, (by show _ = _; simpa using hn), by simp at hn; omega⟩)
    · exact .inr (.inr ⟨g, o, c, xs, rfl, hU, hl, hv, (by show _ = _; simpa using hn), by simp at hn; omega⟩)

def Blk (w : World) (g : Nat) (t : TypeId) (cs : Array Value) : Prop := w.heap[g]? = some (.cells cs t (0, 0))
section
variable {w w' : World} {g : Nat} {t : TypeId} {cs : Array Value}
theorem Blk.lt (h : Blk w g t cs) : g < w.heap.size := (Array.getElem?_eq_some_iff.1 h).1
theorem Blk.cell (h : Blk w g t cs) (i : Nat) : w.cell? ⟨g, i, none⟩ = cs[i]? := cell_of_row w g i cs t (0, 0) h
theorem Blk.frozen (h : Blk w g t cs) (i : Nat) : w.frozen? ⟨g, i, none⟩ = false := by
  unfold Blk at h
  simp [World.frozen?, h]
theorem Blk.new (w : World) (t : TypeId) (cs : Array Value) : Blk (w.alloc (.cells cs t)) w.heap.size t cs := heap_alloc_new w _
theorem Blk.drew (h : Blk w g t cs) : Blk w.drew g t cs := h
theorem Blk.drewN (h : Blk w g t cs) (n : Nat) : Blk (w.drewN n) g t cs := h
theorem Blk.alloc (h : Blk w g t cs) (o : Obj) : Blk (w.alloc o) g t cs := (Below.heap_alloc w o g h.lt).trans h
theorem Blk.far (h : Blk w g t cs) {p : Addr} (hp : g ≠ p.block) (u : Value) : Blk (w.setCell p u) g t cs := (Below.heap_setCell w p u g hp).trans h
theorem Blk.below {B : Nat} (h : Blk w g t cs) (hb : Below B w w') (hg : g < B) : Blk w' g t cs := (hb.block g hg).trans h
theorem Blk.grown {row : Option Nat} (h : Blk w g t cs) (hb : w.grownBy w' row) (hg : some g ≠ row) : Blk w' g t cs := (hb.block g h.lt hg).trans h
end

theorem uneg (u : Nat) (h0 : 0 < u) (h : In64 (-(u : Int))) : IntKind.u64.wrap (-IntKind.u64.wrap (-(u : Int))) = u := by
  obtain ⟨h1, h2⟩ := h
  rw [IntKind.wrap_u64, IntKind.wrap_u64]
  omega

theorem upos (u : Nat) (h : In64 (u : Int)) : IntKind.u64.wrap (u : Int) = u := by
  obtain ⟨h1, h2⟩ := h
  rw [IntKind.wrap_u64]
  omega

end Go.Proofs.Ytgoojlnfobjplaa
