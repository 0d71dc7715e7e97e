/- Words for integers and rational numbers of any size in memory: what a slice of 32 bit words reads as. -/
import Derived.Test.YtgoojlnfobjplaaProg
import Derived.WalkKit
import Derived.KernelRfl
import Derived.Deep.LoopGhost
import Derived.Deep.QuietTactic
import Derived.BigQuiet
import Derived.WalkSpells
import Derived.Lib.Hide
import Derived.Deep.DeepCutAuto
import Derived.Deep.CutBlock
import Derived.Laws.MakeOwn
import Derived.Deep.RegionHeld3
import Derived.StillTailTactics
import Derived.WalkLawsBesides
namespace Go.Proofs.Ytgoojlnfobjplaa
open Go.RowKit
set_option linter.unusedSimpArgs false
set_option linter.unusedVariables false

/-- the number of a list of words, the lowest first -/
def val : List Nat → Nat
  | [] => 0
  | x :: r => x + 4294967296 * val r

theorem val_append (a b : List Nat) : val (a ++ b) = val a + 4294967296 ^ a.length * val b := by
  induction a with
  | nil => simp [val]
  | cons x a ih => simp only [List.cons_append, val, ih, List.length_cons, Nat.pow_succ]; grind

def Bd (xs : List Nat) : Prop := ∀ x ∈ xs, x < 4294967296

theorem val_lt (a : List Nat) (h : Bd a) : val a < 4294967296 ^ a.length := by
  induction a with
  | nil => simp [val]
  | cons x a ih =>
    have h1 := ih (fun y hy => h y (by simp [hy]))
    have h2 := h x (by simp)
    simp only [val, List.length_cons, Nat.pow_succ]
    omega

/-- the slice `.slice A n c` reads as the words xs -/
def U32 (w : World) (A : Option Addr) (n c : Nat) (xs : List Nat) : Prop :=
  xs.length = n ∧ Bd xs ∧ n ≤ c ∧ c ≤ 9223372036854775807 ∧ ((A = none ∧ c = 0) ∨ ∃ g o, A = some ⟨g, o, none⟩ ∧ g < w.heap.size ∧ ∀ (j u : Nat), xs[j]? = some u → w.cell? ⟨g, o + j, none⟩ = some (.int .u32 (u : Int)))

theorem U32.below {w w' : World} {A n c xs B} (h : U32 w A n c xs) (hb : Below B w w') (hB : w.heap.size ≤ B) : U32 w' A n c xs := by
  obtain ⟨h1, h2, h3, h4, h5⟩ := h
  refine ⟨h1, h2, h3, h4, ?_⟩
  rcases h5 with h5 | ⟨g, o, rfl, hg, hc⟩
  · exact .inl h5
  · exact .inr ⟨g, o, rfl, Nat.lt_of_lt_of_le hg hb.size, fun j u hu => (hb.cell (p := ⟨g, o + j, none⟩) (Nat.lt_of_lt_of_le hg hB)).trans (hc j u hu)⟩

theorem U32.nil (w : World) : U32 w none 0 0 [] := ⟨rfl, (fun _ h => absurd h List.not_mem_nil), Nat.le_refl _, by omega, .inl ⟨rfl, rfl⟩⟩

def In64 (n : Int) : Prop := -9223372036854775808 ≤ n ∧ n ≤ 9223372036854775807

/-- an integer's fields -/
structure Zv where
  x : Int
  A : Option Addr
  l : Nat
  c : Nat
  g : Bool

/-- its fields in memory say the integer n -/
def ZR (w : World) (z : Zv) (n : Int) : Prop :=
  (z = ⟨n, none, 0, 0, false⟩ ∧ In64 n) ∨
  ∃ xs : List Nat, z.x = 0 ∧ U32 w z.A z.l z.c xs ∧ xs.getLast? ≠ some 0 ∧ 9223372036854775808 ≤ val xs ∧ n = (if z.g then - (val xs : Int) else (val xs : Int))

theorem ZR.below {w w' : World} {z n B} (h : ZR w z n) (hb : Below B w w') (hB : w.heap.size ≤ B) : ZR w' z n := by
  rcases h with h | ⟨xs, h1, h2, h3⟩
  · exact .inl h
  · exact .inr ⟨xs, h1, h2.below hb hB, h3⟩

/-- a rational number's fields -/
structure Qv where
  n : Zv
  d : Zv

def QR (w : World) (q : Qv) (r : Rat) : Prop := ZR w q.n r.num ∧ ZR w q.d (r.den : Int)

theorem QR.below {w w' : World} {q r B} (h : QR w q r) (hb : Below B w w') (hB : w.heap.size ≤ B) : QR w' q r := ⟨h.1.below hb hB, h.2.below hb hB⟩

theorem qn30 (w : World) (A : Option Addr) (n c : Nat) : (binOp .neq 30 (.slice A n c) (.slice none 0 0)).run Try.prog w = .ok (.bool (!A.isNone)) w :=
  run_neq_slice_nil_any w 30 85 A n c 0 0 Try.underlying30
theorem qe30 (w : World) (A : Option Addr) (n c : Nat) : (binOp .eql 30 (.slice A n c) (.slice none 0 0)).run Try.prog w = .ok (.bool A.isNone) w := by
  simp only [binOp]
  simp [Op.equal, Op.maxDepth, Lib.run_equalIn_slice_nil w 9999 30 85 A n c 0 0 Try.underlying30]

theorem info32 : (Try.prog.info? 85).map (fun i => (i.zero, i.size, i.bytes)) = some (some (.int .u32 0), 1, 4) := by kernel_rfl

/-- words as values -/
def vs (zs : List Nat) : List Value := zs.map fun (x : Nat) => .int .u32 (x : Int)
theorem vs_len (zs : List Nat) : (vs zs).length = zs.length := by simp [vs]
theorem vs_app (zs ys : List Nat) : vs (zs ++ ys) = vs zs ++ vs ys := by simp [vs]
theorem vs_one (zs : List Nat) : ∀ u ∈ vs zs, u.oneCell' = true := by
  intro u hu
  obtain ⟨_, _, rfl⟩ := List.mem_map.1 hu
  rfl
theorem vs_get (zs : List Nat) (j u : Nat) (h : zs[j]? = some u) : (vs zs)[j]? = some (.int .u32 (u : Int)) := by simp [vs, h]

/-- a row of the call's own reads as words -/
theorem U32.own {w : World} {base g n c : Nat} {zs : List Nat} (h : w.ownsRow base 85 1 (.slice (some ⟨g, 0, none⟩) n c) n (vs zs)) (hb : Bd zs) : U32 w (some ⟨g, 0, none⟩) n c zs := by
  have h1 := h.1
  rw [vs_len] at h1
  rcases h.2 with ⟨h2, _⟩ | ⟨g', cap, cur, h2, h3, h4, h5, h6, h7, h8⟩
  · cases h2
  · cases h2
    refine ⟨by omega, hb, h5, by simpa [maxLen] using h6, .inr ⟨g, 0, rfl, (Array.getElem?_eq_some_iff.1 h4).1, fun j u hu => ?_⟩⟩
    have hj : j < zs.length := (List.getElem?_eq_some_iff.1 hu).1
    rw [Nat.zero_add, h.cellAt j (by omega)]
    exact vs_get _ _ _ hu

theorem U32.cell {w : World} {A : Option Addr} {n c : Nat} {xs : List Nat} (h : U32 w A n c xs) {k : Nat} (hk : k < n) : ∃ (g o : Nat) (u : Nat), A = some ⟨g, o, none⟩ ∧ g < w.heap.size ∧ xs[k]? = some u ∧ u < 4294967296 ∧ w.cell? ⟨g, o + k, none⟩ = some (.int .u32 (u : Int)) := by
  obtain ⟨h1, h2, h3, h4, h5⟩ := h
  rcases h5 with ⟨_, h5⟩ | ⟨g, o, rfl, hg, hc⟩
  · omega
  · have hl : k < xs.length := by omega
    exact ⟨g, o, xs[k], rfl, hg, List.getElem?_eq_getElem hl, h2 _ (List.getElem_mem hl), hc k _ (List.getElem?_eq_getElem hl)⟩

/-- what a large integer is -/
theorem ZR.cases {w : World} {z : Zv} {n : Int} (h : ZR w z n) :
    (z = ⟨n, none, 0, 0, false⟩ ∧ In64 n) ∨
    ∃ (g o c : Nat) (s : Bool) (xs : List Nat), z = ⟨0, some ⟨g, o, none⟩, xs.length, c, s⟩ ∧ U32 w (some ⟨g, o, none⟩) xs.length c xs ∧ xs.getLast? ≠ some 0 ∧ 9223372036854775808 ≤ val xs ∧ n = (if s then - (val xs : Int) else (val xs : Int)) := by
  rcases h with h | ⟨xs, h1, h2, h3, h4, h5⟩
  · exact .inl h
  · obtain ⟨x, A, l, c, s⟩ := z
    obtain ⟨a1, a2, a3, a4, a5⟩ := h2
    dsimp only at *
    rcases a5 with ⟨rfl, rfl⟩ | ⟨g, o, rfl, hg, hc⟩
    · have : l = 0 := by omega
      subst this
      have : xs = [] := List.eq_nil_of_length_eq_zero a1
      subst this
      simp [val] at h4
    · subst a1
      subst h1
      exact .inr ⟨g, o, c, s, xs, rfl, ⟨rfl, a2, a3, a4, .inr ⟨g, o, rfl, hg, hc⟩⟩, h3, h4, h5⟩

end Go.Proofs.Ytgoojlnfobjplaa
