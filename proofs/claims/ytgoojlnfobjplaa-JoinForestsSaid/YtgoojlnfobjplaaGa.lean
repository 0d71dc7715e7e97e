/- The forest of a graph: what is to be computed: labels, the least node of each part. -/
import Derived.Test.YtgoojlnfobjplaaFd
namespace Go.Proofs.Ytgoojlnfobjplaa
open Go.RowKit
set_option linter.unusedSimpArgs false
set_option linter.unusedVariables false

/-- two parts made one, named by the lesser label -/
def lab (S : Nat → Nat) (x y : Nat) : Nat → Nat := fun z => if S z = max (S x) (S y) then min (S x) (S y) else S z

/-- labels: each part's least node -/
def LB (n : Nat) (S : Nat → Nat) : Prop := ∀ i, i < n → S i ≤ i ∧ S (S i) = S i

theorem LB.start (n : Nat) : LB n (fun x => x) := fun _ _ => ⟨Nat.le_refl _, rfl⟩
theorem LB.join {n : Nat} {S : Nat → Nat} (h : LB n S) {x y : Nat} (hx : x < n) (hy : y < n) : LB n (lab S x y) := by
  intro i hi
  have h1 := h i hi
  have hX := h x hx
  have hY := h y hy
  unfold lab
  by_cases e : S i = max (S x) (S y)
  · rw [if_pos e]
    refine ⟨by omega, ?_⟩
    have e2 : S (min (S x) (S y)) = min (S x) (S y) := by
      rcases Nat.le_total (S x) (S y) with h2 | h2
      · rw [Nat.min_eq_left h2]; exact hX.2
      · rw [Nat.min_eq_right h2]; exact hY.2
    rw [e2]
    split
    · rfl
    · rfl
  · rw [if_neg e]
    exact ⟨h1.1, by rw [h1.2, if_neg e]⟩

/-- the same parts, by what stands for a node and by labels -/
def EQ (n : Nat) (R S : Nat → Nat) : Prop := ∀ a b, a < n → b < n → (R a = R b ↔ S a = S b)

theorem EQ.start (n : Nat) : EQ n (fun x => x) (fun x => x) := fun _ _ _ _ => Iff.rfl
theorem EQ.join {n : Nat} {R S : Nat → Nat} (h : EQ n R S) {x y : Nat} (hx : x < n) (hy : y < n) : EQ n (jn R x y) (lab S x y) := by
  intro a b ha hb
  have h1 := h a b ha hb
  have h2 := h a x ha hx
  have h3 := h a y ha hy
  have h4 := h b x hb hx
  have h5 := h b y hb hy
  have h6 := h x y hx hy
  unfold jn lab
  rcases Nat.le_total (S x) (S y) with h7 | h7
  · rw [Nat.max_eq_right h7, Nat.min_eq_left h7]
    grind
  · rw [Nat.max_eq_left h7, Nat.min_eq_right h7]
    grind

/-- whether a node's part has a root -/
def hasR (rs : List Nat) (S : Nat → Nat) (a : Nat) : Bool := rs.any fun r => S r == S a

/-- the firm arcs joined, if they make no ring -/
def firmF (l : List (Nat × Nat)) : Option (Nat → Nat) := l.foldl (fun o a => o.bind fun S => if S a.1 = S a.2 then none else some (lab S a.1 a.2)) (some fun x => x)

theorem firmF_snoc (l : List (Nat × Nat)) (a : Nat × Nat) : firmF (l ++ [a]) = (firmF l).bind fun S => if S a.1 = S a.2 then none else some (lab S a.1 a.2) := by simp [firmF]

theorem firmF_none (l r : List (Nat × Nat)) (h : firmF l = none) : firmF (l ++ r) = none := by
  induction r generalizing l with
  | nil => simpa using h
  | cons a r ih =>
    rw [show l ++ a :: r = (l ++ [a]) ++ r by simp]
    exact ih _ (by rw [firmF_snoc, h]; rfl)

/-- a loose arc: its parts joined, or it is broken -/
def looseS (rs : List Nat) (st : (Nat → Nat) × List Nat × Nat) (a : Nat × Nat) : (Nat → Nat) × List Nat × Nat :=
  if (hasR rs st.1 a.1 && hasR rs st.1 a.2) || decide (st.1 a.1 = st.1 a.2) then (st.1, st.2.1 ++ [st.2.2], st.2.2 + 1) else (lab st.1 a.1 a.2, st.2.1, st.2.2 + 1)

def looseF (rs : List Nat) (S : Nat → Nat) (l : List (Nat × Nat)) : (Nat → Nat) × List Nat × Nat := l.foldl (looseS rs) (S, [], 0)

theorem looseF_snoc (rs : List Nat) (S : Nat → Nat) (l : List (Nat × Nat)) (a : Nat × Nat) : looseF rs S (l ++ [a]) = looseS rs (looseF rs S l) a := by simp [looseF]

theorem loose_len (rs : List Nat) : ∀ (l : List (Nat × Nat)) (st : (Nat → Nat) × List Nat × Nat), (l.foldl (looseS rs) st).2.2 = st.2.2 + l.length
  | [], _ => rfl
  | a :: r, st => by
    rw [List.foldl_cons, loose_len rs r]
    unfold looseS
    split <;> simp <;> omega

theorem looseF_len (rs : List Nat) (S : Nat → Nat) (l : List (Nat × Nat)) : (looseF rs S l).2.2 = l.length := by
  unfold looseF
  rw [loose_len]
  simp

/-- whether a node is told -/
def outB (rs : List Nat) (S : Nat → Nat) (i : Nat) : Bool := rs.contains i || (S i == i && !hasR rs S i)

/-- two roots in one part -/
def twoR (rs : List Nat) (S : Nat → Nat) : Bool := rs.any fun a => rs.any fun b => a != b && S a == S b

def toA (zs : List Int) : Nat × Nat := ((zs.getD 0 0).toNat, (zs.getD 1 0).toNat)

/-- the whole answer: what is wrong, the arcs that are broken, the nodes that are told -/
def forestS (n : Int) (fs ls : List (List Int)) (rs : List Int) : Int × List Nat × List Nat :=
  if (decide (n < 1) || decide (64 < n)) || fs.any (fun a => !isA n a) || ls.any (fun a => !isA n a) || rs.any (fun r => !isN n r) then (1, [], [])
  else if 96 < fs.length ∨ 96 < ls.length then (3, [], [])
  else match firmF (fs.map toA) with
    | none => (7, [], [])
    | some S => if twoR (rs.map Int.toNat) S then (7, [], []) else (0, (looseF (rs.map Int.toNat) S (ls.map toA)).2.1, (List.range n.toNat).filter (outB (rs.map Int.toNat) (looseF (rs.map Int.toNat) S (ls.map toA)).1))

end Go.Proofs.Ytgoojlnfobjplaa
