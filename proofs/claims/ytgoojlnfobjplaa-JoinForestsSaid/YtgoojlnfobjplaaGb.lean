/- The forest of a graph: the walk's state and what is to be computed. -/
import Derived.Test.YtgoojlnfobjplaaGa
namespace Go.Proofs.Ytgoojlnfobjplaa
open Go.RowKit
set_option linter.unusedSimpArgs false
set_option linter.unusedVariables false

def vi (l : List Nat) : List Value := l.map fun (x : Nat) => .int .i64 (x : Int)
theorem vi_len (l : List Nat) : (vi l).length = l.length := by simp [vi]
theorem vi_snoc (l : List Nat) (x : Nat) : vi (l ++ [x]) = vi l ++ [.int .i64 (x : Int)] := by simp [vi]
theorem vi_get (l : List Nat) (j u : Nat) (h : l[j]? = some u) : (vi l)[j]? = some (.int .i64 (u : Int)) := by simp [vi, h]

/-- a slice that reads as these nodes -/
def LN (w : World) (A : Option Addr) (n c : Nat) (l : List Nat) : Prop :=
  l.length = n ∧ n ≤ 1000 ∧ (∀ x ∈ l, x < 1000) ∧ (n = 0 ∨ ∃ g o, A = some ⟨g, o, none⟩ ∧ g < w.heap.size ∧ ∀ (j x : Nat), l[j]? = some x → w.cell? ⟨g, o + j, none⟩ = some (.int .i64 (x : Int)))

theorem LN.nil (w : World) : LN w none 0 0 [] := ⟨rfl, by omega, (fun _ h => by cases h), .inl rfl⟩
theorem LN.below {w w' : World} {A n c l B} (h : LN w A n c l) (hb : Below B w w') (hB : w.heap.size ≤ B) : LN w' A n c l := by
  obtain ⟨h1, h2, h3, h4⟩ := h
  refine ⟨h1, h2, h3, ?_⟩
  rcases h4 with h4 | ⟨g, o, rfl, hg, hc⟩
  · exact .inl h4
  · exact .inr ⟨g, o, rfl, Nat.lt_of_lt_of_le hg hb.size, fun j x hj => (hb.cell (p := ⟨g, o + j, none⟩) (Nat.lt_of_lt_of_le hg hB)).trans (hc j x hj)⟩

theorem LN.own {w : World} {base n c : Nat} {A : Option Addr} {l : List Nat} (h : w.ownsRow base 3 1 (.slice A n c) n (vi l)) (hn : n ≤ 1000) (hl : ∀ x ∈ l, x < 1000) : LN w A n c l := by
  have h1 := h.1
  rw [vi_len] at h1
  refine ⟨by omega, hn, hl, ?_⟩
  rcases h.2 with ⟨h2, h3⟩ | ⟨g', cap, cur, h2, h3, h4, h5, h6, h7, h8⟩
  · exact .inl h3
  · cases h2
    refine .inr ⟨g', 0, rfl, (Array.getElem?_eq_some_iff.1 h4).1, fun j u hu => ?_⟩
    have hj : j < l.length := (List.getElem?_eq_some_iff.1 hu).1
    rw [Nat.zero_add, h.cellAt j (by omega)]
    exact vi_get _ _ _ hu

/-- what came out: what is wrong, the broken arcs, the nodes that are told -/
def PForestS (w : World) (r : Int × List Nat × List Nat) (e : Ending) (w' : World) : Prop :=
  ∃ A lb cb C lo co, e = .returned (.tuple #[.slice A lb cb, .slice C lo co, .int .i64 r.1]) ∧ Below w.heap.size w w' ∧ LN w' A lb cb r.2.1 ∧ LN w' C lo co r.2.2

theorem PForestS.err {w w' : World} {r : Int × List Nat × List Nat} {er : Int} (h : r = (er, [], [])) (hb : Below w.heap.size w w') : PForestS w r (.returned (.tuple #[.slice none 0 0, .slice none 0 0, .int .i64 er])) w' := by
  subst h
  exact ⟨none, 0, 0, none, 0, 0, rfl, hb, LN.nil _, LN.nil _⟩

/-- the firm arcs under way -/
def Q4 (N : Nat) (fs : List (List Int)) (i : Nat) (R : Nat → Nat) : Prop := ∃ S, firmF ((fs.map toA).take i) = some S ∧ EQ N R S ∧ LB N S

theorem toA_two (x y : Nat) : toA [(x : Int), (y : Int)] = (x, y) := by simp [toA]

theorem take_at {α : Type} {l : List α} {i : Nat} {a : α} (h : l[i]? = some a) : l.take (i + 1) = l.take i ++ [a] := by
  rw [List.take_add_one, h]; rfl

theorem Q4.start (N : Nat) (fs : List (List Int)) : Q4 N fs 0 (fun x => x) := ⟨fun x => x, rfl, EQ.start N, LB.start N⟩
theorem arc_at {fs : List (List Int)} {i x y : Nat} (h : fs[i]? = some [(x : Int), (y : Int)]) : (fs.map toA)[i]? = some (x, y) := by
  rw [List.getElem?_map, h, Option.map_some, toA_two]
theorem Q4.join {N : Nat} {fs : List (List Int)} {i x y : Nat} {R : Nat → Nat} (h : Q4 N fs i R) (hf : fs[i]? = some [(x : Int), (y : Int)]) (hx : x < N) (hy : y < N) (hne : R x ≠ R y) : Q4 N fs (i + 1) (jn R x y) := by
  obtain ⟨S, h1, h2, h3⟩ := h
  refine ⟨lab S x y, ?_, h2.join hx hy, h3.join hx hy⟩
  rw [take_at (arc_at hf), firmF_snoc, h1]
  have : S x ≠ S y := fun e => hne ((h2 x y hx hy).2 e)
  simp [this]
theorem Q4.fail {N : Nat} {fs : List (List Int)} {i x y : Nat} {R : Nat → Nat} (h : Q4 N fs i R) (hf : fs[i]? = some [(x : Int), (y : Int)]) (hx : x < N) (hy : y < N) (he : R x = R y) : firmF (fs.map toA) = none := by
  obtain ⟨S, h1, h2, h3⟩ := h
  rw [← List.take_append_drop (i + 1) (fs.map toA)]
  apply firmF_none
  rw [take_at (arc_at hf), firmF_snoc, h1]
  have : S x = S y := (h2 x y hx hy).1 he
  simp [this]

/-- I: the roots met so far -/
def IR (rs : List Int) (i : Nat) (I : Nat → Bool) : Prop := ∀ k, I k = ((rs.map Int.toNat).take i).contains k

theorem IR.start (rs : List Int) : IR rs 0 (fun _ => false) := fun k => by simp
theorem root_at {rs : List Int} {i x : Nat} (h : rs[i]? = some (x : Int)) : (rs.map Int.toNat)[i]? = some x := by
  rw [List.getElem?_map, h]; rfl
theorem IR.skip {rs : List Int} {i x : Nat} {I : Nat → Bool} (h : IR rs i I) (hr : rs[i]? = some (x : Int)) (hI : I x = true) : IR rs (i + 1) I := fun k => by
  rw [take_at (root_at hr), List.contains_append, h k]
  by_cases e : k = x
  · subst e
    rw [h k] at hI
    rw [hI]
    rfl
  · simp [e]
theorem IR.put {rs : List Int} {i x : Nat} {I : Nat → Bool} (h : IR rs i I) (hr : rs[i]? = some (x : Int)) : IR rs (i + 1) (upd I x true) := fun k => by
  rw [take_at (root_at hr), List.contains_append]
  unfold upd
  by_cases e : k = x
  · subst e
    simp
  · simp [e, h k]

section
variable {N : Nat} {R S : Nat → Nat} {G I : Nat → Bool} {f : Nat → Option Nat} {rs : List Int}
theorem two_of {i x : Nat} (hR : RT N R G I) (hU : UF N f R) (hE : EQ N R S) (hI : IR rs i I) (hr : rs[i]? = some (x : Int)) (hx : x < N) (hIx : I x = false) (hG : G (R x) = true) : twoR (rs.map Int.toNat) S = true := by
  obtain ⟨k, hk, hIk, hRk⟩ := (hR.1 (R x) (hU.lt hx) (hU.idem hx)).1 hG
  have hkm : k ∈ rs.map Int.toNat := by
    rw [hI k] at hIk
    exact List.mem_of_mem_take (by simpa using hIk)
  have hxm : x ∈ rs.map Int.toNat := List.mem_of_getElem? (root_at hr)
  unfold twoR
  rw [List.any_eq_true]
  refine ⟨k, hkm, ?_⟩
  rw [List.any_eq_true]
  refine ⟨x, hxm, ?_⟩
  have hne : k ≠ x := by
    rintro rfl
    rw [hIk] at hIx
    cases hIx
  have hS := (hE k x hk hx).1 hRk
  simp [hne, hS]
theorem one_of (hR : RT N R G I) (hE : EQ N R S) (hI : IR rs rs.length I) (hn : ∀ r ∈ rs, ∃ x : Nat, r = (x : Int) ∧ x < N) : twoR (rs.map Int.toNat) S = false := by
  have hI2 : ∀ k, I k = (rs.map Int.toNat).contains k := fun k => by rw [hI k, List.take_of_length_le (by simp)]
  have hlt : ∀ a ∈ rs.map Int.toNat, a < N := fun a ha => by
    rw [List.mem_map] at ha
    obtain ⟨r, hr, rfl⟩ := ha
    obtain ⟨x, rfl, hx⟩ := hn r hr
    simpa using hx
  rw [← Bool.not_eq_true]
  unfold twoR
  rw [List.any_eq_true]
  rintro ⟨a, ha, h1⟩
  rw [List.any_eq_true] at h1
  obtain ⟨b, hb, h2⟩ := h1
  simp at h2
  exact h2.1 (hR.2 a b (hlt a ha) (hlt b hb) (by rw [hI2]; simpa using ha) (by rw [hI2]; simpa using hb) ((hE a b (hlt a ha) (hlt b hb)).2 h2.2))
theorem has_of (hR : RT N R G I) (hU : UF N f R) (hE : EQ N R S) (hI : IR rs rs.length I) (hn : ∀ r ∈ rs, ∃ x : Nat, r = (x : Int) ∧ x < N) {a : Nat} (ha : a < N) : hasR (rs.map Int.toNat) S a = G (R a) := by
  have hI2 : ∀ k, I k = (rs.map Int.toNat).contains k := fun k => by rw [hI k, List.take_of_length_le (by simp)]
  have hlt : ∀ a ∈ rs.map Int.toNat, a < N := fun a ha => by
    rw [List.mem_map] at ha
    obtain ⟨r, hr, rfl⟩ := ha
    obtain ⟨x, rfl, hx⟩ := hn r hr
    simpa using hx
  rw [Bool.eq_iff_iff, hR.1 (R a) (hU.lt ha) (hU.idem ha)]
  unfold hasR
  rw [List.any_eq_true]
  constructor
  · rintro ⟨r, hr, h1⟩
    exact ⟨r, hlt r hr, by rw [hI2]; simpa using hr, (hE r a (hlt r hr) ha).2 (by simpa using h1)⟩
  · rintro ⟨k, hk, hIk, hRk⟩
    refine ⟨k, by rw [hI2] at hIk; simpa using hIk, ?_⟩
    have := (hE k a hk ha).1 hRk
    simpa using this
theorem told_of (hR : RT N R G I) (hU : UF N f R) (hE : EQ N R S) (hL : LB N S) (hI : IR rs rs.length I) (hn : ∀ r ∈ rs, ∃ x : Nat, r = (x : Int) ∧ x < N) {a : Nat} (ha : a < N) : outB (rs.map Int.toNat) S a = told R G I a := by
  have hI2 : I a = (rs.map Int.toNat).contains a := by rw [hI a, List.take_of_length_le (by simp)]
  have hh := has_of hR hU hE hI hn ha
  unfold outB told
  rw [hh, ← hI2]
  cases hG : G (R a)
  · have hIa : I a = false := by
      rw [← Bool.not_eq_true]
      intro h
      have := (hR.1 (R a) (hU.lt ha) (hU.idem ha)).2 ⟨a, ha, h, rfl⟩
      rw [hG] at this
      cases this
    rw [hIa]
    simp only [Bool.false_or, Bool.not_false, Bool.and_true, Bool.false_eq_true, if_false]
    rw [Bool.eq_iff_iff]
    simp only [beq_iff_eq, List.all_eq_true, List.mem_range, bne_iff_ne]
    constructor
    · intro h j hj e
      have h1 := (hE j a (by omega) ha).1 e
      have h2 := (hL j (by omega)).1
      omega
    · intro h
      have h1 := hL a ha
      rcases Nat.lt_or_ge (S a) a with h2 | h2
      · exact absurd ((hE (S a) a (by omega) ha).2 h1.2) (h (S a) h2)
      · omega
  · simp
end

/-- the loose arcs under way -/
def Q6 (N : Nat) (fs ls : List (List Int)) (rs : List Int) (i : Nat) (R : Nat → Nat) (br : List Nat) : Prop :=
  ∃ S0 S, firmF (fs.map toA) = some S0 ∧ twoR (rs.map Int.toNat) S0 = false ∧ looseF (rs.map Int.toNat) S0 ((ls.map toA).take i) = (S, br, i) ∧ EQ N R S ∧ LB N S ∧ (∀ b ∈ br, b < i)

theorem looseF_step {rs : List Int} {S0 S : Nat → Nat} {ls : List (List Int)} {i x y : Nat} {br : List Nat} (h : looseF (rs.map Int.toNat) S0 ((ls.map toA).take i) = (S, br, i)) (hf : ls[i]? = some [(x : Int), (y : Int)]) :
    looseF (rs.map Int.toNat) S0 ((ls.map toA).take (i + 1)) = if (hasR (rs.map Int.toNat) S x && hasR (rs.map Int.toNat) S y) || decide (S x = S y) then (S, br ++ [i], i + 1) else (lab S x y, br, i + 1) := by
  rw [take_at (arc_at hf), looseF_snoc, h]
  rfl

theorem Q6.start {N : Nat} {fs ls : List (List Int)} {rs : List Int} {R S0 : Nat → Nat} (h1 : firmF (fs.map toA) = some S0) (h2 : twoR (rs.map Int.toNat) S0 = false) (h3 : EQ N R S0) (h4 : LB N S0) : Q6 N fs ls rs 0 R [] :=
  ⟨S0, S0, h1, h2, rfl, h3, h4, fun _ h => by cases h⟩

section
variable {N : Nat} {R : Nat → Nat} {G I : Nat → Bool} {f : Nat → Option Nat} {fs ls : List (List Int)} {rs : List Int} {i x y : Nat} {br : List Nat}
theorem Q6.brk (h : Q6 N fs ls rs i R br) (hR : RT N R G I) (hU : UF N f R) (hI : IR rs rs.length I) (hn : ∀ r ∈ rs, ∃ x : Nat, r = (x : Int) ∧ x < N) (hf : ls[i]? = some [(x : Int), (y : Int)]) (hx : x < N) (hy : y < N) (hc : (G (R x) = true ∧ G (R y) = true) ∨ R x = R y) : Q6 N fs ls rs (i + 1) R (br ++ [i]) := by
  obtain ⟨S0, S, h1, h2, h3, h4, h5, h6⟩ := h
  refine ⟨S0, S, h1, h2, ?_, h4, h5, fun b hb => ?_⟩
  · rw [looseF_step h3 hf, has_of hR hU h4 hI hn hx, has_of hR hU h4 hI hn hy]
    rcases hc with ⟨e1, e2⟩ | e
    · rw [e1, e2]; rfl
    · have := (h4 x y hx hy).1 e
      simp [this]
  · rcases List.mem_append.1 hb with h | h
    · have := h6 b h; omega
    · simp at h; omega
theorem Q6.join (h : Q6 N fs ls rs i R br) (hR : RT N R G I) (hU : UF N f R) (hI : IR rs rs.length I) (hn : ∀ r ∈ rs, ∃ x : Nat, r = (x : Int) ∧ x < N) (hf : ls[i]? = some [(x : Int), (y : Int)]) (hx : x < N) (hy : y < N) (hne : R x ≠ R y) (hG : ¬ (G (R x) = true ∧ G (R y) = true)) : Q6 N fs ls rs (i + 1) (jn R (R x) (R y)) br := by
  obtain ⟨S0, S, h1, h2, h3, h4, h5, h6⟩ := h
  have e1 : jn R (R x) (R y) = jn R x y := by
    unfold jn
    rw [hU.idem hx, hU.idem hy]
  refine ⟨S0, lab S x y, h1, h2, ?_, by rw [e1]; exact h4.join hx hy, h5.join hx hy, fun b hb => by have := h6 b hb; omega⟩
  rw [looseF_step h3 hf, has_of hR hU h4 hI hn hx, has_of hR hU h4 hI hn hy]
  have hs : S x ≠ S y := fun e => hne ((h4 x y hx hy).2 e)
  rw [if_neg]
  simp only [Bool.or_eq_true, Bool.and_eq_true, decide_eq_true_eq]
  rintro (h | h)
  · exact hG h
  · exact hs h

/-- the nodes told under way -/
def Q7 (N : Nat) (fs ls : List (List Int)) (rs : List Int) (br : List Nat) (R : Nat → Nat) (G I : Nat → Bool) : Prop :=
  ∃ S0 S, firmF (fs.map toA) = some S0 ∧ twoR (rs.map Int.toNat) S0 = false ∧ looseF (rs.map Int.toNat) S0 (ls.map toA) = (S, br, ls.length) ∧ ∀ a, a < N → outB (rs.map Int.toNat) S a = told R G I a

theorem Q6.last (h : Q6 N fs ls rs ls.length R br) (hR : RT N R G I) (hU : UF N f R) (hI : IR rs rs.length I) (hn : ∀ r ∈ rs, ∃ x : Nat, r = (x : Int) ∧ x < N) : Q7 N fs ls rs br R G I := by
  obtain ⟨S0, S, h1, h2, h3, h4, h5, h6⟩ := h
  rw [List.take_of_length_le (by simp)] at h3
  exact ⟨S0, S, h1, h2, h3, fun a ha => told_of hR hU h4 h5 hI hn ha⟩

theorem out_step {p : Nat → Bool} {i : Nat} : (List.range (i + 1)).filter p = (List.range i).filter p ++ if p i then [i] else [] := by
  rw [List.range_succ, List.filter_append]
  cases h : p i <;> simp [h]

theorem Q7.ans (h : Q7 N fs ls rs br R G I) (hg : ((decide ((N : Int) < 1) || decide (64 < (N : Int))) || fs.any (fun a => !isA N a) || ls.any (fun a => !isA N a) || rs.any (fun r => !isN N r)) = false) (h1 : ¬ 96 < fs.length) (h2 : ¬ 96 < ls.length) : forestS N fs ls rs = (0, br, (List.range N).filter (told R G I)) := by
  obtain ⟨S0, S, e1, e2, e3, e4⟩ := h
  unfold forestS
  rw [if_neg (by rw [hg]; simp), if_neg (by omega), e1]
  simp only []
  rw [e2, e3]
  simp only [Bool.false_eq_true, if_false, Int.toNat_natCast]
  rw [List.filter_congr (fun a ha => e4 a (by simpa using ha))]
end

section
variable {N : Nat} {fs ls : List (List Int)} {rs : List Int}
theorem ans_bad {n : Int} (h : ((decide (n < 1) || decide (64 < n)) || fs.any (fun a => !isA n a) || ls.any (fun a => !isA n a) || rs.any (fun r => !isN n r)) = true) : forestS n fs ls rs = (1, [], []) := by
  unfold forestS
  rw [if_pos h]
theorem ans_large {n : Int} (hg : ((decide (n < 1) || decide (64 < n)) || fs.any (fun a => !isA n a) || ls.any (fun a => !isA n a) || rs.any (fun r => !isN n r)) = false) (h : 96 < fs.length ∨ 96 < ls.length) : forestS n fs ls rs = (3, [], []) := by
  unfold forestS
  rw [if_neg (by rw [hg]; simp), if_pos h]
theorem ans_ring {n : Int} (hg : ((decide (n < 1) || decide (64 < n)) || fs.any (fun a => !isA n a) || ls.any (fun a => !isA n a) || rs.any (fun r => !isN n r)) = false) (h1 : ¬ 96 < fs.length) (h2 : ¬ 96 < ls.length) (h : firmF (fs.map toA) = none) : forestS n fs ls rs = (7, [], []) := by
  unfold forestS
  rw [if_neg (by rw [hg]; simp), if_neg (by omega), h]
theorem ans_two {n : Int} {S : Nat → Nat} (hg : ((decide (n < 1) || decide (64 < n)) || fs.any (fun a => !isA n a) || ls.any (fun a => !isA n a) || rs.any (fun r => !isN n r)) = false) (h1 : ¬ 96 < fs.length) (h2 : ¬ 96 < ls.length) (h : firmF (fs.map toA) = some S) (h' : twoR (rs.map Int.toNat) S = true) : forestS n fs ls rs = (7, [], []) := by
  unfold forestS
  rw [if_neg (by rw [hg]; simp), if_neg (by omega), h]
  simp only []
  rw [h', if_pos rfl]
end

end Go.Proofs.Ytgoojlnfobjplaa
