/- For Weight: an operation that hangs on nothing may be taken first; a row that grows; what walkW keeps to. -/
import Derived.Maps.AppendAt
import Derived.Deep.AppendLies
import Derived.Test.YtjbhnfejpgjghaaNr
import Derived.Test.YtjbhnfejpgjghaaNt
import Derived.Test.YtjbhnfejpgjghaaMk
namespace Go.Proofs.Ytjbhnfejpgjghaa
open Go.RowKit Go.Maps
set_option linter.unusedSimpArgs false
set_option linter.unusedVariables false

section
variable {P : Program} {ops : Array Oper} {Q : Exit → Act → World → Prop} {md : Region.Mode} {S : World → Prop} {K : List Nat}

theorem AnyK.firstFree {i : Nat} {oi : Oper} {v : Value} (hi : ops[i]? = some oi) (hsel : ∀ (j : Nat) (o : Oper) cs b, ops[j]? = some o → o.op ≠ .select cs b)
    (hQ : ∀ c a w, Q (.panic c) (a.put oi.dst v) w → Q (.panic c) a w) (hiK : i ∉ K) :
    ∀ (fuel : Nat) (listed : Array Bool) (a : Act) (w : World),
      (∀ j oj, ops[j]? = some oj → j ≠ i → listed.getD j true = false → (∀ e ∈ oj.after, Region.binds md e = true → e.on ≠ i) → oi.apart ops oj = true) →
      i ∈ Region.ready md ops listed → YieldsIf P ops (fun _ => True) oi v a → (OffK K listed → S w) →
      AnyK P md ops Q S K fuel (listed.setIfInBounds i true) (a.put oi.dst v) w → AnyK P md ops Q S K (fuel + 1) listed a w := by
  intro fuel
  induction fuel with
  | zero =>
    intro listed a w _ hr hy hS H
    refine ⟨fun h => (by rw [h] at hr; cases hr), fun j hj => ?_⟩
    by_cases hji : j = i
    · subst hji
      refine hy.wpOp hi trivial ⟨fun hoff => hS fun k hk => ?_, H⟩
      have := hoff k hk
      rwa [getD_set_ne true (fun (e : j = k) => hiK (by rw [e]; exact hk))] at this
    · have := ready_mono hj hji
      rw [H.1] at this
      cases this
  | succ fuel ih =>
    intro listed a w hfree hr hy hS H
    refine ⟨fun h => (by rw [h] at hr; cases hr), fun j hj => ?_⟩
    by_cases hji : j = i
    · subst hji
      refine hy.wpOp hi trivial ⟨fun hoff => hS fun k hk => ?_, H⟩
      have := hoff k hk
      rwa [getD_set_ne true (fun (e : j = k) => hiK (by rw [e]; exact hk))] at this
    · have h1 := H.2 j (ready_mono hj hji)
      obtain ⟨hjun, oj, hoj, hall⟩ := mem_ready.1 hj
      have hun : listed.getD i true = false := (mem_ready.1 hr).1
      have hall' : ∀ e ∈ oj.after, Region.binds md e = true → listed.getD e.on true = true := fun e he hb => by
        have h1 := hall e he hb
        rcases Nat.lt_or_ge e.on listed.size with h' | h'
        · simp [h'] at h1 ⊢; exact h1
        · simp [h']
      have hnot : ∀ e ∈ oj.after, Region.binds md e = true → e.on ≠ i := fun e he hb heq => by
        have h1 := hall' e he hb
        rw [heq, hun] at h1
        cases h1
      have h2 := wpOp_putIf hoj (hfree j oj hoj hji hjun hnot) (fun cs b => hsel i oi cs b hi) (fun cs b => hsel j oj cs b hoj) hQ hy h1
      have hfree' : ∀ k ok, ops[k]? = some ok → k ≠ i → (listed.setIfInBounds j true).getD k true = false →
          (∀ e ∈ ok.after, Region.binds md e = true → e.on ≠ i) → oi.apart ops ok = true := fun k ok hk hki hun hno => by
        refine hfree k ok hk hki ?_ hno
        by_cases hjk : j = k
        · subst hjk; exact hjun
        · rw [getD_set_ne true hjk] at hun; exact hun
      refine wpOp_mono (fun a' w' h3 => ?_) h2
      have hS' : OffK K (listed.setIfInBounds j true) → S w' := fun hoff => h3.2.1 (by
        rw [Array.setIfInBounds_comm _ _ (Ne.symm hji)]
        exact hoff.set hiK)
      refine ⟨hS', ih (listed.setIfInBounds j true) a' w' hfree' (ready_mono hr (Ne.symm hji)) h3.1 hS' ?_⟩
      rw [Array.setIfInBounds_comm _ _ hji]
      exact h3.2.2

/-- an operation that reads nothing that another one writes may be taken first -/
theorem AnyK.takeFree {i : Nat} {oi : Oper} {v : Value} {fuel : Nat} {listed : Array Bool} {a : Act} {w : World} (hi : ops[i]? = some oi)
    (hs : Region.noSelect ops = true) (hf : Region.free md ops listed i = true) (hr : (Region.ready md ops listed).contains i = true) (hiK : K.all (fun k => k != i) = true)
    (hQ : ∀ c a w, Q (.panic c) (a.put oi.dst v) w → Q (.panic c) a w) (hy : YieldsIf P ops (fun _ => True) oi v a) (hS : S w)
    (h : AnyK P md ops Q S K fuel (listed.setIfInBounds i true) (a.put oi.dst v) w) : AnyK P md ops Q S K (fuel + 1) listed a w :=
  AnyK.firstFree hi (Region.noSelect_spec hs) hQ (fun hk => by have := List.all_eq_true.1 hiK i hk; simp at this) fuel listed a w (Region.free_spec hi hf) (by simpa using hr) hy (fun _ => hS) h
end

/-- a row of ints of the call's own that grows -/
def RowI (w : World) (B : Nat) (v : Value) (l : List Int) : Prop := w.ownsRow B 3 1 v l.length (vz l)
section
variable {w w' : World} {B : Nat} {v : Value} {l : List Int}
theorem RowI.nil (w : World) (B : Nat) : RowI w B (.slice none 0 0) [] := World.ownsRow_nil _ _ _ _
theorem RowI.same (h : RowI w B v l) (e : ∀ g, v.ownBlock = some g → w'.heap[g]? = w.heap[g]?) : RowI w' B v l := by
  obtain ⟨h1, h2⟩ := h
  refine ⟨h1, ?_⟩
  rcases h2 with h2 | ⟨g, cap, cur, rfl, h3, h4, h5⟩
  · exact .inl h2
  · exact .inr ⟨g, cap, cur, rfl, h3, (e g rfl).trans h4, h5⟩
theorem RowI.at (h : RowI w B v l) {g : Nat} (e : v.ownBlock = some g) : B ≤ g ∧ g < w.heap.size := World.ownsRow.lt h g e
theorem RowI.fr {xs : List Nat} (h : RowI w B v l) (hf : Fr xs w w') (hx : ∀ x ∈ xs, x < B) : RowI w' B v l :=
  h.same fun g e => hf.block g (h.at e).2 fun hm => by have := hx g hm; have := (h.at e).1; omega
theorem RowI.call (h : RowI w B v l) (hb : Below w.heap.size w w') : RowI w' B v l := h.same fun g e => hb.block g (h.at e).2
theorem RowI.more (h : RowI w B v l) (o : Obj) : RowI (w.alloc o) B v l := h.call ((Below.refl _ _).alloc (Nat.le_refl _) _)
theorem RowI.drew (h : RowI w B v l) : RowI w.drew B v l := h
theorem RowI.far {g : Nat} (h : RowI w B v l) (hg : g < B) (i : Nat) (u : Value) : RowI (w.setCell ⟨g, i, none⟩ u) B v l :=
  h.same fun g' e => Below.heap_setCell w ⟨g, i, none⟩ u g' (by have := (h.at e).1; show g' ≠ g; omega)
theorem RowI.il (h : RowI w B v l) (hl : l.length ≤ 1000000) : ∃ A n c, v = .slice A n c ∧ IL w A n c l := by
  have h0 := h
  obtain ⟨h1, h2⟩ := h
  rcases h2 with ⟨rfl, h2⟩ | ⟨g, cap, cur, rfl, h3, h4, h5⟩
  · have : l = [] := List.eq_nil_of_length_eq_zero h2
    subst this
    exact ⟨_, _, _, rfl, IL.nil _⟩
  · refine ⟨_, _, _, rfl, rfl, hl, .inr ⟨g, 0, rfl, (h0.at rfl).2, fun j x hj => ?_⟩⟩
    have h6 := World.ownsRow.cells h0 (g := g) rfl j (.int .i64 x) (vz_get _ _ _ hj)
    rw [show (⟨g, 0, none⟩ : Addr).add j = ⟨g, 0 + j, none⟩ from by unfold Addr.add; split <;> simp_all] at h6
    exact h6
end

/-! ## what walkW keeps to -/
theorem isT_row {ls : List (List Int)} (h : isT ls = true) {i : Nat} (hi : i < ls.length) : ∃ l, ls[i]? = some l ∧ ls.getD i [] = l ∧ l.length = ls.length ∧ ∀ x ∈ l, -1 ≤ x ∧ x ≤ 3 := by
  obtain ⟨-, -, h3⟩ := isT_of h
  have e : ls[i]? = some ls[i] := List.getElem?_eq_getElem hi
  refine ⟨_, e, by rw [List.getD_eq_getElem?_getD, e]; rfl, h3 _ (List.mem_of_getElem? e)⟩

theorem walkW_bd {ls : List (List Int)} (h : isT ls = true) (h0 : 0 ≤ heavy ls ls.length 0) : ∀ i, i ≤ ls.length → 0 ≤ (walkW ls i).2.2 ∧ (walkW ls i).2.2 ≤ 30 ∧ (walkW ls i).2.1 < 2 ^ ls.length ∧ (walkW ls i).1.length ≤ i := by
  have hb := heavy_bd (ls := ls) (fun l hl x hx => ((isT_of h).2.2 l hl).2 x hx |>.2)
  have h10 := (isT_of h).2.1
  intro i
  induction i with
  | zero =>
    intro _
    refine ⟨h0, ?_, Nat.two_pow_pos _, Nat.le_refl _⟩
    have := (hb ls.length 0).2
    show heavy _ _ _ ≤ 30
    omega
  | succ i ih =>
    intro hi
    obtain ⟨i1, i2, i3, i4⟩ := ih (by omega)
    unfold walkW
    cases hw : leastW ls (walkW ls i).2.1 (walkW ls i).2.2 (ls.length - (i + 1)) 0 (ls.getD i []) with
    | none => exact ⟨i1, i2, i3, Nat.le_succ_of_le i4⟩
    | some k =>
      obtain ⟨p, x, e, hx, hx0, ht, h1, h2⟩ := leastW_some _ _ _ hw
      obtain ⟨l, -, hl, hll, hlx⟩ := isT_row h (show i < ls.length by omega)
      have hp := (List.getElem?_eq_some_iff.1 hx).1
      rw [hl, hll] at hp
      have hk : k < ls.length := by omega
      have hxg : (ls.getD i []).getD k 0 = x := by
        rw [show k = p by omega, List.getD_eq_getElem?_getD, hx]
        rfl
      have hx3 := hlx x (by rw [hl] at hx; exact List.mem_of_getElem? hx)
      have hbb := hb (ls.length - (i + 1)) ((walkW ls i).2.1 ||| 2 ^ k)
      refine ⟨?_, ?_, ?_, ?_⟩
      · show 0 ≤ _ - _
        rw [hxg]; omega
      · show _ - _ ≤ _
        rw [hxg]; omega
      · exact Nat.or_lt_two_pow i3 (Nat.pow_lt_pow_right (by omega) hk)
      · show ((walkW ls i).1 ++ [(k : Int)]).length ≤ _
        simp; omega

/-- the greatest weight, the least choice with it, the error -/
def weightS (ls : List (List Int)) : Int × List Int × Int :=
  if isT ls = true then (if heavy ls ls.length 0 < 0 then (0, [], 4) else (heavy ls ls.length 0, (walkW ls ls.length).1, 0)) else (0, [], 1)

def PWt (ls : List (List Int)) (w : World) (e : Ending) (w' : World) : Prop :=
  ∃ (A : Option Addr) (n c : Nat) (sum : Int) (zs : List Int) (er : Int), e = .returned (.tuple #[.int .i64 sum, .slice A n c, .int .i64 er]) ∧ IL w' A n c zs ∧ Hid (weightS ls = (sum, zs, er)) ∧ Below w.heap.size w w'

end Go.Proofs.Ytjbhnfejpgjghaa
