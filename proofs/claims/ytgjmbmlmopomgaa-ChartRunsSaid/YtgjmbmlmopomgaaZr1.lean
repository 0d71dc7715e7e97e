/- A region that draws its order, whose last operations (the set K) write the very cells that it has loaded: a load may be taken first as long as none of K has come up, for each of K waits for it. -/
import Derived.OrdersHeld
import Derived.Deep.RegionHeld
import Derived.Test.YtgjmbmlmopomgaaProg
namespace Go.Proofs.Ytgjmbmlmopomgaa
open Go
set_option linter.unusedSimpArgs false
set_option linter.unusedVariables false

section
variable {P : Program} {ops : Array Oper} {Q : Exit → Act → World → Prop} {md : Region.Mode} {S : World → Prop} {K : List Nat}

/-- none of K has come up -/
def OffK (K : List Nat) (listed : Array Bool) : Prop := ∀ k ∈ K, listed.getD k true = false

/-- operation k waits for operation i, at once or by way of another one -/
def waits2 (md : Region.Mode) (ops : Array Oper) (k i : Nat) : Bool :=
  match ops[k]? with
  | some o => o.after.any fun e => Region.binds md e && (e.on == i || match ops[e.on]? with
    | some o' => o'.after.any fun e' => Region.binds md e' && e'.on == i
    | none => false)
  | none => false
/-- each of K waits for operation i -/
def waitsK (md : Region.Mode) (ops : Array Oper) (K : List Nat) (i : Nat) : Bool := K.all fun k => k != i && waits2 md ops k i

/-- what has come up came up behind all that it waits for -/
def Closed (md : Region.Mode) (ops : Array Oper) (listed : Array Bool) : Prop :=
  ∀ m om, ops[m]? = some om → listed.getD m true = true → ∀ e ∈ om.after, Region.binds md e = true → listed.getD e.on true = true
def closedB (md : Region.Mode) (ops : Array Oper) (listed : Array Bool) : Bool :=
  (List.range ops.size).all fun m => match ops[m]? with
    | some om => !(listed.getD m true) || om.after.all fun e => !(Region.binds md e) || listed.getD e.on true
    | none => true
theorem closed_of {listed : Array Bool} (h : closedB md ops listed = true) : Closed md ops listed := fun m om hm hl e he hb => by
  have hlt : m < ops.size := (Array.getElem?_eq_some_iff.1 hm).1
  have h1 := List.all_eq_true.1 h m (List.mem_range.2 hlt)
  rw [hm] at h1
  simp only [hl, Bool.not_true, Bool.false_or, Array.all_eq_true'] at h1
  have h2 := h1 e he
  rw [hb] at h2
  simpa using h2
theorem getD_mono {listed : Array Bool} {j k : Nat} (h : listed.getD k true = true) : (listed.setIfInBounds j true).getD k true = true := by
  by_cases e : j = k
  · subst e
    rcases Nat.lt_or_ge j listed.size with h' | h'
    · simp [h']
    · simp [h']
  · rw [getD_set_ne true e]; exact h
theorem Closed.set {listed : Array Bool} {j : Nat} {oj : Oper} (h : Closed md ops listed) (hj : ops[j]? = some oj) (hall : ∀ e ∈ oj.after, Region.binds md e = true → listed.getD e.on true = true) : Closed md ops (listed.setIfInBounds j true) := fun m om hm hl e he hb => by
  by_cases e1 : j = m
  · subst e1
    rw [hj] at hm
    injection hm with hm
    subst hm
    exact getD_mono (hall e he hb)
  · rw [getD_set_ne true e1] at hl
    exact getD_mono (h m om hm hl e he hb)
theorem waits2_spec {k i : Nat} {ok : Oper} {listed : Array Bool} (hw : waits2 md ops k i = true) (hok : ops[k]? = some ok) (hc : Closed md ops listed) (hall : ∀ e ∈ ok.after, Region.binds md e = true → listed.getD e.on true = true) : listed.getD i true = true := by
  unfold waits2 at hw
  rw [hok] at hw
  simp only [Array.any_eq_true'] at hw
  obtain ⟨e, he, h1⟩ := hw
  simp only [Bool.and_eq_true, Bool.or_eq_true, beq_iff_eq] at h1
  have h2 := hall e he h1.1
  rcases h1.2 with h3 | h3
  · rwa [h3] at h2
  · cases hm : ops[e.on]? with
    | none => rw [hm] at h3; cases h3
    | some om =>
      rw [hm] at h3
      simp only [Array.any_eq_true', Bool.and_eq_true, beq_iff_eq] at h3
      obtain ⟨e', he', hb', heq⟩ := h3
      have := hc e.on om hm h2 e' he' hb'
      rwa [heq] at this

/-- whatever order comes up; S holds as long as none of K has come up -/
def AnyK (P : Program) (md : Region.Mode) (ops : Array Oper) (Q : Exit → Act → World → Prop) (S : World → Prop) (K : List Nat) : Nat → Array Bool → Act → World → Prop
  | 0, listed, a, w => Region.ready md ops listed = [] ∧ Q .normal a w
  | fuel + 1, listed, a, w =>
    (Region.ready md ops listed = [] → Q .normal a w) ∧
    ∀ i ∈ Region.ready md ops listed, wpOp P ops Q i (fun a' w' => (OffK K (listed.setIfInBounds i true) → S w') ∧ AnyK P md ops Q S K fuel (listed.setIfInBounds i true) a' w') a w

theorem AnyK.any : ∀ (fuel : Nat) (listed : Array Bool) (a : Act) (w : World), AnyK P md ops Q S K fuel listed a w → wpAny P md ops Q fuel listed a w
  | 0, _, _, _, h => h
  | fuel + 1, _, _, _, h => ⟨h.1, fun i hi => wpOp_mono (fun a' w' h' => AnyK.any fuel _ a' w' h'.2) (h.2 i hi)⟩

theorem OffK.set {listed : Array Bool} {j : Nat} (h : OffK K listed) (hj : j ∉ K) : OffK K (listed.setIfInBounds j true) := fun k hk => by
  have hne : j ≠ k := fun e => hj (e ▸ hk)
  rw [getD_set_ne true hne]
  exact h k hk

theorem AnyK.first {i : Nat} {oi : Oper} {v : Value} (hi : ops[i]? = some oi) (hsel : ∀ (j : Nat) (o : Oper) cs b, ops[j]? = some o → o.op ≠ .select cs b)
    (hQ : ∀ c a w, Q (.panic c) (a.put oi.dst v) w → Q (.panic c) a w) (hiK : i ∉ K)
    (hw : ∀ k ∈ K, waits2 md ops k i = true) :
    ∀ (fuel : Nat) (listed : Array Bool) (a : Act) (w : World),
      (∀ j oj, ops[j]? = some oj → j ≠ i → listed.getD j true = false → (∀ e ∈ oj.after, Region.binds md e = true → e.on ≠ i) → oi.apart ops oj = true) →
      i ∈ Region.ready md ops listed → YieldsIf P ops S oi v a → S w → OffK K listed → Closed md ops listed →
      AnyK P md ops Q S K fuel (listed.setIfInBounds i true) (a.put oi.dst v) w → AnyK P md ops Q S K (fuel + 1) listed a w := by
  intro fuel
  induction fuel with
  | zero =>
    intro listed a w _ hr hy hS _ _ H
    refine ⟨fun h => (by rw [h] at hr; cases hr), fun j hj => ?_⟩
    by_cases hji : j = i
    · subst hji; exact hy.wpOp hi hS ⟨fun _ => hS, H⟩
    · have := ready_mono hj hji
      rw [H.1] at this
      cases this
  | succ fuel ih =>
    intro listed a w hfree hr hy hS hoff hcl H
    refine ⟨fun h => (by rw [h] at hr; cases hr), fun j hj => ?_⟩
    by_cases hji : j = i
    · subst hji; exact hy.wpOp hi hS ⟨fun _ => hS, H⟩
    · have h1 := H.2 j (ready_mono hj hji)
      obtain ⟨hjun, oj, hoj, hall⟩ := mem_ready.1 hj
      have hun : listed.getD i true = false := (mem_ready.1 hr).1
      have hall' : ∀ e ∈ oj.after, Region.binds md e = true → listed.getD e.on true = true := fun e he hb => by
        have h1 := hall e he hb
        rcases Nat.lt_or_ge e.on listed.size with h' | h'
        · simp [h'] at h1 ⊢; exact h1
        · simp [h']
      have hnot : ∀ e ∈ oj.after, Region.binds md e = true → e.on ≠ i := fun e he hb heq => by
        have h1 := hall' e he hb
        rw [heq, hun] at h1
        cases h1
      have hjK : j ∉ K := fun hk => by
        have h1 := waits2_spec (hw j hk) hoj hcl hall'
        rw [hun] at h1
        cases h1
      have hclj : Closed md ops (listed.setIfInBounds j true) := hcl.set hoj hall'
      have hoffj : OffK K (listed.setIfInBounds j true) := hoff.set hjK
      have h2 := wpOp_putIf hoj (hfree j oj hoj hji hjun hnot) (fun cs b => hsel i oi cs b hi) (fun cs b => hsel j oj cs b hoj) hQ hy h1
      have hfree' : ∀ k ok, ops[k]? = some ok → k ≠ i → (listed.setIfInBounds j true).getD k true = false →
          (∀ e ∈ ok.after, Region.binds md e = true → e.on ≠ i) → oi.apart ops ok = true := fun k ok hk hki hun hno => by
        refine hfree k ok hk hki ?_ hno
        by_cases hjk : j = k
        · subst hjk; exact hjun
        · rw [getD_set_ne true hjk] at hun; exact hun
      refine wpOp_mono (fun a' w' h3 => ?_) h2
      have hS' : S w' := h3.2.1 ((hoff.set hiK).set hjK)
      refine ⟨fun _ => hS', ih (listed.setIfInBounds j true) a' w' hfree' (ready_mono hr (Ne.symm hji)) h3.1 hS' hoffj hclj ?_⟩
      rw [Array.setIfInBounds_comm _ _ hji]
      exact h3.2.2

theorem AnyK.take {i : Nat} {oi : Oper} {v : Value} {fuel : Nat} {listed : Array Bool} {a : Act} {w : World} (hi : ops[i]? = some oi)
    (hs : Region.noSelect ops = true) (hf : Region.free md ops listed i = true) (hr : (Region.ready md ops listed).contains i = true) (hk : waitsK md ops K i = true)
    (hoff : K.all (fun k => !(listed.getD k true)) = true) (hcl : closedB md ops listed = true)
    (hQ : ∀ c a w, Q (.panic c) (a.put oi.dst v) w → Q (.panic c) a w) (hy : YieldsIf P ops S oi v a) (hS : S w)
    (h : AnyK P md ops Q S K fuel (listed.setIfInBounds i true) (a.put oi.dst v) w) : AnyK P md ops Q S K (fuel + 1) listed a w := by
  have hk' : ∀ k ∈ K, k ≠ i ∧ waits2 md ops k i = true := fun k hkK => by
    have h1 := List.all_eq_true.1 hk k hkK
    simpa only [Bool.and_eq_true, bne_iff_ne, ne_eq] using h1
  refine AnyK.first hi (Region.noSelect_spec hs) hQ (fun hiK => (hk' i hiK).1 rfl) (fun k hkK => (hk' k hkK).2) fuel listed a w (Region.free_spec hi hf) (by simpa using hr) hy hS (fun k hkK => ?_) (closed_of hcl) h
  have := List.all_eq_true.1 hoff k hkK
  simpa using this

/-- the one operation that may come up -/
theorem AnyK.one {i : Nat} {o : Oper} {fuel : Nat} {listed : Array Bool} {a : Act} {w : World} (hr : Region.ready md ops listed = [i]) (ho : ops[i]? = some o)
    (h : ∀ K' : Act → World → Prop, Shut (∀ a' w', (K.all (fun k => !((listed.setIfInBounds i true).getD k true)) = true → S w') → AnyK P md ops Q S K fuel (listed.setIfInBounds i true) a' w' → K' a' w') →
      if Region.wanted o (yielded ops a.tmps) = true then o.wp P a w K' Q else K' (a.put o.dst undef) w) : AnyK P md ops Q S K (fuel + 1) listed a w := by
  refine ⟨fun h0 => (by rw [hr] at h0; cases h0), fun j hj => ?_⟩
  rw [hr] at hj
  obtain rfl : j = i := by simpa using hj
  exact wpOp_step ho (fun K' hK => h K' (fun a w hS hW => hK a w ⟨fun hoff => hS (List.all_eq_true.2 fun k hk => by rw [hoff k hk]; rfl), hW⟩))

theorem AnyK.done {listed : Array Bool} {a : Act} {w : World} (hr : Region.ready md ops listed = []) (h : Q .normal a w) : ∀ fuel, AnyK P md ops Q S K fuel listed a w
  | 0 => ⟨hr, h⟩
  | _ + 1 => ⟨fun _ => h, by rw [hr]; simp⟩

theorem wp_region_K {id : Nat} {a : Act} {w : World} (hm : P.follows .mixedOrders = true)
    (h : AnyK P .any ops Q S K ops.size (Array.replicate ops.size false) a w.drew) : (Code.region id ops true).wp P Q a w :=
  wp_region_any hm (AnyK.any _ _ _ _ h)

/-- the same, what follows behind a letter: for great bodies -/
theorem wp_region_KQ {id : Nat} {a : Act} {w : World} (hm : P.follows .mixedOrders = true) (hq : ∀ d v c a w, Q (.panic c) (Act.put a d v) w → Q (.panic c) a w)
    (h : ∀ Q', Q' = Q → (∀ d v c a w, Q' (.panic c) (Act.put a d v) w → Q' (.panic c) a w) → AnyK P .any ops Q' S K ops.size (Array.replicate ops.size false) a w.drew) : (Code.region id ops true).wp P Q a w :=
  wp_region_K (S := S) (K := K) hm (h Q rfl hq)

end
end Go.Proofs.Ytgjmbmlmopomgaa
