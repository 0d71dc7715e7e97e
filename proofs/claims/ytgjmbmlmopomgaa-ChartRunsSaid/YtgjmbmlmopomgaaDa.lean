/- Reactions, plain: entering, moves that are taken, all machines in order. -/
import Derived.Test.YtgjmbmlmopomgaaCu
namespace Go.Proofs.Ytgjmbmlmopomgaa
open Go.RowKit Go.Maps
set_option linter.unusedSimpArgs false
set_option linter.unusedVariables false

/-- states, which ones are fresh, which machines have been entered -/
structure RS where
  S : Nat → Int
  F : Nat → Bool
  E : Nat → Bool
def RS.mv (x : RS) (k : Nat) (s : Int) : RS := ⟨upd x.S k s, upd x.F k true, x.E⟩
def RS.put (x : RS) (k : Nat) (s : Int) : RS := ⟨upd x.S k s, upd x.F k true, upd x.E k true⟩
def owned (m : McV) (k : Nat) (s : Int) : Bool := m.om == (k : Int) && m.os == s
/-- machine i enters, if state s of machine m owns it -/
def kid (l : List McV) (keep : Bool) (rec : Nat → RS → RS) (m : Nat) (s : Int) (i : Nat) (y : RS) : RS :=
  match l[i]? with
  | some n => if owned n m s = true then rec i (y.put i (if keep = true then y.S i else n.fst)) else y
  | none => y
def kids (l : List McV) (keep : Bool) (rec : Nat → RS → RS) (m : Nat) (s : Int) : Nat → RS → RS
  | 0, x => x
  | i + 1, x => kid l keep rec m s i (kids l keep rec m s i x)
def ent (l : List McV) (keep : Bool) : Nat → Nat → RS → RS
  | 0, _, x => x
  | f + 1, m, x => kids l keep (ent l keep f) m (x.S m) l.length x

theorem owned_low {l : List McV} (hl : Low l) {i : Nat} {n : McV} (hn : l[i]? = some n) {m : Nat} {s : Int} (h : owned n m s = true) : m < i := by
  unfold owned at h
  simp only [Bool.and_eq_true, beq_iff_eq] at h
  rcases hl i n hn with h1 | ⟨j, h1, h2⟩
  · rw [h.1] at h1; exact absurd (of_decide_eq_true h1) (by omega)
  · omega

section
variable {l : List McV} {keep : Bool}
/-- what a reaction of kids keeps -/
theorem kids_ind (hl : Low l) {rec : Nat → RS → RS} {m : Nat} {s : Int} {x : RS} (P : RS → Prop) (h0 : P x)
    (hs : ∀ i n y, l[i]? = some n → m < i → P y → P (rec i (y.put i (if keep = true then y.S i else n.fst)))) : ∀ i, P (kids l keep rec m s i x) := by
  intro i
  induction i with
  | zero => exact h0
  | succ i ih =>
    show P (kid _ _ _ _ _ _ _)
    unfold kid
    cases hn : l[i]? with
    | none => exact ih
    | some n =>
      simp only
      by_cases ho : owned n m s = true
      · rw [if_pos ho]; exact hs i n _ hn (owned_low hl hn ho) ih
      · rw [if_neg ho]; exact ih
/-- up to machine m nothing changes -/
def Upto (m : Nat) (x y : RS) : Prop := ∀ j, j ≤ m → y.S j = x.S j ∧ y.F j = x.F j ∧ y.E j = x.E j
theorem ent_low (hl : Low l) : ∀ f m x, Upto m x (ent l keep f m x) := by
  intro f
  induction f with
  | zero => intro m x j hj; exact ⟨rfl, rfl, rfl⟩
  | succ f ih =>
    intro m x
    refine kids_ind hl (Upto m x) (fun j hj => ⟨rfl, rfl, rfl⟩) (fun i n y hn hmi hy j hj => ?_) l.length
    have h1 := ih i (y.put i (if keep = true then y.S i else n.fst)) j (by omega)
    have h2 := hy j hj
    have hji : j ≠ i := by omega
    simp only [RS.put, upd_other _ _ _ _ hji] at h1
    exact ⟨h1.1.trans h2.1, h1.2.1.trans h2.2.1, h1.2.2.trans h2.2.2⟩
theorem kids_low (hl : Low l) (f m : Nat) (s : Int) (x : RS) (i : Nat) : Upto m x (kids l keep (ent l keep f) m s i x) := by
  refine kids_ind hl (Upto m x) (fun j hj => ⟨rfl, rfl, rfl⟩) (fun i n y hn hmi hy j hj => ?_) i
  have h1 := ent_low (keep := keep) hl f i (y.put i (if keep = true then y.S i else n.fst)) j (by omega)
  have h2 := hy j hj
  have hji : j ≠ i := by omega
  simp only [RS.put, upd_other _ _ _ _ hji] at h1
  exact ⟨h1.1.trans h2.1, h1.2.1.trans h2.2.1, h1.2.2.trans h2.2.2⟩
/-- a fact of all states that firsts and what was there have -/
theorem ent_all (hl : Low l) (P : Nat → Int → Prop) (hf : ∀ i n, l[i]? = some n → P i n.fst) : ∀ f m x, (∀ j, P j (x.S j)) → ∀ j, P j ((ent l keep f m x).S j) := by
  intro f
  induction f with
  | zero => intro m x hx j; exact hx j
  | succ f ih =>
    intro m x hx
    refine kids_ind hl (fun y => ∀ j, P j (y.S j)) hx (fun i n y hn hmi hy => ih i _ fun j => ?_) l.length
    by_cases hj : j = i
    · subst hj
      simp only [RS.put, upd_same]
      cases keep with
      | true => rw [if_pos rfl]; exact hy j
      | false => rw [if_neg (by simp)]; exact hf j n hn
    · simp only [RS.put, upd_other _ _ _ _ hj]; exact hy j
/-- what has been entered stays so; what is fresh or not differs only where it has been entered -/
def Grow (x y : RS) : Prop := (∀ j, x.E j = true → y.E j = true) ∧ ∀ j, y.E j = false → y.S j = x.S j ∧ y.F j = x.F j
theorem ent_grow (hl : Low l) : ∀ f m x, Grow x (ent l keep f m x) := by
  intro f
  induction f with
  | zero => intro m x; exact ⟨fun j h => h, fun j h => ⟨rfl, rfl⟩⟩
  | succ f ih =>
    intro m x
    refine kids_ind hl (Grow x) ⟨fun j h => h, fun j h => ⟨rfl, rfl⟩⟩ (fun i n y hn hmi hy => ?_) l.length
    obtain ⟨g1, g2⟩ := ih i (y.put i (if keep = true then y.S i else n.fst))
    have hE : (y.put i (if keep = true then y.S i else n.fst)).E i = true := by simp [RS.put, upd_same]
    refine ⟨fun j h => g1 j ?_, fun j h => ?_⟩
    · by_cases hj : j = i
      · rw [hj]; exact hE
      · simp only [RS.put, upd_other _ _ _ _ hj]; exact hy.1 j h
    · have hj : j ≠ i := fun e => by rw [e, g1 i hE] at h; cases h
      have h2 := g2 j h
      simp only [RS.put, upd_other _ _ _ _ hj] at h2
      have hyE : y.E j = false := by
        cases hye : y.E j with
        | false => rfl
        | true =>
          have := g1 j (by simp only [RS.put, upd_other _ _ _ _ hj]; exact hye)
          rw [this] at h; cases h
      exact ⟨h2.1.trans (hy.2 j hyE).1, h2.2.trans (hy.2 j hyE).2⟩
/-- alike but for what has been entered up to i -/
def Like (i : Nat) (x y : RS) : Prop := x.S = y.S ∧ x.F = y.F ∧ ∀ j, i < j → x.E j = y.E j
theorem kids_like (rec : Nat → RS → RS) (i0 : Nat) (hrec : ∀ k x y, Like i0 x y → Like i0 (rec k x) (rec k y)) (m : Nat) (s : Int) {x y : RS} (h : Like i0 x y) : ∀ i, Like i0 (kids l keep rec m s i x) (kids l keep rec m s i y) := by
  intro i
  induction i with
  | zero => exact h
  | succ i ih =>
    show Like i0 (kid _ _ _ _ _ _ _) (kid _ _ _ _ _ _ _)
    generalize kids l keep rec m s i x = a at ih ⊢
    generalize kids l keep rec m s i y = b at ih ⊢
    unfold kid
    cases hn : l[i]? with
    | none => exact ih
    | some n =>
      simp only
      by_cases ho : owned n m s = true
      · rw [if_pos ho, if_pos ho]
        refine hrec i _ _ ?_
        obtain ⟨h1, h2, h3⟩ := ih
        refine ⟨by simp only [RS.put, h1], by simp only [RS.put, h2], fun j hj => ?_⟩
        simp only [RS.put]
        unfold upd
        by_cases e : j = i
        · rw [if_pos e, if_pos e]
        · rw [if_neg e, if_neg e]; exact h3 j hj
      · rw [if_neg ho, if_neg ho]; exact ih
theorem ent_like (i0 : Nat) : ∀ f m x y, Like i0 x y → Like i0 (ent l keep f m x) (ent l keep f m y) := by
  intro f
  induction f with
  | zero => intro m x y h; exact h
  | succ f ih =>
    intro m x y h
    unfold ent
    rw [h.1]
    exact kids_like _ i0 (fun k x y h => ih k x y h) m _ h _
end

/-- a text stands in a list -/
def inS (l : List ByteArray) (s : ByteArray) : Bool := l.any fun x => x.toList == s.toList
/-- the move may be taken -/
def openM (s : Int) (fresh : Bool) (th : ByteArray → Bool) (v : MvV) : Bool := v.frm == s && !(v.late && fresh) && v.wh.l.all th && !(v.no.l.any th)
structure RX where
  x : RS
  D : List (Nat × Nat)
  O : List ByteArray
/-- a machine's turn -/
def rstep (l : List McV) (gS : Nat → Int) (gF : Nat → Bool) (th : ByteArray → Bool) (i : Nat) (r : RX) : RX :=
  match l[i]? with
  | none => r
  | some m =>
    if (actv l gS i && !r.x.E i && actv l r.x.S i) = true then
      match m.mv.l.findIdx? (openM (gS i) (gF i) th) with
      | some k => match m.mv.l[k]? with
        | some v => ⟨ent l v.keep l.length i (r.x.mv i v.dst), r.D ++ [(i, k)], r.O ++ v.em.l⟩
        | none => r
      | none => ⟨⟨r.x.S, upd r.x.F i false, r.x.E⟩, r.D, r.O⟩
    else r
def rto (l : List McV) (gS : Nat → Int) (gF : Nat → Bool) (th : ByteArray → Bool) : Nat → RX → RX
  | 0, r => r
  | i + 1, r => rstep l gS gF th i (rto l gS gF th i r)
def rall (l : List McV) (gS : Nat → Int) (gF : Nat → Bool) (th : ByteArray → Bool) : RX := rto l gS gF th l.length ⟨⟨gS, gF, fun _ => false⟩, [], []⟩

/-- machines whose turn has not come are as they were, unless they have been entered -/
def Fresh (gS : Nat → Int) (gF : Nat → Bool) (i : Nat) (r : RX) : Prop := ∀ j, i ≤ j → r.x.E j = false → r.x.S j = gS j ∧ r.x.F j = gF j
theorem rto_fresh {l : List McV} (hl : Low l) (gS : Nat → Int) (gF : Nat → Bool) (th : ByteArray → Bool) : ∀ i, Fresh gS gF i (rto l gS gF th i ⟨⟨gS, gF, fun _ => false⟩, [], []⟩) := by
  intro i
  induction i with
  | zero => intro j _ _; exact ⟨rfl, rfl⟩
  | succ i ih =>
    show Fresh gS gF (i + 1) (rstep _ _ _ _ _ _)
    generalize rto l gS gF th i ⟨⟨gS, gF, fun _ => false⟩, [], []⟩ = r at ih ⊢
    unfold rstep
    cases hm : l[i]? with
    | none => intro j hj; exact ih j (by omega)
    | some m =>
      simp only
      by_cases hc : (actv l gS i && !r.x.E i && actv l r.x.S i) = true
      · rw [if_pos hc]
        cases hk : m.mv.l.findIdx? (openM (gS i) (gF i) th) with
        | none =>
          intro j hj hE
          have := ih j (by omega) hE
          refine ⟨this.1, ?_⟩
          show upd r.x.F i false j = _
          rw [upd_other _ _ _ _ (by omega)]; exact this.2
        | some k =>
          simp only
          cases hv : m.mv.l[k]? with
          | none => intro j hj; exact ih j (by omega)
          | some v =>
            intro j hj hE
            obtain ⟨g1, g2⟩ := ent_grow (keep := v.keep) hl l.length i (r.x.mv i v.dst)
            have h2 := g2 j hE
            have hEj : r.x.E j = false := by
              cases he : r.x.E j with
              | false => rfl
              | true => rw [g1 j he] at hE; cases hE
            have := ih j (by omega) hEj
            simp only [RS.mv, upd_other _ _ _ _ (show j ≠ i by omega)] at h2
            exact ⟨h2.1.trans this.1, h2.2.trans this.2⟩
      · rw [if_neg hc]; intro j hj; exact ih j (by omega)

end Go.Proofs.Ytgjmbmlmopomgaa
