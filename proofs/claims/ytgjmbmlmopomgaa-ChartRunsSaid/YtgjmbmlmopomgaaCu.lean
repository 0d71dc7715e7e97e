/- Active, of both sides. -/
import Derived.Test.YtgjmbmlmopomgaaCt
import Derived.Test.YtgjmbmlmopomgaaCn
import Derived.Test.YtgjmbmlmopomgaaCp
namespace Go.Proofs.Ytgjmbmlmopomgaa
open Go.RowKit Go.Maps
set_option linter.unusedSimpArgs false
set_option linter.unusedVariables false

/-- where f holds, below i -/
def actl (f : Nat → Bool) : Nat → List Int
  | 0 => []
  | i + 1 => if f i = true then actl f i ++ [(i : Int)] else actl f i
theorem actl_len (f : Nat → Bool) : ∀ i, (actl f i).length ≤ i := by
  intro i
  induction i with
  | zero => exact Nat.le_refl _
  | succ i ih =>
    unfold actl
    by_cases h : f i = true
    · rw [if_pos h, List.length_append]; simp; exact ih
    · rw [if_neg h]; omega
theorem actl_mem (f : Nat → Bool) : ∀ i z, z ∈ actl f i ↔ ∃ j : Nat, j < i ∧ f j = true ∧ z = (j : Int) := by
  intro i
  induction i with
  | zero => intro z; simp [actl]
  | succ i ih =>
    intro z
    unfold actl
    by_cases h : f i = true
    · rw [if_pos h, List.mem_append, ih, List.mem_singleton]
      constructor
      · rintro (⟨j, h1, h2, h3⟩ | h1)
        · exact ⟨j, by omega, h2, h3⟩
        · exact ⟨i, by omega, h, h1⟩
      · rintro ⟨j, h1, h2, h3⟩
        rcases Nat.lt_or_ge j i with h4 | h4
        · exact .inl ⟨j, h4, h2, h3⟩
        · have : j = i := by omega
          subst this; exact .inr h3
    · rw [if_neg h, ih]
      constructor
      · rintro ⟨j, h1, h2, h3⟩
        exact ⟨j, by omega, h2, h3⟩
      · rintro ⟨j, h1, h2, h3⟩
        rcases Nat.lt_or_ge j i with h4 | h4
        · exact ⟨j, h4, h2, h3⟩
        · have : j = i := by omega
          subst this; exact absurd h2 h
theorem RB.fn {w : World} {g N : Nat} {f : Nat → Bool} (h : RB w g N f) {w' : World} {b : Option Nat} (hg : w.grownBy w' b) (hne : some g ≠ b) : RB w' g N f := h.same (hg.block g h.lt hne)
/-- which machines are active: what Active answers -/
def actS (c : CV) (g : GV) : List Int := if g.known c = 0 then actl (actv c.l (fnI g.st.l)) c.n else []
theorem GV.known_fine {c : CV} {g : GV} (h : g.known c = 0) : c.valid = 0 ∧ g.fine c = true := by
  unfold GV.known at h
  by_cases h0 : c.valid = 0
  · rw [if_pos h0] at h
    cases hf : g.fine c with
    | true => exact ⟨h0, rfl⟩
    | false => rw [hf] at h; simp at h
  · rw [if_neg h0] at h; exact absurd h h0
theorem GV.fine_n {c : CV} {g : GV} (h : g.fine c = true) : g.st.n = c.n ∧ g.fr.n = c.n := by
  unfold GV.fine at h
  simp only [Bool.and_eq_true, beq_iff_eq] at h
  exact ⟨h.1.1.1.1, h.1.1.1.2⟩
/-- the list as far as machine i -/
def AL (w : World) (A : Option Addr) (n cc : Nat) (cs : Array Value) (B : Nat) (P : World → Prop) (f : Nat → Bool) (i : Nat) (v7 : Value) (wr : World) : Prop :=
  Own w [(24, #[.slice A n cc]), (29, cs)] wr ∧ w.heap.size + 2 ≤ B ∧ B ≤ wr.heap.size ∧ P wr ∧ wr.ownsRow B 3 1 v7 (actl f i).length (vz (actl f i))

set_option maxRecDepth 100000 in
set_option maxHeartbeats 4000000 in
theorem m_Active (c : CV) (g : GV) (w : World) (hc : c.ok w) (hg : g.ok w) : Calls Try.prog 12 #[.agg #[.slice c.A c.n c.c], .agg #[.slice g.st.A g.st.n g.st.c, .slice g.fr.A g.fr.n g.fr.c, .slice g.out.A g.out.n g.out.c]] w fun e w' =>
    ∃ L : NL, e = .returned (.tuple #[.slice L.A L.n L.c, .int .i64 (g.known c)]) ∧ L.ok w' ∧ L.l = actS c g ∧ Below w.heap.size w w' := by
  have hO0 := Own.two w 24 29 #[.slice c.A c.n c.c] #[.slice g.st.A g.st.n g.st.c, .slice g.fr.A g.fr.n g.fr.c, .slice g.out.A g.out.n g.out.c]
  have hcall := m_known c g _ (hc.below hO0.1 (Nat.le_refl _)) (hg.below hO0.1 (Nat.le_refl _))
  have hact := fun (w' : World) (hb : Below w.heap.size w w') (h : g.known c = 0) => m_active c g.st w' (hc.below hb (Nat.le_refl _)) (hg.1.below hb (Nat.le_refl _)) (GV.fine_n (GV.known_fine h).2).1 (CV.six (GV.known_fine h).1) (CV.low (GV.known_fine h).1)
  have hv : Hid (actS c g = if g.known c = 0 then actl (actv c.l (fnI g.st.l)) c.n else []) := rfl
  have h6 := fun (h : g.known c = 0) => CV.six (GV.known_fine h).1
  obtain ⟨f, hf⟩ : ∃ f, f = actv c.l (fnI g.st.l) := ⟨_, rfl⟩
  rw [← hf] at hact hv
  clear hf
  generalize hV : g.known c = V at hcall hv h6 hact ⊢
  generalize hL : actS c g = L at hv ⊢
  clear hV hL
  clear hc hg
  obtain ⟨A, n, cc, l⟩ := c
  obtain ⟨⟨gA, gn, gc, gl⟩, ⟨fA, fn, fc, fl⟩, ⟨oA, on, oc, ol⟩⟩ := g
  simp only at hcall hact h6 hv ⊢ hO0
  replace hO0 := Lib.hid hO0
  replace hact := Lib.hid hact
  by_cases h0 : V = 0
  · subst h0
    replace h6 := h6 rfl
    replace hact := Lib.hid (fun w' hb => hact.out w' hb rfl)
    rw [if_pos rfl] at hv
    go_enter Try.func12, Try.ntmps12
    go_wp2_with (first
      | (go_at_call 31; refine hcall.mono ?_; rintro e w3 ⟨rfl, hb3⟩; have hO3 := Lib.hid (hO0.out.call hb3); have a0 := hO3.out.b0.cell 0; have b0 := hO3.out.b1.cell 0; simp only [List.getElem?_toArray, List.getElem?_cons_zero] at a0 b0)
      | (go_at_call 32; (with_reducible refine (hact.out _ (Own.lo hO3.out)).mono ?_); rintro e w4 ⟨gR, rfl, hgR, hR, hb4⟩; have hO4 := Lib.hid (hO3.out.call hb4); have hgl := hR.lt; have hsz3 := Lib.hid hO3.out.2.1; replace hR := Lib.hid hR))
    obtain ⟨B, hB⟩ : ∃ B, B = w4.heap.size := ⟨_, rfl⟩
    rw [← hB] at hgl
    have hsz4 := hO4.out.2.1
    simp only [List.length_cons, List.length_nil] at hsz4
    have hAL : AL w A n cc #[.slice gA gn gc, .slice fA fn fc, .slice oA on oc] B (fun wr => RB wr gR n f) f 0 (.slice none 0 0) w4 := ⟨hO4.out, by omega, by omega, hR.out, World.ownsRow_nil _ _ _ _⟩
    clear hO0 hcall hact hb3 hO3 a0 b0 hsz3 hR hB hsz4 hO4
    go_loopw [7, 21] (fun v7 v21 wr => ∃ i : Nat, i ≤ n ∧ v21 = .int .i64 i ∧ AL w A n cc #[.slice gA gn gc, .slice fA fn fc, .slice oA on oc] B (fun wr => RB wr gR n f) f i v7 wr) (fun _ i _ => n - (intOf i).toNat)
    case atStart => exact ⟨0, by omega, rfl, hAL⟩
    case round =>
      clear hAL
      obtain ⟨i, hi, rfl, hO, hB1, hB2, hR, hrow⟩ := hrel
      by_cases hlt : i < n
      · have hcl := hR.cell hlt
        have hle := actl_len f i
        replace hO := Lib.hid hO
        replace hR := Lib.hid hR
        cases hfi : f i with
        | true =>
          rw [hfi] at hcl
          have hrow1 := Lib.hid (OR.more hrow (.cells #[.int .i64 (i : Int)] 3))
          have hO1 := Lib.hid (hO.out.more (.cells #[.int .i64 (i : Int)] 3))
          have hR1 := Lib.hid (hR.out.call ((Below.refl wr.heap.size wr).alloc (Nat.le_refl _) (.cells #[.int .i64 (i : Int)] 3)))
          have hal : Hid (actl f (i + 1) = actl f i ++ [(i : Int)]) := by show _ = _; rw [actl, if_pos hfi]
          have hll : Hid ((actl f (i + 1)).length = (actl f i).length + 1) := by show _ = _; rw [hal.out, List.length_append]; rfl
          replace hrow := Lib.hid hrow
          go_wp2_with (at_builtin; refine app_I rfl _ _ rfl B (actl f i).length u7 (actl f i) rfl hrow1.out (by omega) (by simp; omega) ⟨wr.heap.size, 0, none⟩ 1 (i : Int) rfl (cell_one_new _ _ _) ?_; intro gS capS w6 hown6 hgr6 hat6)
          have hne : some gR ≠ u7.ownBlock := fun e => by have := (OR.at hrow1.out e.symm).1; omega
          have hR6 := Lib.hid (RB.fn hR1.out hgr6 hne)
          have hO6 := Lib.hid (Own.grown hO1.out hrow1.out hgr6 (by simp; omega))
          have hsz6 : Hid (B ≤ w6.heap.size) := Nat.le_trans hB2 (Nat.le_trans (by simp) hgr6.size)
          replace hown6 : Hid (w6.ownsRow B 3 1 (.slice (some ⟨gS, 0, none⟩) ((actl f i).length + 1) capS) (actl f (i + 1)).length (vz (actl f (i + 1)))) := by show World.ownsRow _ _ _ _ _ _ _; rw [hll.out, hal.out]; exact hown6
          clear hgr6 hat6 hrow1 hO1 hR1 hO hR hal hll
          go_roundw
          case rel => exact ⟨i + 1, hlt, by go_num, hO6.out, hB1, hsz6.out, hR6.out, hown6.out⟩
          case measure => simp [intOf]; omega
        | false =>
          rw [hfi] at hcl
          have hal : Hid (actl f (i + 1) = actl f i) := by show _ = _; rw [actl, if_neg (by rw [hfi]; simp)]
          replace hrow := Lib.hid hrow
          go_wp2_with fail
          go_roundw
          case rel => exact ⟨i + 1, hlt, by go_num, hO.out, hB1, hB2, hR.out, hal.out.symm ▸ hrow.out⟩
          case measure => simp [intOf]; omega
      · obtain rfl : i = n := by omega
        obtain ⟨A', c', rfl, hok⟩ := NL.of_row hrow rfl (fun x hx => by obtain ⟨j, h1, h2, rfl⟩ := (actl_mem _ _ _).1 hx; unfold In64; omega) (by have := actl_len f i; omega)
        have hb := Lib.hid hO.1
        replace hok := Lib.hid hok
        clear hO hR hrow
        go_wp2_with fail
        go_ret2
        exact ⟨⟨A', _, c', _⟩, rfl, hok.out, hv.out.symm, hb.out⟩
  · rw [if_neg h0] at hv
    have hVb : (V == 0) = false := by simpa using h0
    have hVc : (V != 0) = true := by simpa using h0
    clear hact h6 h0
    go_enter Try.func12, Try.ntmps12
    go_wp2_with (go_at_call 31; refine hcall.mono ?_; rintro e w3 ⟨rfl, hb3⟩; have hO3 := Lib.hid (hO0.out.call hb3))
    go_ret2
    exact ⟨⟨none, 0, 0, []⟩, rfl, NL.none _, hv.out.symm, hO3.out.1⟩

end Go.Proofs.Ytgjmbmlmopomgaa
