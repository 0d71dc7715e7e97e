/- Perfect$1: the closure that lists. -/
import Derived.Test.YtjbhnfejpgjghaaPd
import Derived.Test.YtjbhnfejpgjghaaShelf
import Derived.Test.YtjbhnfejpgjghaaNw
namespace Go.Proofs.Ytjbhnfejpgjghaa
open Go.RowKit
set_option linter.unusedSimpArgs false
set_option linter.unusedVariables false

theorem Fr.via {xs ys : List Nat} {w w1 w2 : World} (h : Fr xs w w1) (k : Fr ys w1 w2) (hy : ∀ y ∈ ys, y ∈ xs ∨ w.heap.size ≤ y) : Fr xs w w2 :=
  ⟨k.os.trans h.os, k.tape.trans h.tape, k.output.trans h.output, Nat.le_trans h.size k.size, fun j hj hx => (k.block j (Nat.lt_of_lt_of_le hj h.size) (fun hm => by
    rcases hy j hm with h1 | h1
    · exact hx h1
    · omega)).trans (h.block j hj hx)⟩
theorem Fr.grown {w w' : World} {v : Value} (h : w.grownBy w' v.ownBlock) : Fr (obs v) w w' :=
  ⟨h.os, h.tape, h.output, h.size, fun j hj hx => h.block j hj (fun e => hx (mem_obs.2 e.symm))⟩

/-- a frame that spares what holds the state -/
theorem PS.fr {z : PF} (hz : z.Fine) {vo : Value} {hs : List Value} {out : List (List Int)} {w w' : World} {xs : List Nat} (h : PS z vo hs out w) (hf : Fr xs w w') (hx : ∀ x ∈ xs, z.BB ≤ x) (h1 : ∀ x ∈ xs, vo.ownBlock ≠ some x) (h2 : ∀ v ∈ hs, ∀ x ∈ xs, v.ownBlock ≠ some x) : PS z vo hs out w' := by
  obtain ⟨q1, q2, q3, q4⟩ := hz.lt
  have hb := hz.bo
  refine ⟨hf.blk h.bOut fun hm => by have := hx _ hm; omega, hf.blk h.bMost fun hm => by have := hx _ hm; omega, hf.blk h.bM fun hm => by have := hx _ hm; omega, hf.blk h.bGo fun hm => by have := hx _ hm; omega,
    h.en.below (hf.below (by have := h.bOut.lt; omega) fun x hm => by have := hx x hm; omega), ?_, fun j l v hj hv => (h.el j l v hj hv).same fun g e => hf.block g ((h.el j l v hj hv).at e).2 fun hm => h2 v (List.mem_of_getElem? hv) g hm e, Nat.le_trans h.sz hf.size⟩
  obtain ⟨e1, e2⟩ := h.row
  refine ⟨e1, ?_⟩
  rcases e2 with e2 | ⟨g, cap, cur, rfl, e3, e4, e5⟩
  · exact .inl e2
  · refine .inr ⟨g, cap, cur, rfl, e3, ?_, e5⟩
    rw [hf.block g (Array.getElem?_eq_some_iff.1 e4).1 (fun hm => h1 g hm rfl)]
    exact e4
theorem PS.call {z : PF} (hz : z.Fine) {vo : Value} {hs : List Value} {out : List (List Int)} {w w' : World} (h : PS z vo hs out w) (hb : Below w.heap.size w w') : PS z vo hs out w' :=
  h.fr hz (xs := []) ((Fr.refl _ _).call hb) (by simp) (by simp) (by simp)
theorem PS.voForm {z : PF} {vo : Value} {hs : List Value} {out : List (List Int)} {w : World} (h : PS z vo hs out w) : ∃ A c, vo = .slice A out.length c := by
  rcases h.row.2 with ⟨h1, h2⟩ | ⟨g, cap, cur, rfl, -⟩
  · exact ⟨none, 0, by rw [h1, h2]⟩
  · exact ⟨_, _, rfl⟩
theorem RowI.form {w : World} {B : Nat} {v : Value} {l : List Int} (h : RowI w B v l) : ∃ A c, v = .slice A l.length c := by
  rcases h.2 with ⟨h1, h2⟩ | ⟨g, cap, cur, rfl, -⟩
  · exact ⟨none, 0, by rw [h1, h2]⟩
  · exact ⟨_, _, rfl⟩
theorem PS.voWay {z : PF} {vo : Value} {hs : List Value} {out : List (List Int)} {w : World} {B : Nat} {v : Value} {l : List Int} (h : PS z vo hs out w) (hr : RowI w B v l) {g : Nat} (hg : v.ownBlock = some g) : vo.ownBlock ≠ some g :=
  row_type hr h.row (by decide) hg
theorem PS.voAt {z : PF} {vo : Value} {hs : List Value} {out : List (List Int)} {w : World} (h : PS z vo hs out w) {g : Nat} (hg : vo.ownBlock = some g) : z.BB ≤ g ∧ g < w.heap.size := World.ownsRow.lt h.row g hg
theorem PS.elAt {z : PF} {vo : Value} {hs : List Value} {out : List (List Int)} {w : World} (h : PS z vo hs out w) {v : Value} (hv : v ∈ hs) {g : Nat} (hg : v.ownBlock = some g) : z.BB ≤ g ∧ g < w.heap.size := by
  obtain ⟨j, hj, rfl⟩ := List.getElem_of_mem hv
  have hl : j < out.length := by have := h.row.1; omega
  exact (h.el j out[j] hs[j] (List.getElem?_eq_getElem hl) (List.getElem?_eq_getElem hj)).at hg
theorem PS.elVo {z : PF} {vo : Value} {hs : List Value} {out : List (List Int)} {w : World} (h : PS z vo hs out w) {v : Value} (hv : v ∈ hs) {g : Nat} (hg : v.ownBlock = some g) : vo.ownBlock ≠ some g := by
  obtain ⟨j, hj, rfl⟩ := List.getElem_of_mem hv
  have hl : j < out.length := by have := h.row.1; omega
  exact h.voWay (h.el j out[j] hs[j] (List.getElem?_eq_getElem hl) (List.getElem?_eq_getElem hj)) hg

theorem row_blk_ne {w : World} {B n : Nat} {e t : TypeId} {v : Value} {xs : List Value} {g : Nat} {cs : Array Value} (h : w.ownsRow B e 1 v n xs) (hb : Blk w g t cs) (hne : e ≠ t) : v.ownBlock ≠ some g := by
  rcases h.2 with ⟨rfl, -⟩ | ⟨g1, cap, cur, rfl, -, h4, -⟩
  · intro hc; cases hc
  · intro hc
    have e1 : g1 = g := by simpa [Value.ownBlock] using hc
    rw [e1, show w.heap[g]? = some (.cells cs t (0, 0)) from hb] at h4
    injection h4 with h5
    injection h5 with _ h6
    exact hne h6.symm

theorem PS.push {z : PF} (hz : z.Fine) {vo v' v2 : Value} {hs : List Value} {out : List (List Int)} {way : List Int} {w w1 : World} (h : PS z vo hs out w) (hv : RowI w z.BB v' way) (hg : w.grownBy w1 vo.ownBlock) (hr : w1.ownsRow z.BB 23 1 v2 (out.length + 1) (hs ++ [v'])) :
    PS z v2 (hs ++ [v']) (out ++ [way]) (w1.setCell ⟨z.gOut, 0, none⟩ v2) := by
  have hlen : hs.length = out.length := by have := h.row.1; omega
  obtain ⟨q1, q2, q3, q4⟩ := hz.lt
  have hbo := hz.bo
  have hne : ∀ x, x < z.BB → some x ≠ vo.ownBlock := fun x hx e => by have := (h.voAt e.symm).1; omega
  have hf : Fr [z.gOut] w1 (w1.setCell ⟨z.gOut, 0, none⟩ v2) := (Fr.refl _ _).set (by simp) _
  have hB : Below z.B w w1 := (Below.refl _ _).grown hg (by have := h.sz; omega) (fun b hb => by have := (h.voAt hb).1; omega)
  have hel : ∀ (l : List Int) (v : Value), RowI w z.BB v l → RowI (w1.setCell ⟨z.gOut, 0, none⟩ v2) z.BB v l := fun l v hv => by
    have h1 : RowI w1 z.BB v l := hv.same fun g e => hg.block g (hv.at e).2 fun e2 => h.voWay hv e e2.symm
    exact h1.far q1 _ _
  refine ⟨(h.bOut.grown hg (hne _ q1)).set 0 v2, hf.blk (h.bMost.grown hg (hne _ q2)) (by simp; exact fun e => hz.o1.1 e.symm), hf.blk (h.bM.grown hg (hne _ q3)) (by simp; exact fun e => hz.o1.2.1 e.symm), hf.blk (h.bGo.grown hg (hne _ q4)) (by simp; exact fun e => hz.o1.2.2 e.symm),
    (h.en.below hB).below (hf.below (by have := h.sz; have := hg.size; omega) (by simp; omega)), ?_, fun j l v hj hv => ?_, Nat.le_trans h.sz (Nat.le_trans hg.size hf.size)⟩
  · have h2 : (w1.setCell ⟨z.gOut, 0, none⟩ v2).ownsRow z.BB 23 1 v2 (out.length + 1) (hs ++ [v']) := by
      obtain ⟨e1, e2⟩ := hr
      refine ⟨e1, ?_⟩
      rcases e2 with e2 | ⟨g, cap, cur, e3, e4, e5, e6⟩
      · exact .inl e2
      · refine .inr ⟨g, cap, cur, e3, e4, ?_, e6⟩
        rw [Below.heap_setCell w1 ⟨z.gOut, 0, none⟩ v2 g (by show g ≠ z.gOut; omega)]
        exact e5
    simpa using h2
  · rcases Nat.lt_or_ge j out.length with hl | hl
    · rw [List.getElem?_append_left hl] at hj
      rw [List.getElem?_append_left (by omega)] at hv
      exact hel _ _ (h.el j l v hj hv)
    · rw [List.getElem?_append_right hl] at hj
      have : j = out.length := by
        have := (List.getElem?_eq_some_iff.1 hj).1
        simp at this
        omega
      subst this
      rw [List.getElem?_append_right (by omega), hlen] at hv
      simp at hj hv
      subst hj hv
      exact hel _ _ (by assumption)

theorem RowI.mono {w : World} {B B' : Nat} {v : Value} {l : List Int} (h : RowI w B v l) (hb : B' ≤ B) : RowI w B' v l := by
  obtain ⟨h1, h2⟩ := h
  refine ⟨h1, ?_⟩
  rcases h2 with h2 | ⟨g, cap, cur, e, h3, h4⟩
  · exact .inl h2
  · exact .inr ⟨g, cap, cur, e, Nat.le_trans hb h3, h4⟩
theorem clone_row {w : World} {B : Nat} {v : Value} {l : List Int} (h : RowI w B v l) (hl : l.length ≤ 1000) :
    Calls Try.prog 38 #[v] w fun e w' => ∃ (v' : Value) (A : Option Addr) (c : Nat), e = .returned v' ∧ v' = .slice A l.length c ∧ RowI w' w.heap.size v' l ∧ Below w.heap.size w w' := by
  have h0 := h
  rcases h.2 with ⟨rfl, h2⟩ | ⟨g, cap, cur, rfl, h3, h4, h5⟩
  · have : l = [] := List.eq_nil_of_length_eq_zero h2
    subst this
    refine (Try.slices_Clone_int_nil 0 0 w).mono ?_
    rintro e w' ⟨rfl, rfl⟩
    exact ⟨_, none, 0, rfl, rfl, RowI.nil _ _, Below.refl _ _⟩
  · refine (Try.slices_Clone_int g 0 l.length cap l w (Nat.le_refl _) (by omega) (fun j hj => ?_)).mono ?_
    · have h6 := World.ownsRow.cells h0 (g := g) rfl j (.int .i64 (l.getD j 0)) (vz_get _ _ _ (by rw [List.getD_eq_getElem?_getD, List.getElem?_eq_getElem hj]; rfl))
      rw [show (⟨g, 0, none⟩ : Addr).add j = ⟨g, 0 + j, none⟩ from by unfold Addr.add; split <;> simp_all] at h6
      exact h6
    · rintro e w' ⟨v', rfl, ho, -, hb⟩
      rw [List.take_of_length_le (Nat.le_refl _)] at ho
      obtain ⟨A, c, hA⟩ := RowI.form ho
      exact ⟨v', A, c, rfl, hA, ho, hb⟩

def PPo (z : PF) (vo vw : Value) (hs : List Value) (way : List Int) (out2 : List (List Int)) (w : World) (e : Ending) (w' : World) : Prop :=
  e = .returned (.tuple #[]) ∧ ∃ (vo' : Value) (hs2 : List Value), PS z vo' (hs ++ hs2) out2 w' ∧ RowI w' z.BB vw way ∧ Fr (z.gOut :: (obs vo ++ obs vw)) w w' ∧ (∀ h ∈ hs2, ∀ g, h.ownBlock = some g → w.heap.size ≤ g) ∧ (∀ g, vo'.ownBlock = some g → vo.ownBlock = some g ∨ w.heap.size ≤ g)

/-- one row's columns under way -/
def Q1 (z : PF) (w : World) (vo0 vw : Value) (hs : List Value) (way : List Int) (rec : Nat → List (List Int) → List (List Int)) (out0 : List (List Int)) (i : Nat) (used : Nat → Bool) (l : List Nat) (gU gI s s1 : Nat) (v34 : Value) (wr : World) : Prop :=
  ∃ (j : Nat) (vo : Value) (hs2 : List Value) (out : List (List Int)), j ≤ l.length ∧ v34 = .int .i64 (j : Int) ∧ Hid (perfL z.E z.R z.R i used rec l out0 = perfL z.E z.R z.R i used rec (l.drop j) out) ∧ out.length ≤ z.most + 1 ∧
    Hid (PS z vo (hs ++ hs2) out wr) ∧ Hid (RowI wr z.BB vw way) ∧ Hid (Fr (z.gOut :: (obs vo0 ++ obs vw)) w wr) ∧ Hid (∀ h ∈ hs2, ∀ g, h.ownBlock = some g → w.heap.size ≤ g) ∧ Hid (∀ g, vo.ownBlock = some g → vo0.ownBlock = some g ∨ w.heap.size ≤ g) ∧
    Blk wr gU 55 #[.int .u64 (s : Int), .int .u64 (s1 : Int)] ∧ Blk wr gI 3 #[.int .i64 (i : Int)]

set_option maxRecDepth 100000 in
set_option maxHeartbeats 4000000 in
theorem perfect_1 (z : PF) (hz : z.Fine) : ∀ (m i : Nat) (way : List Int) (used : Nat → Bool) (s s1 : Nat) (vo vw : Value) (hs : List Value) (out : List (List Int)) (w : World), i + m = z.R → way.length = i → s < 18446744073709551616 → (∀ k, k < 64 → s.testBit k = used k) →
    out.length ≤ z.most + 1 → PS z vo hs out w → RowI w z.BB vw way → (∀ h ∈ hs, ∀ g, h.ownBlock = some g → vw.ownBlock ≠ some g) →
    Calls Try.prog 37 #[vw, .agg #[.int .u64 (s : Int), .int .u64 (s1 : Int)], .pointer (some ⟨z.gOut, 0, none⟩), .pointer (some ⟨z.gMost, 0, none⟩), .pointer (some ⟨z.gM, 0, none⟩), .pointer (some ⟨z.gGo, 0, none⟩)] w (PPo z vo vw hs way (perf z.E z.R z.R z.most m way used out) w) := by
  have hu := Try.underlying55
  have hu2 := Try.underlying62
  have hu3 := Try.underlying33
  obtain ⟨i0, hi0, hz0, hz1, hz2⟩ := info_parts infoI
  obtain ⟨j0, hj0, yz0, yz1, yz2⟩ := info_parts infoS
  intro m
  induction m with
  | zero =>
    intro i way used s s1 vo vw hs out w hi hw hs64 hus hlen hP hR hsep
    obtain ⟨Ao, co, hvo⟩ := hP.voForm
    obtain ⟨Aw, cw, hvw⟩ := hR.form
    have hO := Own.two w 55 3 #[.int .u64 (s : Int), .int .u64 (s1 : Int)] #[.int .i64 (i : Int)]
    have hP2 := hP.call hz hO.1
    have hR2 := hR.call hO.1
    have hF2 : Fr (z.gOut :: (obs vo ++ obs vw)) w _ := (Fr.refl _ _).call hO.1
    have hR64 := hz.inc.1
    have hiz : z.R = i := by omega
    by_cases hgt : z.most < out.length
    · have hpf : perf z.E z.R z.R z.most 0 way used out = out := by unfold perf; rw [if_pos hgt]
      rw [hpf]
      have hgt' : decide (z.most < out.length) = true := decide_eq_true (by omega)
      have c0 := hP2.bOut.cell 0
      have c1 := hP2.bMost.cell 0
      have hfin : PPo z vo vw hs way out w (.returned (.tuple #[])) _ := ⟨rfl, vo, [], by rw [List.append_nil]; exact hP2, hR2, hF2, (fun h hh => by cases hh), (fun g hg => .inl hg)⟩
      rw [hvo] at c0
      rw [hw] at hvw
      subst hvw
      have hfin' := Lib.hid hfin
      clear hfin hP2 hR2 hF2 hO hP hR hsep hvo hpf hgt hus hiz
      go_enter Try.func37, Try.ntmps37
      go_wp2_with fail
      exact bodyPost_ret (v := .tuple #[]) (by simp [results, Try.results37, go_sem]) rfl hfin'.out
    · have hpf : perf z.E z.R z.R z.most 0 way used out = out ++ [way] := by unfold perf; rw [if_neg hgt]
      rw [hpf]
      have hgt' : decide (z.most < out.length) = false := decide_eq_false (by omega)
      have hee : ((i : Int) == (i : Int)) = true := by simp
      have c0 := hP2.bOut.cell 0
      have c1 := hP2.bMost.cell 0
      have c2 := hP2.bM.cell 0
      rw [hvo] at c0
      rw [hiz] at c2
      rw [hw] at hvw
      have hmost := hz.most
      obtain ⟨w2, hw2⟩ : ∃ w2, w2 = (w.alloc (.cells #[.int .u64 (s : Int), .int .u64 (s1 : Int)] 55)).alloc (.cells #[.int .i64 (i : Int)] 3) := ⟨_, rfl⟩
      have hb2 : Hid (Below w.heap.size w w2) := by rw [hw2]; exact hO.1
      have hP2' : Hid (PS z vo hs out w2) := by rw [hw2]; exact hP2
      have hR2' : Hid (RowI w2 z.BB (.slice Aw i cw) way) := by rw [hw2, ← hvw]; exact hR2
      have hvo' := Lib.hid hvo
      have hvw' := Lib.hid hvw
      rw [show vw = Value.slice Aw i cw from hvw]
      clear hP2 hR2 hF2 hO hP hsep hvo hvw hpf hgt hus hiz
      go_enter Try.func37, Try.ntmps37
      go_upto_region 4 with fail
      rw [← hw2]
      clear hw2 c0 c1 c2
      have cO : w2.cell? ⟨z.gOut, 0, none⟩ = some (.slice Ao out.length co) := by rw [← hvo'.out]; exact hP2'.out.bOut.cell 0
      have hSS : (fun w' : World => w'.cell? ⟨z.gOut, 0, none⟩ = some (.slice Ao out.length co)) w2.drew := cO
      refine wp_region_K (S := fun w' : World => w'.cell? ⟨z.gOut, 0, none⟩ = some (.slice Ao out.length co)) (K := [5]) (by kernel_rfl) ?_
      refine AnyK.take (i := 0) (v := .slice Ao out.length co) rfl (by kernel_rfl) (by kernel_rfl) (by kernel_rfl) (by kernel_rfl) (by kernel_rfl) (by kernel_rfl) (fun _ _ _ h => h) (Or.inl ⟨by rfl, ?_⟩) hSS ?_
      · rintro w' a0
        go_simp
      (try simp only [Act.put, List.setIfInBounds_toArray, List.set_cons_zero, List.set_cons_succ])
      refine AnyK.takeFree (i := 1) (v := .slice Aw i cw) rfl (by kernel_rfl) (by kernel_rfl) (by kernel_rfl) (by kernel_rfl) (fun _ _ _ h => h) (Or.inl ⟨by rfl, ?_⟩) hSS ?_
      · rintro w' -
        go_simp
      (try simp only [Act.put, List.setIfInBounds_toArray, List.set_cons_zero, List.set_cons_succ])
      refine AnyK.one (i := 2) (by kernel_rfl) rfl (fun K' hK => ?_)
      go_simp
      refine (clone_row hR2'.out.drew (by omega)).mono ?_
      rintro e w3 ⟨v3, A3, c3, rfl, hv3, hr3, hb3⟩
      rw [hw] at hv3
      subst hv3
      have hb3' : Below w2.heap.size w2 w3 := (Below.refl _ _).drew.trans hb3
      have hP3 := Lib.hid (hP2'.out.call hz hb3')
      have hR3 := Lib.hid (hR2'.out.call hb3')
      have cO3 : w3.cell? ⟨z.gOut, 0, none⟩ = some (.slice Ao out.length co) := by rw [← hvo'.out]; exact hP3.out.bOut.cell 0
      refine hK.out _ _ (fun _ => cO3) ?_
      clear hK hSS
      (try simp only [Act.put, List.setIfInBounds_toArray, List.set_cons_zero, List.set_cons_succ])
      refine AnyK.one (i := 3) (by kernel_rfl) rfl (fun K' hK => ?_)
      go_simp
      have hb4 : Below w3.heap.size w3 (w3.alloc (.cells #[.slice A3 i c3] 23)) := (Below.refl _ _).alloc (Nat.le_refl _) _
      have hP4 := Lib.hid (hP3.out.call hz hb4)
      have hR4 := Lib.hid (hR3.out.call hb4)
      have hr4 := Lib.hid (hr3.call hb4)
      have cO4 : (w3.alloc (.cells #[.slice A3 i c3] 23)).cell? ⟨z.gOut, 0, none⟩ = some (.slice Ao out.length co) := by rw [← hvo'.out]; exact hP4.out.bOut.cell 0
      refine hK.out _ _ (fun _ => cO4) ?_
      clear hK
      (try simp only [Act.put, List.setIfInBounds_toArray, List.set_cons_zero, List.set_cons_succ])
      refine AnyK.one (i := 4) (by kernel_rfl) rfl (fun K' hK => ?_)
      have hrow4 : (w3.alloc (.cells #[.slice A3 i c3] 23)).ownsRow z.BB 23 1 (.slice Ao out.length co) out.length hs := by rw [← hvo'.out]; exact hP4.out.row
      refine step_append_lies _ (by rfl) _ _ 22 (by rfl) z.BB 23 j0 (.slice none 0 0) 1 24 Try.underlying22 hj0 yz0 yz1 yz2 (by rfl) (by decide) (.slice Ao out.length co) out.length hs (by rfl) hrow4 ⟨w3.heap.size, 0, none⟩ 1 1 [.slice A3 i c3] (by rfl) (by rfl) (cell_one_new _ _ _) (by intro u hu; simp at hu; rw [hu]; rfl) (by omega) (by unfold maxLen; omega) (by omega) hP4.out.sz _ rfl ?_
      intro g cap w5 hown hgr hat hlt5
      go_simp
      rw [← hvo'.out] at hgr hat
      have hBBw : Hid (z.BB ≤ w2.heap.size) := hP2'.out.sz
      have hr4' : RowI (w3.alloc (.cells #[.slice A3 i c3] 23)) z.BB (.slice A3 i c3) way := RowI.mono hr4.out hBBw.out
      have hpush := Lib.hid (hP4.out.push hz hr4' hgr hown)
      have hne5 : ∀ x, x < z.BB → some x ≠ vo.ownBlock := fun x hx e => by have := (hP4.out.voAt e.symm).1; omega
      have hbO5 := hP4.out.bOut.grown hgr (hne5 _ hz.lt.1)
      have cO5 : w5.cell? ⟨z.gOut, 0, none⟩ = some (.slice Ao out.length co) := by rw [← hvo'.out]; exact hbO5.cell 0
      have fO5 := hbO5.frozen 0
      refine hK.out _ _ (fun _ => cO5) ?_
      clear hK
      (try simp only [Act.put, List.setIfInBounds_toArray, List.set_cons_zero, List.set_cons_succ])
      refine AnyK.one (i := 5) (by kernel_rfl) rfl (fun K' hK => ?_)
      go_simp
      refine hK.out _ _ (fun h => absurd h (Bool.eq_false_iff.1 (by kernel_rfl))) ?_
      clear hK
      (try simp only [Act.put, List.setIfInBounds_toArray, List.set_cons_zero, List.set_cons_succ])
      refine AnyK.done (by kernel_rfl) ?_ _
      have hs2 := hb2.out.size
      have hs3 := hb3'.size
      have hfin : PPo z vo (Value.slice Aw i cw) hs way (out ++ [way]) w (.returned (.tuple #[])) (w5.setCell ⟨z.gOut, 0, none⟩ (.slice (some ⟨g, 0, none⟩) (out.length + 1) cap)) := by
        refine ⟨rfl, _, [.slice A3 i c3], hpush.out, ?_, ?_, fun v hv x hx => ?_, fun x hx => ?_⟩
        · have h1 : RowI w5 z.BB (.slice Aw i cw) way := hR4.out.same fun x e => hgr.block x (hR4.out.at e).2 fun e2 => hP4.out.voWay hR4.out e e2.symm
          exact h1.far hz.lt.1 _ _
        · have h1 : Fr (z.gOut :: (obs vo ++ obs (Value.slice Aw i cw))) w (w3.alloc (.cells #[.slice A3 i c3] 23)) := (((Fr.refl _ _).call hb2.out).call hb3').call hb4
          exact ((h1.via (Fr.grown hgr) (fun y hy => .inl (List.mem_cons_of_mem _ (List.mem_append_left _ hy)))).set (p := ⟨z.gOut, 0, none⟩) (List.mem_cons_self ..) _)
        · have e : v = .slice A3 i c3 := by simpa using hv
          subst e
          have := (hr3.at hx).1
          have h2 : w2.drew.heap.size = w2.heap.size := rfl
          omega
        · have e : g = x := by simpa [Value.ownBlock] using hx
          subst e
          rcases hat with h | h
          · exact .inl h
          · right
            have h2 : w3.heap.size + 1 = (w3.alloc (.cells #[.slice A3 i c3] 23)).heap.size := by simp
            omega
      have hfin' := Lib.hid hfin
      clear hfin
      go_wp2_with fail
      exact bodyPost_ret (v := .tuple #[]) (by simp [results, Try.results37, go_sem]) rfl hfin'.out
  | succ m ih =>
    intro i way used s s1 vo vw hs out w hi hw hs64 hus hlen hP hR hsep
    obtain ⟨Ao, co, hvo⟩ := hP.voForm
    obtain ⟨Aw, cw, hvw⟩ := hR.form
    have hO := Own.two w 55 3 #[.int .u64 (s : Int), .int .u64 (s1 : Int)] #[.int .i64 (i : Int)]
    have hP2 := hP.call hz hO.1
    have hR2 := hR.call hO.1
    have hF2 : Fr (z.gOut :: (obs vo ++ obs vw)) w _ := (Fr.refl _ _).call hO.1
    have hR64 := hz.inc.1
    by_cases hgt : z.most < out.length
    · have hpf : perf z.E z.R z.R z.most (m + 1) way used out = out := by unfold perf; rw [if_pos hgt]
      rw [hpf]
      have hgt' : decide (z.most < out.length) = true := decide_eq_true (by omega)
      have c0 := hP2.bOut.cell 0
      have c1 := hP2.bMost.cell 0
      have hfin : PPo z vo vw hs way out w (.returned (.tuple #[])) _ := ⟨rfl, vo, [], by rw [List.append_nil]; exact hP2, hR2, hF2, (fun h hh => by cases hh), (fun g hg => .inl hg)⟩
      rw [hvo] at c0
      rw [hw] at hvw
      subst hvw
      have hfin' := Lib.hid hfin
      clear hfin hP2 hR2 hF2 hO hP hR hsep hvo hpf hgt hus ih
      go_enter Try.func37, Try.ntmps37
      go_wp2_with fail
      exact bodyPost_ret (v := .tuple #[]) (by simp [results, Try.results37, go_sem]) rfl hfin'.out
    · have hgt' : decide (z.most < out.length) = false := decide_eq_false (by omega)
      have hiR : i < z.R := by omega
      have hne : ((i : Int) == (z.R : Int)) = false := by simp; omega
      have hiRi : (i : Int) < (z.R : Int) := by omega
      obtain ⟨gE, oE, l, A', n', c', hAE, hl, hcE, hl1⟩ := hP.en.cell hiR
      have hEi : z.E.getD i [] = l := by rw [List.getD_eq_getElem?_getD, hl]; rfl
      have hll : Hid (∀ k ∈ l, k < z.R) := hz.inc.2.2.2 l (List.mem_of_getElem? hl)
      have hlen' : Hid (l.length = n') := hl1.1
      obtain ⟨rec, hrec⟩ : ∃ rec : Nat → List (List Int) → List (List Int), rec = fun (k : Nat) o => perf z.E z.R z.R z.most m (way ++ [(k : Int)]) (upd used k true) o := ⟨_, rfl⟩
      have hpf : Hid (perf z.E z.R z.R z.most (m + 1) way used out = perfL z.E z.R z.R i used rec l out) := by
        show _ = _
        rw [perf, if_neg hgt, ← hrec, show z.R - (m + 1) = i by omega, hEi]
      have hrec' := Lib.hid hrec
      have hBw : Hid (∀ x ∈ z.gOut :: (obs vo ++ obs vw), z.B ≤ x) := fun x hx => by
        have h1 := hz.bo
        have h2 := hz.lt.1
        rcases List.mem_cons.1 hx with rfl | hx
        · exact h1
        · rcases List.mem_append.1 hx with hx | hx
          · have := (hP.voAt (mem_obs.1 hx)).1; omega
          · have := (hR.at (mem_obs.1 hx)).1; omega
      have hBs : z.B ≤ w.heap.size := by have := hz.bo; have := hz.lt.1; have := hP.sz; omega
      have hcE2 := (hO.1.cell (p := ⟨gE, oE + i, none⟩) (by
        rcases hP.en.2.2 with h0 | ⟨g, o, h0, h1, -⟩
        · omega
        · rw [hAE] at h0
          have e : gE = g := by simp at h0; exact h0.1
          show gE < w.heap.size
          omega)).trans hcE
      have c0 := hP2.bOut.cell 0
      have c1 := hP2.bMost.cell 0
      have hbM2 := hP2.bM
      rw [hAE] at hbM2
      obtain ⟨c2, c3, c4⟩ := cells3 hbM2
      rw [hvo] at c0
      rw [hw] at hvw
      obtain ⟨gU, hgU⟩ : ∃ gU, gU = w.heap.size := ⟨_, rfl⟩
      obtain ⟨gI, hgI⟩ : ∃ gI, gI = w.heap.size + 1 := ⟨_, rfl⟩
      obtain ⟨w2, hw2⟩ : ∃ w2, w2 = (w.alloc (.cells #[.int .u64 (s : Int), .int .u64 (s1 : Int)] 55)).alloc (.cells #[.int .i64 (i : Int)] 3) := ⟨_, rfl⟩
      have hst : Q1 z w vo vw hs way rec out i used l gU gI s s1 (.int .i64 0) w2 := ⟨0, vo, [], out, Nat.zero_le _, rfl, rfl, hlen, by rw [hw2, List.append_nil]; exact hP2, by rw [hw2]; exact hR2, by rw [hw2]; exact hF2, (fun h hh => by cases hh), (fun g hg => .inl hg), by rw [hw2, hgU]; exact hO.b0, by rw [hw2, hgI]; exact hO.b1⟩
      have hsep' := Lib.hid hsep
      have hus' := Lib.hid hus
      have hpf' := hpf
      have ih' := Lib.hid ih
      have hP' := Lib.hid hP
      have hR' := Lib.hid hR
      have hvw' := Lib.hid hvw
      have hl1' : Hid (∀ wx, Below z.B w wx → N1 z.B wx A' n' c' l) := fun wx hb => hl1.below hb
      have hn64 : n' ≤ 17592186044416 := hl1.2.1
      have hUI : Hid (gU = w.heap.size ∧ gI = w.heap.size + 1) := ⟨hgU, hgI⟩
      rw [hpf.out]
      have hAE' := Lib.hid hAE
      rw [show vw = Value.slice Aw i cw from hvw]
      clear hl1 hl hEi hrec hus hsep ih hP hR hP2 hR2 hF2 hO hvo hvw hgt hcE hAE hbM2
      go_enter Try.func37, Try.ntmps37
      go_upto_region 6 with fail
      rw [← hw2]
      clear hw2 c0 c1 c2 c3 c4 hcE2
      have hgI2 : gI = gU + 1 := by omega
      rw [← hgU, ← hgI2]
      clear hgU hgI hgI2
      go_loopw [34] (fun v34 wr => Q1 z w vo vw hs way rec out i used l gU gI s s1 v34 wr) (fun j _ => n' - (intOf j).toNat)
      case atStart => exact hst
      case round =>
        clear hst
        obtain ⟨j, vo2, hs2, out2, hj, rfl, hpl, hlen2, hP, hR, hF, hn, hv2, hbU, hbI⟩ := hrel
        by_cases hjl : j < n'
        · have hbB := hF.out.below hBs hBw.out
          obtain ⟨gl, ol, k, hA', hk, hck⟩ := (hl1'.out _ hbB).cell hjl
          have hkR : k < z.R := hll.out k (List.mem_of_getElem? hk)
          have hd : l.drop j = k :: l.drop (j + 1) := by
            have h1 := (List.getElem?_eq_some_iff.1 hk).1
            rw [List.drop_eq_getElem_cons h1]
            congr 1
            exact (List.getElem?_eq_some_iff.1 hk).2
          have hjl2 : j < l.length := by rw [hlen'.out]; exact hjl
          rw [hd] at hpl
          obtain ⟨cS0, cS1, -⟩ := blkP hbU
          subst hA'
          clear hd
          by_cases hus : used k = true
          · have htk : s.testBit k = true := by rw [hus'.out k (by omega), hus]
            have hpl2 : Hid (perfL z.E z.R z.R i used rec l out = perfL z.E z.R z.R i used rec (l.drop (j + 1)) out2) := by
              show _ = _
              rw [hpl.out, perfL, if_pos hus]
            go_wp2_with (go_at_call 33; refine (m_has s s1 k _ (by omega) hs64).mono ?_; rintro e w6 ⟨rfl, hb6⟩; rw [htk])
            exact ⟨⟨j + 1, vo2, hs2, out2, by omega, by go_num, hpl2, hlen2, hP.out.call hz hb6, hR.out.call hb6, hF.out.call hb6, hn, hv2, hbU.call hb6, hbI.call hb6⟩, by simp [intOf]; omega⟩
          · have hus : used k = false := by simpa using hus
            have htk : s.testBit k = false := by rw [hus'.out k (by omega), hus]
            have ht64 := or_bit hs64 (show k < 64 by omega)
            obtain ⟨t, ht⟩ : ∃ t, t = s ||| 2 ^ k := ⟨_, rfl⟩
            have htb2 : ∀ j, j < 64 → t.testBit j = upd used k true j := by
              intro j hj
              rw [ht, testBit_or]
              unfold upd
              rw [hus'.out j hj]
            have hmw := m_with s s1 k
            rw [← ht] at ht64 hmw
            have hmw' := Lib.hid hmw
            have htb2' := Lib.hid htb2
            have hm1 := Lib.hid (match_rest2 hz.inc z.B (some ⟨gE, oE, none⟩) z.R z.cE)
            have hN8 : Hid (∀ wx, PS z vo2 (hs ++ hs2) out2 wx → N2 z.B wx (some ⟨gE, oE, none⟩) z.R z.cE z.E) := fun wx h => by have := h.en; rwa [hAE'.out] at this
            have hBle : Hid (∀ wx, PS z vo2 (hs ++ hs2) out2 wx → z.B ≤ wx.heap.size) := fun wx h => by have := hz.bo; have := hz.lt.1; have := h.sz; omega
            clear hmw htb2 ht
            obtain ⟨cq, hcq⟩ : ∃ cq, cq = cnt (fill z.E (fun c => !(upd used k true) c) (fun r => decide (i < r)) z.R z.R).1 z.R := ⟨_, rfl⟩
            have hcqb := cnt_le (fill z.E (fun c => !(upd used k true) c) (fun r => decide (i < r)) z.R z.R).1 z.R
            have hsz : ∀ (gr gc : Nat) (wz : World), RF wz gr z.R (fill z.E (fun c => !(upd used k true) c) (fun r => decide (i < r)) z.R z.R).1 → _ := fun gr gc wz h => m_size gr gc z.R z.R _ (by omega) wz h
            rw [← hcq] at hcqb hsz
            have hsz' := Lib.hid hsz
            have hcq' : Hid (sz z.E (fun c => !(upd used k true) c) (fun r => decide (i < r)) z.R z.R = cq) := hcq.symm
            have hw1 : IntKind.i64.wrap ((z.R : Int) - (i : Int)) = (z.R : Int) - (i : Int) := by rw [IntKind.wrap_i64]; omega
            have hw2 : IntKind.i64.wrap ((z.R : Int) - (i : Int) - 1) = (z.R : Int) - (i : Int) - 1 := by rw [IntKind.wrap_i64]; omega
            obtain ⟨bq, hbq⟩ : ∃ bq, ((cq : Int) == (z.R : Int) - (i : Int) - 1) = bq := ⟨_, rfl⟩
            have hbq' := Lib.hid hbq
            clear hsz hcq
            go_upto_region 11 with (first
                    | (go_at_call 33; refine (m_has s s1 k _ (by omega) hs64).mono ?_; rintro e w6 ⟨rfl, hb6⟩; rw [htk]; have hP6 := Lib.hid (hP.out.call hz hb6); have hbU6 := hbU.call hb6; have hbI6 := hbI.call hb6; obtain ⟨q0, q1, -⟩ := blkP hbU6)
                    | (go_at_call 34; refine (hmw'.out _ (by omega) hs64).mono ?_; rintro e w7 ⟨rfl, hb7⟩; have hb8 : Below w6.heap.size w6 (w7.alloc (.cells #[.int .u64 (t : Int), .int .u64 (s1 : Int)] 55)) := hb7.trans ((Below.refl _ _).alloc hb7.size _); have hP8 := Lib.hid (hP6.out.call hz hb8); have hI8 := hbI6.call hb8; have hbM8 := hP8.out.bM; rw [hAE'.out] at hbM8; obtain ⟨m0, m1, m2⟩ := cells3 hbM8; have hU8 := Blk.new w7 55 #[.int .u64 (t : Int), .int .u64 (s1 : Int)]; have hW2 := Lib.hid (hm1.out _ gI w7.heap.size i t s1 _ ht64 htb2'.out hiR hI8 hU8 (hBle.out _ hP8.out) (hN8.out _ hP8.out)))
                    | (go_at_call 39; (with_reducible refine hW2.out.mono ?_); rintro e w9 ⟨gr, gc, hr1, hr2, hr3, rfl, hRr, hRc, hb9⟩))
            have hs7w : Hid (w.heap.size ≤ w7.heap.size) := Nat.le_trans (Nat.le_trans hF.out.size hb6.size) hb7.size
            have hb10 : Below w6.heap.size w6 (w9.alloc (.cells #[.slice (some ⟨gr, 0, none⟩) z.R z.R, .slice (some ⟨gc, 0, none⟩) z.R z.R] 62)) := (hb8.trans (hb9.mono hb8.size)).trans ((Below.refl _ _).alloc (Nat.le_trans hb8.size hb9.size) _)
            have hP10 := Lib.hid (hP6.out.call hz hb10)
            have hI10 := hbI6.call hb10
            have hG10 := Blk.new w9 62 #[.slice (some ⟨gr, 0, none⟩) z.R z.R, .slice (some ⟨gc, 0, none⟩) z.R z.R]
            have hRr10 := hRr.more (.cells #[.slice (some ⟨gr, 0, none⟩) z.R z.R, .slice (some ⟨gc, 0, none⟩) z.R z.R] 62)
            have hSS : (fun w' : World => w'.cell? ⟨w9.heap.size, 0, none⟩ = some (.slice (some ⟨gr, 0, none⟩) z.R z.R) ∧ w'.cell? ⟨w9.heap.size, 1, none⟩ = some (.slice (some ⟨gc, 0, none⟩) z.R z.R) ∧ w'.cell? ⟨z.gM, 0, none⟩ = some (.int .i64 (z.R : Int)) ∧ w'.cell? ⟨gI, 0, none⟩ = some (.int .i64 (i : Int))) (w9.alloc (.cells #[.slice (some ⟨gr, 0, none⟩) z.R z.R, .slice (some ⟨gc, 0, none⟩) z.R z.R] 62)).drew := ⟨hG10.cell 0, hG10.cell 1, hP10.out.bM.cell 0, hI10.cell 0⟩
            refine wp_region_K (S := fun w' : World => w'.cell? ⟨w9.heap.size, 0, none⟩ = some (.slice (some ⟨gr, 0, none⟩) z.R z.R) ∧ w'.cell? ⟨w9.heap.size, 1, none⟩ = some (.slice (some ⟨gc, 0, none⟩) z.R z.R) ∧ w'.cell? ⟨z.gM, 0, none⟩ = some (.int .i64 (z.R : Int)) ∧ w'.cell? ⟨gI, 0, none⟩ = some (.int .i64 (i : Int))) (K := []) (by kernel_rfl) ?_
            refine AnyK.take (i := 0) (v := .agg #[.slice (some ⟨gr, 0, none⟩) z.R z.R, .slice (some ⟨gc, 0, none⟩) z.R z.R]) rfl (by kernel_rfl) (by kernel_rfl) (by kernel_rfl) (by kernel_rfl) (by kernel_rfl) (by kernel_rfl) (fun _ _ _ h => h) (Or.inl ⟨by rfl, ?_⟩) hSS ?_
            · rintro w' ⟨a0, a1, a2, a3⟩
              go_simp
            (try simp only [Act.put, List.setIfInBounds_toArray, List.set_cons_zero, List.set_cons_succ])
            refine AnyK.takeFree (i := 2) (v := .pointer (some ⟨z.gM, 0, none⟩)) rfl (by kernel_rfl) (by kernel_rfl) (by kernel_rfl) (by kernel_rfl) (fun _ _ _ h => h) (Or.inl ⟨by rfl, ?_⟩) hSS ?_
            · rintro w' -
              go_simp
            (try simp only [Act.put, List.setIfInBounds_toArray, List.set_cons_zero, List.set_cons_succ])
            refine AnyK.take (i := 3) (v := .int .i64 (z.R : Int)) rfl (by kernel_rfl) (by kernel_rfl) (by kernel_rfl) (by kernel_rfl) (by kernel_rfl) (by kernel_rfl) (fun _ _ _ h => h) (Or.inl ⟨by rfl, ?_⟩) hSS ?_
            · rintro w' ⟨a0, a1, a2, a3⟩
              go_simp
            (try simp only [Act.put, List.setIfInBounds_toArray, List.set_cons_zero, List.set_cons_succ])
            refine AnyK.take (i := 4) (v := .int .i64 (i : Int)) rfl (by kernel_rfl) (by kernel_rfl) (by kernel_rfl) (by kernel_rfl) (by kernel_rfl) (by kernel_rfl) (fun _ _ _ h => h) (Or.inl ⟨by rfl, ?_⟩) hSS ?_
            · rintro w' ⟨a0, a1, a2, a3⟩
              go_simp
            (try simp only [Act.put, List.setIfInBounds_toArray, List.set_cons_zero, List.set_cons_succ])
            refine AnyK.takeFree (i := 5) (v := .int .i64 ((z.R : Int) - (i : Int))) rfl (by kernel_rfl) (by kernel_rfl) (by kernel_rfl) (by kernel_rfl) (fun _ _ _ h => h) (Or.inl ⟨by rfl, ?_⟩) hSS ?_
            · rintro w' -
              go_simp
            (try simp only [Act.put, List.setIfInBounds_toArray, List.set_cons_zero, List.set_cons_succ])
            refine AnyK.takeFree (i := 6) (v := .int .i64 ((z.R : Int) - (i : Int) - 1)) rfl (by kernel_rfl) (by kernel_rfl) (by kernel_rfl) (by kernel_rfl) (fun _ _ _ h => h) (Or.inl ⟨by rfl, ?_⟩) hSS ?_
            · rintro w' -
              go_simp
            (try simp only [Act.put, List.setIfInBounds_toArray, List.set_cons_zero, List.set_cons_succ])
            refine AnyK.one (i := 1) (by kernel_rfl) rfl (fun K' hK => ?_)
            go_simp
            refine (hsz'.out gr gc _ hRr10.drew).mono ?_
            rintro e w11 ⟨rfl, hb11⟩
            have hb11a := Lib.hid ((hb10.drew).trans (hb11.mono hb10.size))
            have hP11 := Lib.hid (hP6.out.call hz hb11a.out)
            have hI11 := hbI6.call hb11a.out
            have hUU11 := hbU6.call hb11a.out
            have hU11 : Blk w11 w7.heap.size 55 #[.int .u64 (t : Int), .int .u64 (s1 : Int)] := (((hU8.call hb9).alloc (.cells #[.slice (some ⟨gr, 0, none⟩) z.R z.R, .slice (some ⟨gc, 0, none⟩) z.R z.R] 62)).drew).call hb11
            have hG11 := (hG10.drew).call hb11
            refine hK.out _ _ (fun _ => ⟨hG11.cell 0, hG11.cell 1, hP11.out.bM.cell 0, hI11.cell 0⟩) ?_
            clear hK hSS
            (try simp only [Act.put, List.setIfInBounds_toArray, List.set_cons_zero, List.set_cons_succ])
            refine AnyK.one (i := 7) (by kernel_rfl) rfl (fun K' hK => ?_)
            go_simp
            refine hK.out _ _ (fun _ => ⟨hG11.cell 0, hG11.cell 1, hP11.out.bM.cell 0, hI11.cell 0⟩) ?_
            clear hK
            (try simp only [Act.put, List.setIfInBounds_toArray, List.set_cons_zero, List.set_cons_succ])
            refine AnyK.done (by kernel_rfl) ?_ _
            have hR11 := Lib.hid ((hR.out.call hb6).call hb11a.out)
            have hF11 := Lib.hid ((hF.out.call hb6).call hb11a.out)
            clear hP10 hI10 hG10 hRr10 hb11 hG11 hRr hRc hb9 hb10 hW2 hU8 m0 m1 m2 hbM8 hI8 hP8 hb8 q0 q1 hP6 hbU6 hbI6 hb7 hb6 hP hR hF hbU hbI cS0 cS1 hck hbB
            cases bq with
            | false =>
              have hpl2 : Hid (perfL z.E z.R z.R i used rec l out = perfL z.E z.R z.R i used rec (l.drop (j + 1)) out2) := by
                show _ = _
                rw [hpl.out, perfL, if_neg (by rw [hus]; simp), if_neg]
                unfold fits
                rw [hcq'.out]
                have := hbq'.out
                simp at this ⊢
                omega
              go_wp2_with fail
              exact ⟨⟨j + 1, vo2, hs2, out2, by omega, by go_num, hpl2, hlen2, hP11, hR11, hF11, hn, hv2, hUU11, hI11⟩, by simp [intOf]; omega⟩
            | true =>
              have hpl2 : Hid (perfL z.E z.R z.R i used rec l out = perfL z.E z.R z.R i used rec (l.drop (j + 1)) (rec k out2)) := by
                show _ = _
                rw [hpl.out, perfL, if_neg (by rw [hus]; simp), if_pos]
                unfold fits
                rw [hcq'.out]
                have := hbq'.out
                simp at this ⊢
                omega
              have hrk : Hid (rec k out2 = perf z.E z.R z.R z.most m (way ++ [(k : Int)]) (upd used k true) out2) := by show _ = _; rw [hrec'.out]
              go_upto_region 12 with fail
              have hGo : w11.cell? ⟨z.gGo, 0, none⟩ = some (.func (.func 37) #[] #[.pointer (some ⟨z.gOut, 0, none⟩), .pointer (some ⟨z.gMost, 0, none⟩), .pointer (some ⟨z.gM, 0, none⟩), .pointer (some ⟨z.gGo, 0, none⟩)]) := hP11.out.bGo.cell 0
              have hSS : (fun w' : World => w'.cell? ⟨z.gGo, 0, none⟩ = some (.func (.func 37) #[] #[.pointer (some ⟨z.gOut, 0, none⟩), .pointer (some ⟨z.gMost, 0, none⟩), .pointer (some ⟨z.gM, 0, none⟩), .pointer (some ⟨z.gGo, 0, none⟩)]) ∧ w'.cell? ⟨w7.heap.size, 0, none⟩ = some (.int .u64 (t : Int)) ∧ w'.cell? ⟨w7.heap.size, 1, none⟩ = some (.int .u64 (s1 : Int))) w11.drew := ⟨hGo, hU11.cell 0, hU11.cell 1⟩
              refine wp_region_K (S := fun w' : World => w'.cell? ⟨z.gGo, 0, none⟩ = some (.func (.func 37) #[] #[.pointer (some ⟨z.gOut, 0, none⟩), .pointer (some ⟨z.gMost, 0, none⟩), .pointer (some ⟨z.gM, 0, none⟩), .pointer (some ⟨z.gGo, 0, none⟩)]) ∧ w'.cell? ⟨w7.heap.size, 0, none⟩ = some (.int .u64 (t : Int)) ∧ w'.cell? ⟨w7.heap.size, 1, none⟩ = some (.int .u64 (s1 : Int))) (K := [6]) (by kernel_rfl) ?_
              refine AnyK.take (i := 0) (v := .func (.func 37) #[] #[.pointer (some ⟨z.gOut, 0, none⟩), .pointer (some ⟨z.gMost, 0, none⟩), .pointer (some ⟨z.gM, 0, none⟩), .pointer (some ⟨z.gGo, 0, none⟩)]) rfl (by kernel_rfl) (by kernel_rfl) (by kernel_rfl) (by kernel_rfl) (by kernel_rfl) (by kernel_rfl) (fun _ _ _ h => h) (Or.inl ⟨by rfl, ?_⟩) hSS ?_
              · rintro w' ⟨a0, a1, a2⟩
                go_simp
              (try simp only [Act.put, List.setIfInBounds_toArray, List.set_cons_zero, List.set_cons_succ])
              refine AnyK.takeFree (i := 1) (v := .slice Aw i cw) rfl (by kernel_rfl) (by kernel_rfl) (by kernel_rfl) (by kernel_rfl) (fun _ _ _ h => h) (Or.inl ⟨by rfl, ?_⟩) hSS ?_
              · rintro w' -
                go_simp
              (try simp only [Act.put, List.setIfInBounds_toArray, List.set_cons_zero, List.set_cons_succ])
              refine AnyK.takeFree (i := 2) (v := .int .i64 (k : Int)) rfl (by kernel_rfl) (by kernel_rfl) (by kernel_rfl) (by kernel_rfl) (fun _ _ _ h => h) (Or.inl ⟨by rfl, ?_⟩) hSS ?_
              · rintro w' -
                go_simp
              (try simp only [Act.put, List.setIfInBounds_toArray, List.set_cons_zero, List.set_cons_succ])
              refine AnyK.take (i := 5) (v := .agg #[.int .u64 (t : Int), .int .u64 (s1 : Int)]) rfl (by kernel_rfl) (by kernel_rfl) (by kernel_rfl) (by kernel_rfl) (by kernel_rfl) (by kernel_rfl) (fun _ _ _ h => h) (Or.inl ⟨by rfl, ?_⟩) hSS ?_
              · rintro w' ⟨a0, a1, a2⟩
                go_simp
              (try simp only [Act.put, List.setIfInBounds_toArray, List.set_cons_zero, List.set_cons_succ])
              refine AnyK.one (i := 3) (by kernel_rfl) rfl (fun K' hK => ?_)
              go_simp
              have hb12 : Below w11.heap.size w11 (w11.alloc (.cells #[.int .i64 (k : Int)] 3)).drew := ((Below.refl _ _).alloc (Nat.le_refl _) _).drew
              have hP12 := Lib.hid (hP11.out.call hz hb12)
              have hU12 := hU11.call hb12
              have hGo12 : (w11.alloc (.cells #[.int .i64 (k : Int)] 3)).drew.cell? ⟨z.gGo, 0, none⟩ = some (.func (.func 37) #[] #[.pointer (some ⟨z.gOut, 0, none⟩), .pointer (some ⟨z.gMost, 0, none⟩), .pointer (some ⟨z.gM, 0, none⟩), .pointer (some ⟨z.gGo, 0, none⟩)]) := hP12.out.bGo.cell 0
              refine hK.out _ _ (fun _ => ⟨hGo12, hU12.cell 0, hU12.cell 1⟩) ?_
              clear hK hSS
              (try simp only [Act.put, List.setIfInBounds_toArray, List.set_cons_zero, List.set_cons_succ])
              refine AnyK.one (i := 4) (by kernel_rfl) rfl (fun K' hK => ?_)
              have hR12 := hR11.out.call hb12
              have hR12' : RowI (w11.alloc (.cells #[.int .i64 (k : Int)] 3)).drew z.BB (.slice Aw i cw) way := by rw [← hvw'.out]; exact hR12
              refine step_append_way (by rfl) _ _ (by rfl) hi0 hz0 hz1 hz2 (by rfl) hR12' (by omega) hP12.out.sz ⟨w11.heap.size, 0, none⟩ 1 (k : Int) (by rfl) (cell_one_new _ _ _ 0 _ rfl) ?_
              intro g cap w13 hr13 hg13 hat hr13w
              rw [hw] at hr13 hat
              go_simp
              rw [← hvw'.out] at hg13 hat hr13w
              have hwlt : Hid (∀ x, vw.ownBlock = some x → z.BB ≤ x ∧ x < w.heap.size) := fun x hx => hR'.out.at hx
              have hsepA : Hid (∀ v ∈ hs ++ hs2, ∀ x, vw.ownBlock = some x → v.ownBlock ≠ some x) := fun v hv x hx e => by
                rcases List.mem_append.1 hv with hv | hv
                · exact hsep'.out v hv x e hx
                · have h1 := hn.out v hv x e
                  have h2 := (hwlt.out x hx).2
                  omega
              have hP13 := Lib.hid (hP12.out.fr hz (Fr.grown hg13) (fun x hx => (hwlt.out x (mem_obs.1 hx)).1) (fun x hx => hP12.out.voWay hR12 (mem_obs.1 hx)) (fun v hv x hx => hsepA.out v hv x (mem_obs.1 hx)))
              have hsepB : Hid (∀ h ∈ hs ++ hs2, ∀ x, h.ownBlock = some x → (Value.slice (some ⟨g, 0, none⟩) (i + 1) cap).ownBlock ≠ some x) := fun v hv x hx e => by
                have e : g = x := by simpa [Value.ownBlock] using e
                subst e
                rcases hat with hat | hat
                · exact hsepA.out v hv g (by rw [hat]; rfl) hx
                · have := (hP12.out.elAt hv hx).2
                  omega
              have hU13 : Blk w13 w7.heap.size 55 #[.int .u64 (t : Int), .int .u64 (s1 : Int)] := (Fr.grown hg13).blk hU12 (fun hm => by have := (hwlt.out _ (mem_obs.1 hm)).2; have := hF11.out.size; have := hs7w.out; omega)
              have hUU13 := (Fr.grown hg13).blk (hUU11.call hb12) (fun hm => by have := (hwlt.out _ (mem_obs.1 hm)).2; have := hUI.out; omega)
              have hI13 := (Fr.grown hg13).blk (hI11.call hb12) (fun hm => by have := (hwlt.out _ (mem_obs.1 hm)).2; have := hUI.out; omega)
              have hGo13 : w13.cell? ⟨z.gGo, 0, none⟩ = some (.func (.func 37) #[] #[.pointer (some ⟨z.gOut, 0, none⟩), .pointer (some ⟨z.gMost, 0, none⟩), .pointer (some ⟨z.gM, 0, none⟩), .pointer (some ⟨z.gGo, 0, none⟩)]) := hP13.out.bGo.cell 0
              have hF13 : Hid (Fr (z.gOut :: (obs vo ++ obs vw)) w w13) := (hF11.out.call hb12).via (Fr.grown hg13) (fun y hy => .inl (List.mem_cons_of_mem _ (List.mem_append_right _ hy)))
              refine hK.out _ _ (fun _ => ⟨hGo13, hU13.cell 0, hU13.cell 1⟩) ?_
              clear hK
              (try simp only [Act.put, List.setIfInBounds_toArray, List.set_cons_zero, List.set_cons_succ])
              refine AnyK.one (i := 6) (by kernel_rfl) rfl (fun K' hK => ?_)
              go_simp
              refine (ih'.out (i + 1) (way ++ [(k : Int)]) (upd used k true) t s1 vo2 (.slice (some ⟨g, 0, none⟩) (i + 1) cap) (hs ++ hs2) out2 w13 (by omega) (by simp [hw]) ht64 htb2'.out hlen2 hP13.out hr13 hsepB.out).mono ?_
              rintro e w14 ⟨rfl, vo3, hs3, hP14, hR14, hF14, hn14, hv14⟩
              refine hK.out _ _ (fun h => absurd h (Bool.eq_false_iff.1 (by kernel_rfl))) ?_
              clear hK
              (try simp only [Act.put, List.setIfInBounds_toArray, List.set_cons_zero, List.set_cons_succ])
              refine AnyK.done (by kernel_rfl) ?_ _
              have hgg : Hid (vw.ownBlock = some g ∨ w.heap.size + 2 ≤ g) := by
                rcases hat with hat | hat
                · left; rw [hat]; rfl
                · right
                  have h1 : w11.heap.size + 1 = (w11.alloc (.cells #[.int .i64 (k : Int)] 3)).drew.heap.size := by simp
                  have h2 := hI11.lt
                  have h3 := hUI.out
                  omega
              have hvo2B : Hid (∀ x, vo2.ownBlock = some x → x ≠ gU ∧ x ≠ gI) := fun x hx => ⟨fun e => row_blk_ne hP13.out.row hUU13 (by decide) (e ▸ hx), fun e => row_blk_ne hP13.out.row hI13 (by decide) (e ▸ hx)⟩
              have hout14 : Hid (∀ x, (x = gU ∨ x = gI) → x ∉ z.gOut :: (obs vo2 ++ obs (Value.slice (some ⟨g, 0, none⟩) (i + 1) cap))) := fun x hx hm => by
                have h1 := hUI.out
                have h2 := hP'.out.sz
                have h3 := hz.lt.1
                rcases List.mem_cons.1 hm with e | hm
                · omega
                · rcases List.mem_append.1 hm with hm | hm
                  · have := hvo2B.out x (mem_obs.1 hm); omega
                  · have e : g = x := by simpa [Value.ownBlock] using mem_obs.1 hm
                    rcases hgg.out with h | h
                    · have := (hwlt.out g h).2; omega
                    · omega
              have hUU14 := hF14.blk hUU13 (hout14.out gU (.inl rfl))
              have hI14 := hF14.blk hI13 (hout14.out gI (.inr rfl))
              have hR14' : Hid (RowI w14 z.BB vw way) := by
                rcases hat with hat | hat
                · rw [hat, ← hw]; exact RowI.head (by rw [hw]; exact hR14)
                · refine hr13w.same fun x hx => hF14.block x (hr13w.at hx).2 fun hm => ?_
                  have h1 := (hwlt.out x hx)
                  have h3 := hz.lt.1
                  have h4 : w11.heap.size + 1 = (w11.alloc (.cells #[.int .i64 (k : Int)] 3)).drew.heap.size := by simp
                  have h5 := hF11.out.size
                  rcases List.mem_cons.1 hm with e | hm
                  · omega
                  · rcases List.mem_append.1 hm with hm | hm
                    · exact hP13.out.voWay hr13w hx (mem_obs.1 hm)
                    · have e : g = x := by simpa [Value.ownBlock] using mem_obs.1 hm
                      omega
              have hF14' : Hid (Fr (z.gOut :: (obs vo ++ obs vw)) w w14) := hF13.out.via hF14 (fun y hy => by
                rcases List.mem_cons.1 hy with e | hy
                · left; rw [e]; exact List.mem_cons_self ..
                · rcases List.mem_append.1 hy with hy | hy
                  · rcases hv2.out y (mem_obs.1 hy) with h | h
                    · exact .inl (List.mem_cons_of_mem _ (List.mem_append_left _ (mem_obs.2 h)))
                    · exact .inr h
                  · have e : g = y := by simpa [Value.ownBlock] using mem_obs.1 hy
                    subst e
                    rcases hgg.out with h | h
                    · exact .inl (List.mem_cons_of_mem _ (List.mem_append_right _ (mem_obs.2 h)))
                    · exact .inr (by omega))
              have hws := hF13.out.size
              have hn14' : Hid (∀ h ∈ hs2 ++ hs3, ∀ g, h.ownBlock = some g → w.heap.size ≤ g) := fun v hv x hx => by
                rcases List.mem_append.1 hv with hv | hv
                · exact hn.out v hv x hx
                · have := hn14 v hv x hx; omega
              have hv14' : Hid (∀ g, vo3.ownBlock = some g → vo.ownBlock = some g ∨ w.heap.size ≤ g) := fun x hx => by
                rcases hv14 x hx with h | h
                · exact hv2.out x h
                · right; omega
              rw [List.append_assoc] at hP14
              have hln3 := perf_len (E := z.E) (R := z.R) (C := z.R) (most := z.most) m (way ++ [(k : Int)]) (upd used k true) out2 hlen2
              rw [← hrk.out] at hP14 hln3
              have hP14' := Lib.hid hP14
              clear hP14 hR14 hF14 hn14 hv14
              go_wp2_with fail
              exact ⟨⟨j + 1, vo3, hs2 ++ hs3, _, by omega, by go_num, hpl2, hln3, hP14', hR14', hF14', hn14', hv14', hUU14, hI14⟩, by simp [intOf]; omega⟩
        · have hjn : l.length = j := by have := hlen'.out; omega
          have hdn : l.drop j = [] := List.drop_eq_nil_of_le (by omega)
          rw [hdn] at hpl
          have hfin : Hid (perfL z.E z.R z.R i used rec l out = out2) := by show _ = _; rw [hpl.out, perfL]
          have hfin2 : PPo z vo (Value.slice Aw i cw) hs way (perfL z.E z.R z.R i used rec l out) w (.returned (.tuple #[])) wr := by
            rw [hfin.out, ← hvw'.out]
            exact ⟨rfl, vo2, hs2, hP.out, hR.out, hF.out, hn.out, hv2.out⟩
          go_wp2_with fail
          exact bodyPost_ret (v := .tuple #[]) (by simp [results, Try.results37, go_sem]) rfl hfin2

end Go.Proofs.Ytjbhnfejpgjghaa
