/- Short$1: the closure that goes from an equation to those that have its unknowns. -/
import Derived.Laws.EntriesVeiled
import Derived.Test.YtjbhnfejpgjghaaQd
namespace Go.Proofs.Ytjbhnfejpgjghaa
open Go.RowKit
set_option linter.unusedSimpArgs false
set_option linter.unusedVariables false

def goSL (rec : Nat → (Nat → Bool) → (Nat → Bool)) (nx : Nat → Nat) : List Nat → (Nat → Bool) → (Nat → Bool)
  | [], s => s
  | k :: ks, s => goSL rec nx ks (rec (nx k) s)
def goS (E : List (List Nat)) (nx : Nat → Nat) : Nat → Nat → (Nat → Bool) → (Nat → Bool)
  | 0, _, s => s
  | f + 1, i, s => if s i = true then s else goSL (goS E nx f) nx (E.getD i []) (upd s i true)
inductive Rr (E : List (List Nat)) (nx : Nat → Nat) (i0 : Nat) : Nat → Prop
  | start : Rr E nx i0 i0
  | step (i k : Nat) : Rr E nx i0 i → k ∈ E.getD i [] → Rr E nx i0 (nx k)

theorem goSL_mono {rec : Nat → (Nat → Bool) → (Nat → Bool)} {nx : Nat → Nat} (hr : ∀ i s x, s x = true → rec i s x = true) : ∀ (ks : List Nat) (s : Nat → Bool) (x : Nat), s x = true → goSL rec nx ks s x = true := by
  intro ks
  induction ks with
  | nil => intro s x h; exact h
  | cons k ks ih => intro s x h; exact ih _ x (hr _ _ _ h)
theorem goS_mono (E : List (List Nat)) (nx : Nat → Nat) : ∀ (f i : Nat) (s : Nat → Bool) (x : Nat), s x = true → goS E nx f i s x = true := by
  intro f
  induction f with
  | zero => intro i s x h; exact h
  | succ f ih =>
    intro i s x h
    unfold goS
    split
    · exact h
    · exact goSL_mono ih _ _ _ (upd_true h)
theorem goS_sound {E : List (List Nat)} {nx : Nat → Nat} {i0 : Nat} : ∀ (f i : Nat) (s : Nat → Bool), Rr E nx i0 i → (∀ x, s x = true → Rr E nx i0 x) → ∀ x, goS E nx f i s x = true → Rr E nx i0 x := by
  intro f
  induction f with
  | zero => intro i s _ h x hx; exact h x hx
  | succ f ih =>
    intro i s hi h x hx
    unfold goS at hx
    split at hx
    · exact h x hx
    · have key : ∀ (ks : List Nat) (s : Nat → Bool), (∀ k ∈ ks, Rr E nx i0 (nx k)) → (∀ x, s x = true → Rr E nx i0 x) → ∀ x, goSL (goS E nx f) nx ks s x = true → Rr E nx i0 x := by
        intro ks
        induction ks with
        | nil => intro s _ h x hx; exact h x hx
        | cons k ks ih2 =>
          intro s hk h x hx
          exact ih2 _ (fun k' hk' => hk k' (List.mem_cons_of_mem _ hk')) (ih _ _ (hk k (List.mem_cons_self ..)) h) x hx
      refine key _ _ (fun k hk => .step i k hi hk) (fun y hy => ?_) x hx
      by_cases e : y = i
      · rw [e]; exact hi
      · exact h y (by rwa [upd_other _ _ _ _ e] at hy)
/-- what is new from s to s' is closed in s' -/
def ClS (E : List (List Nat)) (nx : Nat → Nat) (s s' : Nat → Bool) : Prop := ∀ r, s' r = true → s r = false → ∀ k ∈ E.getD r [], s' (nx k) = true
theorem ClS.trans {E : List (List Nat)} {nx : Nat → Nat} {a b c : Nat → Bool} (h1 : ClS E nx a b) (h2 : ClS E nx b c) (l : ∀ x, b x = true → c x = true) : ClS E nx a c := by
  intro r hr h0 k hk
  cases hb : b r with
  | true => exact l _ (h1 r hb h0 k hk)
  | false => exact h2 r hr hb k hk
theorem goS_clo {E : List (List Nat)} {nx : Nat → Nat} {R : Nat} {X : Nat → Prop} (hX : ∀ r, X r → r < R ∧ ∀ k ∈ E.getD r [], X (nx k)) : ∀ (f i : Nat) (s : Nat → Bool), X i → uns R s < f → goS E nx f i s i = true ∧ ClS E nx s (goS E nx f i s) := by
  intro f
  induction f with
  | zero => intro i s _ h; omega
  | succ f ih =>
    intro i s hi hu
    obtain ⟨hiR, hik⟩ := hX i hi
    unfold goS
    split
    · rename_i h; exact ⟨h, fun r h1 h2 => by rw [h1] at h2; cases h2⟩
    · rename_i h
      have h : s i = false := by simpa using h
      have hu2 : uns R (upd s i true) < f := by
        have := uns_lt (C := R) (s := s) (s' := upd s i true) (fun x hx => upd_true hx) hiR h (upd_same _ _ _)
        omega
      have key : ∀ (ks : List Nat) (s : Nat → Bool), (∀ k ∈ ks, X (nx k)) → uns R s < f → (∀ k ∈ ks, goSL (goS E nx f) nx ks s (nx k) = true) ∧ ClS E nx s (goSL (goS E nx f) nx ks s) := by
        intro ks
        induction ks with
        | nil => intro s _ _; exact ⟨fun k hk => (by cases hk), fun r h1 h2 => (by rw [show goSL (goS E nx f) nx [] s = s from rfl] at h1; rw [h1] at h2; cases h2)⟩
        | cons k ks ih2 =>
          intro s hk hu
          obtain ⟨q1, q2⟩ := ih (nx k) s (hk k (List.mem_cons_self ..)) hu
          have hu3 : uns R (goS E nx f (nx k) s) < f := by
            have := uns_le (C := R) (goS_mono E nx f (nx k) s); omega
          obtain ⟨r1, r2⟩ := ih2 (goS E nx f (nx k) s) (fun k' hk' => hk k' (List.mem_cons_of_mem _ hk')) hu3
          have hm := goSL_mono (nx := nx) (goS_mono E nx f) ks (goS E nx f (nx k) s)
          refine ⟨fun k' hk' => ?_, q2.trans r2 hm⟩
          rcases List.mem_cons.1 hk' with e | hk'
          · rw [e]; exact hm _ q1
          · exact r1 k' hk'
      obtain ⟨r1, r2⟩ := key (E.getD i []) (upd s i true) hik hu2
      have hm := goSL_mono (nx := nx) (goS_mono E nx f) (E.getD i []) (upd s i true)
      refine ⟨hm _ (upd_same _ _ _), fun r hr h0 k hk => ?_⟩
      by_cases e : r = i
      · subst e; exact r1 k hk
      · exact r2 r hr (by rw [upd_other _ _ _ _ e]; exact h0) k hk
theorem goS_spec {E : List (List Nat)} {nx : Nat → Nat} {R : Nat} {X : Nat → Prop} (hX : ∀ r, X r → r < R ∧ ∀ k ∈ E.getD r [], X (nx k)) (i0 : Nat) (hi : X i0) (r : Nat) : goS E nx (R + 1) i0 (fun _ => false) r = true ↔ Rr E nx i0 r := by
  refine ⟨fun h => goS_sound (R + 1) i0 _ .start (fun x hx => by cases hx) r h, fun h => ?_⟩
  obtain ⟨q1, q2⟩ := goS_clo hX (R + 1) i0 (fun _ => false) hi (by have := uns_all R (fun _ => false); omega)
  induction h with
  | start => exact q1
  | step i k _ hk ih => exact q2 i ih rfl k hk

/-! ## the walk -/
def nxt (out : Nat → Int) (R k : Nat) : Nat := (Lib.idxOf ((List.range R).map out) (k : Int)).toNat
structure ST where
  gS : Nat
  gM : Nat
  gF : Nat
  gW : Nat
  gO : Nat
  B : Nat
  AE : Option Addr
  cE : Nat
  R : Nat
  C : Nat
  E : List (List Nat)
  out : Nat → Int
  X : Nat → Prop
def ST.caps (z : ST) : Array Value := #[.pointer (some ⟨z.gS, 0, none⟩), .pointer (some ⟨z.gM, 0, none⟩), .pointer (some ⟨z.gF, 0, none⟩), .pointer (some ⟨z.gW, 0, none⟩)]
structure ST.Fine (z : ST) : Prop where
  inc : Inc z.R z.C z.E
  b : z.B ≤ z.gS
  no : ∀ g ∈ [z.gM, z.gF, z.gW, z.gO], g ≠ z.gS
  cl : ∀ r, z.X r → r < z.R ∧ ∀ k ∈ z.E.getD r [], 0 ≤ Lib.idxOf ((List.range z.R).map z.out) (k : Int) ∧ z.X (nxt z.out z.R k)
structure SS (z : ST) (s : Nat → Bool) (w : World) : Prop where
  bM : Blk w z.gM 33 #[.int .i64 (z.R : Int), .int .i64 (z.C : Int), .slice z.AE z.R z.cE]
  bF : Blk w z.gF 65 #[.func (.func 53) #[] z.caps]
  bW : Blk w z.gW 23 #[.slice (some ⟨z.gO, 0, none⟩) z.R z.R]
  en : N2 z.B w z.AE z.R z.cE z.E
  row : RF w z.gO z.R z.out
  sz : z.B ≤ w.heap.size
  cs : ∃ t t1 : Nat, t < 18446744073709551616 ∧ Blk w z.gS 55 #[.int .u64 (t : Int), .int .u64 (t1 : Int)] ∧ ∀ k, k < 64 → t.testBit k = s k
theorem SS.call {z : ST} {s : Nat → Bool} {w w' : World} (h : SS z s w) (hb : Below w.heap.size w w') : SS z s w' := by
  obtain ⟨h1, h2, h3, h4, h5, h6, ⟨t, t1, a, b, c⟩⟩ := h
  exact ⟨h1.call hb, h2.call hb, h3.call hb, h4.below (hb.mono h6), h5.call hb, Nat.le_trans h6 hb.size, ⟨t, t1, a, b.call hb, c⟩⟩
theorem SS.drew {z : ST} {s : Nat → Bool} {w : World} (h : SS z s w) : SS z s w.drew := h.call (Below.refl _ _).drew
theorem SS.mark {z : ST} (hz : z.Fine) {s : Nat → Bool} {w : World} {k t t1 : Nat} (h : SS z s w) (hk : k < 64) (hs : t < 18446744073709551616)
    (hb : Blk w z.gS 55 #[.int .u64 (t : Int), .int .u64 (t1 : Int)]) (ht : ∀ k, k < 64 → t.testBit k = s k) :
    SS z (upd s k true) ((w.setCell ⟨z.gS, 0, none⟩ (.int .u64 ((t ||| 2 ^ k : Nat) : Int))).setCell ⟨z.gS, 1, none⟩ (.int .u64 (t1 : Int))) ∧
    Fr [z.gS] w ((w.setCell ⟨z.gS, 0, none⟩ (.int .u64 ((t ||| 2 ^ k : Nat) : Int))).setCell ⟨z.gS, 1, none⟩ (.int .u64 (t1 : Int))) := by
  have hf : Fr [z.gS] w ((w.setCell ⟨z.gS, 0, none⟩ (.int .u64 ((t ||| 2 ^ k : Nat) : Int))).setCell ⟨z.gS, 1, none⟩ (.int .u64 (t1 : Int))) := ((Fr.refl _ _).set (by simp) _).set (by simp) _
  have hn := hz.no
  obtain ⟨h1, h2, h3, h4, h5, h6, -⟩ := h
  refine ⟨⟨hf.blk h1 (by simpa using hn z.gM (by simp)), hf.blk h2 (by simpa using hn z.gF (by simp)), hf.blk h3 (by simpa using hn z.gW (by simp)), h4.below (hf.below h6 (by have := hz.b; simp; omega)), h5.fr hf (by simpa using hn z.gO (by simp)), Nat.le_trans h6 hf.size, t ||| 2 ^ k, t1, or_bit hs hk, hb.setP _ _, fun j hj => ?_⟩, hf⟩
  rw [testBit_or]
  unfold upd
  rw [ht j hj]

def PSh (z : ST) (w : World) (s : Nat → Bool) (e : Ending) (w' : World) : Prop := e = .returned (.tuple #[]) ∧ SS z s w' ∧ Fr [z.gS] w w'
def S1 (z : ST) (f : Nat) (l : List Nat) (s0 : Nat → Bool) (w0 : World) (j : Nat) (wr : World) : Prop :=
  ∃ s, goSL (goS z.E (nxt z.out z.R) f) (nxt z.out z.R) l s0 = goSL (goS z.E (nxt z.out z.R) f) (nxt z.out z.R) (l.drop j) s ∧ uns z.R s < f ∧ SS z s wr ∧ Fr [z.gS] w0 wr

theorem index_rf {w : World} {g R : Nat} {out : Nat → Int} (h : RF w g R out) (hR : R ≤ 1000) (k : Int) :
    Calls Try.prog 52 #[.slice (some ⟨g, 0, none⟩) R R, .int .i64 k] w fun e w' => e = .returned (.int .i64 (Lib.idxOf ((List.range R).map out) k)) ∧ w' = w := by
  have h1 := Try.slices_Index_int g 0 R R ((List.range R).map out) k w (by simp) (by omega) (fun j hj => by
    simp at hj
    rw [Nat.zero_add, h.cell hj]
    simp [List.getD_eq_getElem?_getD, hj])
  rw [List.take_of_length_le (by simp)] at h1
  exact h1

set_option maxRecDepth 100000 in
set_option maxHeartbeats 1000000 in
theorem go_short (z : ST) (hz : z.Fine) : ∀ (f i : Nat) (s : Nat → Bool) (w : World), z.X i → uns z.R s < f → SS z s w →
    Calls Try.prog 53 #[.int .i64 (i : Int), .pointer (some ⟨z.gS, 0, none⟩), .pointer (some ⟨z.gM, 0, none⟩), .pointer (some ⟨z.gF, 0, none⟩), .pointer (some ⟨z.gW, 0, none⟩)] w (PSh z w (goS z.E (nxt z.out z.R) f i s)) := by
  have hu := Try.underlying55
  intro f
  induction f with
  | zero => intro i s w _ h _; omega
  | succ f ih =>
  intro i s w hxi hun hg
  have hC := hz.inc.2.1
  have hR := hz.inc.1
  obtain ⟨hi, hik⟩ := hz.cl i hxi
  obtain ⟨t, t1, ht64, hbS, htb⟩ := hg.cs
  have cS0 : w.cell? ⟨z.gS, 0, none⟩ = some (.int .u64 (t : Int)) := hbS.cell 0
  have cS1 : w.cell? ⟨z.gS, 1, none⟩ = some (.int .u64 (t1 : Int)) := hbS.cell 1
  by_cases hsi : s i = true
  · have htk : Hid (t.testBit i = true) := by show _ = _; rw [htb i (by omega), hsi]
    have hgo : goS z.E (nxt z.out z.R) (f + 1) i s = s := by unfold goS; rw [if_pos hsi]
    rw [hgo]
    have hP : Hid (∀ w', Below w.heap.size w w' → PSh z w s (.returned (.tuple #[])) w') := fun w' hb => ⟨rfl, hg.call hb, (Fr.refl _ _).call hb⟩
    clear hg hgo hsi htb ih hun
    go_enter Try.func53, Try.ntmps53
    go_wp2_with (first
      | (go_at_call 33; refine (m_has t t1 i _ (by omega) ht64).mono ?_; rintro e w2 ⟨rfl, hb2⟩; rw [htk.out]))
    exact bodyPost_ret (v := .tuple #[]) (by simp [results, Try.results53, go_sem]) rfl (hP.out _ hb2)
  · have hsi : s i = false := by simpa using hsi
    have htk : Hid (t.testBit i = false) := by show _ = _; rw [htb i (by omega), hsi]
    obtain ⟨gE, oE, l, A', n', c', hAE, hl, hcE, hl1⟩ := hg.en.cell hi
    have hEi : z.E.getD i [] = l := by rw [List.getD_eq_getElem?_getD, hl]; rfl
    have hgo : goS z.E (nxt z.out z.R) (f + 1) i s = goSL (goS z.E (nxt z.out z.R) f) (nxt z.out z.R) l (upd s i true) := by
      show (if s i = true then _ else _) = _
      rw [if_neg (by rw [hsi]; simp), hEi]
    rw [hgo]
    rw [hEi] at hik
    have hun2 : uns z.R (upd s i true) < f := by
      have := uns_lt (C := z.R) (s := s) (s' := upd s i true) (fun x hx => upd_true hx) hi hsi (upd_same _ _ _)
      omega
    have hun' := Lib.hid hun2
    have htb' := Lib.hid htb
    have ih' := Lib.hid ih
    have hsi' := Lib.hid hsi
    have hik' := Lib.hid hik
    have hlen := Lib.hid hl1.1
    have hln := hl1.2.1
    have hiR : (i : Int) < z.R := by omega
    clear hun hun2 htb ih hgo hsi hik hEi
    go_enter Try.func53, Try.ntmps53
    go_upto_region 2 with (first
      | (go_at_call 33; refine (m_has t t1 i _ (by omega) ht64).mono ?_; rintro e w2 ⟨rfl, hb2⟩; rw [htk.out]; have hg2 := hg.call hb2; have hbS2 := hbS.call hb2; have cS02 := hbS2.cell 0; have cS12 := hbS2.cell 1)
      | (go_at_call 34; refine (m_with t t1 i _ (by omega) ht64).mono ?_; rintro e w3 ⟨rfl, hb3⟩; have hg3 := hg2.call hb3; have hbS3 := hbS2.call hb3; have fS3 := hbS3.frozen 0; obtain ⟨cS3, cS4, fS4⟩ := wcell hbS3 (t ||| 2 ^ i)))
    obtain ⟨hg5, hf5⟩ := SS.mark hz hg3 (by omega : i < 64) ht64 hbS3 htb'.out
    have hf5 := (((Fr.refl [z.gS] w).call hb2).call hb3).trans hf5
    have hcE5 := (hf5.below hg.sz (by have := hz.b; simp; omega)).cell (p := ⟨gE, oE + i, none⟩) (by
      rcases hg.en.2.2 with h0 | ⟨g, o, h0, h1, -⟩
      · omega
      · rw [hAE] at h0
        have e : gE = g := by simp at h0; exact h0.1
        show gE < z.B
        omega)
    rw [hcE] at hcE5
    obtain ⟨w5, hw5⟩ : ∃ w5, w5 = (w3.setCell ⟨z.gS, 0, none⟩ (.int .u64 ((t ||| 2 ^ i : Nat) : Int))).setCell ⟨z.gS, 1, none⟩ (.int .u64 (t1 : Int)) := ⟨_, rfl⟩
    rw [← hw5] at hg5 hf5 hcE5 ⊢
    clear hw5 fS3 cS3 cS4 fS4 cS02 cS12 hbS2 hbS3 hg2 hg3 hbS cS0 cS1
    have hM2 : w5.cell? ⟨z.gM, 2, none⟩ = some (.slice z.AE z.R z.cE) := hg5.bM.cell 2
    rw [hAE] at hM2
    have hT : S1 z f l (upd s i true) w 0 w5 := ⟨upd s i true, rfl, hun'.out, hg5, hf5⟩
    have hl1' := Lib.hid hl1
    have hg' := Lib.hid hg
    clear hg hg5 hf5
    go_wp2_with fail
    go_loopw [20] (fun v20 wr => ∃ j : Nat, j ≤ n' ∧ v20 = .int .i64 j ∧ S1 z f l (upd s i true) w j wr) (fun i _ => n' - (intOf i).toNat)
    case atStart => exact ⟨0, by omega, rfl, hT⟩
    case round =>
      clear hT hM2 hcE5
      obtain ⟨j, hj, rfl, s1, he, hun1, hg1, hf1⟩ := hrel
      by_cases hjl : j < n'
      · obtain ⟨gl, ol, k, hA', hk, hck⟩ := (hl1'.out.below (hf1.below hg'.out.sz (by have := hz.b; simp; omega))).cell hjl
        subst hA'
        have hd : l.drop j = k :: l.drop (j + 1) := by
          have h1 := (List.getElem?_eq_some_iff.1 hk).1
          rw [List.drop_eq_getElem_cons h1]
          congr 1
          exact (List.getElem?_eq_some_iff.1 hk).2
        rw [hd, goSL] at he
        obtain ⟨hk0, hkX⟩ := hik'.out k (List.mem_of_getElem? hk)
        obtain ⟨x, hx⟩ : ∃ x : Nat, Lib.idxOf ((List.range z.R).map z.out) (k : Int) = (x : Int) := ⟨nxt z.out z.R k, by unfold nxt; omega⟩
        have hnx : nxt z.out z.R k = x := by unfold nxt; rw [hx]; rfl
        rw [hnx] at he hkX
        have hx' := Lib.hid hx
        have he' := Lib.hid he
        clear he hx hnx hk0 hd
        go_upto_region 5 with fail
        have hgd := hg1.drew
        have cF : wr.cell? ⟨z.gF, 0, none⟩ = some (.func (.func 53) #[] #[.pointer (some ⟨z.gS, 0, none⟩), .pointer (some ⟨z.gM, 0, none⟩), .pointer (some ⟨z.gF, 0, none⟩), .pointer (some ⟨z.gW, 0, none⟩)]) := hg1.bF.cell 0
        have cW := hg1.bW.cell 0
        have hS : (fun w' : World => w'.cell? ⟨z.gF, 0, none⟩ = some (.func (.func 53) #[] #[.pointer (some ⟨z.gS, 0, none⟩), .pointer (some ⟨z.gM, 0, none⟩), .pointer (some ⟨z.gF, 0, none⟩), .pointer (some ⟨z.gW, 0, none⟩)]) ∧ w'.cell? ⟨z.gW, 0, none⟩ = some (.slice (some ⟨z.gO, 0, none⟩) z.R z.R)) wr.drew := ⟨cF, cW⟩
        clear cF cW
        go_region_held3 (fun w' : World => w'.cell? ⟨z.gF, 0, none⟩ = some (.func (.func 53) #[] #[.pointer (some ⟨z.gS, 0, none⟩), .pointer (some ⟨z.gM, 0, none⟩), .pointer (some ⟨z.gF, 0, none⟩), .pointer (some ⟨z.gW, 0, none⟩)]) ∧ w'.cell? ⟨z.gW, 0, none⟩ = some (.slice (some ⟨z.gO, 0, none⟩) z.R z.R))
          (first | (with_reducible exact hS))
          (first
            | (go_at_call 52; refine (index_rf hgd.row (by omega) (k : Int)).mono ?_; rintro e w9 ⟨rfl, rfl⟩; rw [hx'.out])
            | (go_at_call 53; refine (ih'.out x s1 _ hkX hun1 hgd).mono ?_; rintro e w10 ⟨rfl, hg10, hf10⟩; clear hS; have hS : (fun w' : World => w'.cell? ⟨z.gF, 0, none⟩ = some (.func (.func 53) #[] #[.pointer (some ⟨z.gS, 0, none⟩), .pointer (some ⟨z.gM, 0, none⟩), .pointer (some ⟨z.gF, 0, none⟩), .pointer (some ⟨z.gW, 0, none⟩)]) ∧ w'.cell? ⟨z.gW, 0, none⟩ = some (.slice (some ⟨z.gO, 0, none⟩) z.R z.R)) w10 := ⟨hg10.bF.cell 0, hg10.bW.cell 0⟩))
        clear hS
        have hun2 : Hid (uns z.R (goS z.E (nxt z.out z.R) f x s1) < f) := by
          have h1 := uns_le (C := z.R) (goS_mono z.E (nxt z.out z.R) f x s1)
          show _ < _
          omega
        have hf11 := (hf1.drew).trans hf10
        go_wp2_with fail
        exact round_next hjl ⟨_, he'.out, hun2.out, hg10, hf11⟩
      · have hjl : l.length = j := by have := hlen.out; omega
        have hdn : l.drop j = [] := List.drop_eq_nil_of_le (by omega)
        rw [hdn, goSL] at he
        have hfin : PSh z w (goSL (goS z.E (nxt z.out z.R) f) (nxt z.out z.R) l (upd s i true)) (.returned (.tuple #[])) wr := by
          rw [he]
          exact ⟨rfl, hg1, hf1⟩
        have hfin' := Lib.hid hfin
        clear hfin he hg1 hf1
        go_wp2_with fail
        exact bodyPost_ret (v := .tuple #[]) (by simp [results, Try.results53, go_sem]) rfl hfin'.out

end Go.Proofs.Ytjbhnfejpgjghaa
