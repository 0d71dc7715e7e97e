/- The quotient of words: the guess of a word, and a word taken away: declarations of their own. -/
import Derived.Test.YtgoojlnfobjplaaZk6
import Derived.Test.YtgoojlnfobjplaaZr1
import Derived.Test.YtgoojlnfobjplaaZk8
namespace Go.Proofs.Ytgoojlnfobjplaa
open Go.RowKit
set_option linter.unusedSimpArgs false
set_option linter.unusedVariables false
attribute [local go_sem] qn30 qe30

def findBlock (n : Nat) : Code → Option Code
  | .block m c => if m = n then some (.block m c) else findBlock n c
  | .seq a b => match findBlock n a with
    | some c => some c
    | none => findBlock n b
  | .loop c => findBlock n c
  | .cond _ a b => match findBlock n a with
    | some c => some c
    | none => findBlock n b
  | _ => none

def afterBlock (n : Nat) : Code → Option Code
  | .block _ c => afterBlock n c
  | .seq (.block m c) b => if m = n then some b else match afterBlock n c with
    | some d => some d
    | none => afterBlock n b
  | .seq a b => match afterBlock n a with
    | some c => some c
    | none => afterBlock n b
  | .loop c => afterBlock n c
  | .cond _ a b => match afterBlock n a with
    | some c => some c
    | none => afterBlock n b
  | _ => none

noncomputable def guessCode : Code := (Try.f81.body.bind (findBlock 8)).getD .skip
noncomputable def takeCode : Code := (Try.f81.body.bind (afterBlock 8)).getD .skip

set_option maxRecDepth 1000000 in
set_option maxHeartbeats 40000000 in
theorem quo_guess (s0 s1 s2 s3 s4 s5 s6 s7 s8 s9 s10 s13 s14 s18 s21 s22 s23 s24 s25 s26 s27 s28 s29 s30 s31 s32 s33 s34 s35 s36 s37 s38 s39 s40 s41 s42 s43 s44 s45 s46 s47 s48 s49 s50 s51 s52 s53 s54 s55 s56 s57 s58 s59 s60 s61 s62 s63 s64 s65 s66 s67 s68 s69 s70 s71 s72 s73 s74 s75 s76 s77 s78 s79 s80 s81 s82 s83 s84 s85 s86 s87 s88 s89 s90 s91 s92 s93 s94 s95 s96 s97 s98 s99 s100 s101 s102 s103 s104 s105 s106 s107 s108 s109 s110 s111 s112 s113 s114 s115 s116 s117 s118 s119 s120 s121 s122 s123 s124 s125 s126 s127 s128 s129 s130 s131 s132 s133 s134 s135 s136 s137 s138 s139 s140 s141 s142 s143 s144 s145 s146 s147 s148 s149 s150 s151 s152 s153 s154 s155 s156 s157 s158 s159 s160 s161 s162 s163 s164 s165 s166 s167 s168 s169 s170 s171 s172 s173 s174 s175 s176 s177 s178 s179 s180 s181 s182 s183 s184 s185 s186 s187 s188 s189 s190 s191 s192 s193 s194 s195 s196 s197 s198 s199 s200 s201 s202 s203 s204 s205 s206 s207 s208 s209 s210 s211 s212 s213 s214 s215 s216 s217 s218 s219 s220 s221 s222 s223 s224 s225 s226 s227 s228 s229 s230 s231 s232 s233 s234 s235 s236 s237 s238 s239 s240 s241 s242 s243 s244 s245 s246 s247 s248 s249 s250 s251 s252 s253 s254 s255 s256 s257 s258 s259 s260 s261 s262 s263 s264 s265 s266 s267 s268 s269 s270 s271 s272 s273 s274 s275 s276 s277 s278 s279 s280 s281 s282 s283 s284 s285 s286 s287 s288 s289 s290 s291 s292 s293 s294 s295 s296 s297 s298 s299 s300 s301 s302 s303 s304 s305 s306 s307 s308 s309 s310 s311 s312 s313 s314 s315 s316 s317 s318 s319 s320 s321 s322 s323 s324 s325 s326 s327 s328 s329 s330 s331 s332 s333 s334 s335 s336 s337 s338 s339 s340 s341 s342 s343 s344 s345 s346 s347 s348 s349 s350 s351 s352 s353 s354 s355 s356 s357 s358 s359 s360 s361 s362 s363 s364 s365 s366 s367 s368 s369 s370 s371 s372 s373 s374 s375 s376 s377 s378 s379 s380 s381 s382 s383 s384 s385 s386 s387 s388 s389 s390 s391 : Value) (Q : Exit → Act → World → Prop) (n m j g1 g2 g3 e tp v1 v2 u0 u2 q0 r0 : Nat) (ys U V O : List Nat) (w1 wr : World) (hn : n ≤ 300000) (hm : 2 ≤ m) (hmn : m ≤ n) (hkm : j + 1 ≤ n - m + 1) (hu2b : u2 < 4294967296) (hv1b : v1 < 4294967296) (hv2b : v2 < 4294967296) (hW : Hid (VW (val ys * e) (val (U.drop j)) tp u2 v1 v2)) (hu2h : Hid (U[j + m - 2]? = some u2)) (hv1h : Hid (V[m - 1]? = some v1)) (hv2h : Hid (V[m - 2]? = some v2)) (hq0b : q0 < 18446744073709551616) (hr0b : r0 < 4294967296) (hQ1 : Hid (Qh (val ys * e) (val (U.drop j)) tp v1 q0 r0)) (hRu : Rw wr g1 (n + 1) U) (hRv : Rw wr g2 m V) (hRo : Rw wr g3 (n - m + 1) O) (hb : Below g1 w1 wr) (hcont : Hid (∀ (q : Nat) (r20 r217 r218 r219 r220 r221 r222 r223 r224 r225 r226 r227 r228 r229 r230 r231 r232 r233 r234 r235 r236 r237 r238 r239 r240 r241 r242 r243 r244 r245 r246 r247 r248 r249 r250 r251 r252 : Value) (wc : World), Hid (GQ (val ys * e) (val (U.drop j)) q) → Rw wc g1 (n + 1) U → Rw wc g2 m V → Rw wc g3 (n - m + 1) O → Below g1 w1 wc → Q .normal { tmps := #[s0, s1, s2, s3, s4, s5, s6, s7, s8, s9, s10, .slice (some ⟨g1, 0, none⟩) (n + 1) (n + 1), .slice (some ⟨g2, 0, none⟩) m m, s13, s14, .int .i64 (m : Int), .slice (some ⟨g3, 0, none⟩) (n - m + 1) (n - m + 1), .int .i64 (j : Int), s18, .int .u64 (q : Int), r20, s21, s22, s23, s24, s25, s26, s27, s28, s29, s30, s31, s32, s33, s34, s35, s36, s37, s38, s39, s40, s41, s42, s43, s44, s45, s46, s47, s48, s49, s50, s51, s52, s53, s54, s55, s56, s57, s58, s59, s60, s61, s62, s63, s64, s65, s66, s67, s68, s69, s70, s71, s72, s73, s74, s75, s76, s77, s78, s79, s80, s81, s82, s83, s84, s85, s86, s87, s88, s89, s90, s91, s92, s93, s94, s95, s96, s97, s98, s99, s100, s101, s102, s103, s104, s105, s106, s107, s108, s109, s110, s111, s112, s113, s114, s115, s116, s117, s118, s119, s120, s121, s122, s123, s124, s125, s126, s127, s128, s129, s130, s131, s132, s133, s134, s135, s136, s137, s138, s139, s140, s141, s142, s143, s144, s145, s146, s147, s148, s149, s150, s151, s152, s153, s154, s155, s156, s157, s158, s159, s160, s161, s162, s163, s164, s165, s166, s167, s168, s169, s170, s171, s172, s173, s174, s175, s176, s177, s178, s179, s180, s181, s182, s183, s184, s185, s186, s187, s188, s189, s190, s191, s192, s193, s194, s195, s196, s197, s198, s199, s200, s201, s202, s203, s204, s205, s206, s207, s208, s209, s210, s211, s212, s213, s214, s215, s216, r217, r218, r219, r220, r221, r222, r223, r224, r225, r226, r227, r228, r229, r230, r231, r232, r233, r234, r235, r236, r237, r238, r239, r240, r241, r242, r243, r244, r245, r246, r247, r248, r249, r250, r251, r252, s253, s254, s255, s256, s257, s258, s259, s260, s261, s262, s263, s264, s265, s266, s267, s268, s269, s270, s271, s272, s273, s274, s275, s276, s277, s278, s279, s280, s281, s282, s283, s284, s285, s286, s287, s288, s289, s290, s291, s292, s293, s294, s295, s296, s297, s298, s299, s300, s301, s302, s303, s304, s305, s306, s307, s308, s309, s310, s311, s312, s313, s314, s315, s316, s317, s318, s319, s320, s321, s322, s323, s324, s325, s326, s327, s328, s329, s330, s331, s332, s333, s334, s335, s336, s337, s338, s339, s340, s341, s342, s343, s344, s345, s346, s347, s348, s349, s350, s351, s352, s353, s354, s355, s356, s357, s358, s359, s360, s361, s362, s363, s364, s365, s366, s367, s368, s369, s370, s371, s372, s373, s374, s375, s376, s377, s378, s379, s380, s381, s382, s383, s384, s385, s386, s387, s388, s389, s390, s391], defers := [] } wc)) :
    Code.wp Try.prog guessCode Q { tmps := #[s0, s1, s2, s3, s4, s5, s6, s7, s8, s9, s10, .slice (some ⟨g1, 0, none⟩) (n + 1) (n + 1), .slice (some ⟨g2, 0, none⟩) m m, s13, s14, .int .i64 (m : Int), .slice (some ⟨g3, 0, none⟩) (n - m + 1) (n - m + 1), .int .i64 (j : Int), s18, .int .u64 (q0 : Int), .int .u64 (r0 : Int), s21, s22, s23, s24, s25, s26, s27, s28, s29, s30, s31, s32, s33, s34, s35, s36, s37, s38, s39, s40, s41, s42, s43, s44, s45, s46, s47, s48, s49, s50, s51, s52, s53, s54, s55, s56, s57, s58, s59, s60, s61, s62, s63, s64, s65, s66, s67, s68, s69, s70, s71, s72, s73, s74, s75, s76, s77, s78, s79, s80, s81, s82, s83, s84, s85, s86, s87, s88, s89, s90, s91, s92, s93, s94, s95, s96, s97, s98, s99, s100, s101, s102, s103, s104, s105, s106, s107, s108, s109, s110, s111, s112, s113, s114, s115, s116, s117, s118, s119, s120, s121, s122, s123, s124, s125, s126, s127, s128, s129, s130, s131, s132, s133, s134, s135, s136, s137, s138, s139, s140, s141, s142, s143, s144, s145, s146, s147, s148, s149, s150, s151, s152, s153, s154, s155, s156, s157, s158, s159, s160, s161, s162, s163, s164, s165, s166, s167, s168, s169, s170, s171, s172, s173, s174, s175, s176, s177, s178, s179, s180, s181, s182, s183, s184, s185, s186, s187, s188, s189, s190, s191, s192, s193, s194, s195, s196, s197, s198, s199, s200, s201, s202, s203, s204, s205, s206, s207, s208, s209, s210, s211, s212, s213, s214, s215, s216, s217, s218, s219, s220, s221, s222, s223, s224, s225, s226, s227, s228, s229, s230, s231, s232, s233, s234, s235, s236, s237, s238, s239, s240, s241, s242, s243, s244, s245, s246, s247, s248, s249, s250, s251, s252, s253, s254, s255, s256, s257, s258, s259, s260, s261, s262, s263, s264, s265, s266, s267, s268, s269, s270, s271, s272, s273, s274, s275, s276, s277, s278, s279, s280, s281, s282, s283, s284, s285, s286, s287, s288, s289, s290, s291, s292, s293, s294, s295, s296, s297, s298, s299, s300, s301, s302, s303, s304, s305, s306, s307, s308, s309, s310, s311, s312, s313, s314, s315, s316, s317, s318, s319, s320, s321, s322, s323, s324, s325, s326, s327, s328, s329, s330, s331, s332, s333, s334, s335, s336, s337, s338, s339, s340, s341, s342, s343, s344, s345, s346, s347, s348, s349, s350, s351, s352, s353, s354, s355, s356, s357, s358, s359, s360, s361, s362, s363, s364, s365, s366, s367, s368, s369, s370, s371, s372, s373, s374, s375, s376, s377, s378, s379, s380, s381, s382, s383, s384, s385, s386, s387, s388, s389, s390, s391], defers := [] } wr := by
  conv => arg 2; whnf
  go_wp2_with fail
  go_loopw [19, 20] (fun v19 v20 wq => ∃ q r : Nat, v19 = .int .u64 q ∧ v20 = .int .u64 r ∧ q < 18446744073709551616 ∧ r < 4294967296 ∧ Hid (Qh (val ys * e) (val (U.drop j)) tp v1 q r) ∧ Rw wq g1 (n + 1) U ∧ Rw wq g2 m V ∧ Rw wq g3 (n - m + 1) O ∧ Below g1 w1 wq) (fun i _ _ => (intOf i).toNat)
  case atStart => exact ⟨q0, r0, rfl, rfl, hq0b, hr0b, hQ1, hRu, hRv, hRo, hb⟩
  case round =>
    clear hRu hRv hRo hb hQ1 hq0b hr0b
    obtain ⟨q, r, rfl, rfl, hqb, hrb, hQ1, hRu, hRv, hRo, hb⟩ := hrel
    obtain ⟨u2', hu2', -, hc2⟩ := hRu.cell (k := j + m - 2) (by omega)
    obtain rfl : u2 = u2' := by have h := hu2h.out; rw [hu2'] at h; injection h with h; exact h.symm
    obtain ⟨v1', hv1', -, hd1⟩ := hRv.cell (k := m - 1) (by omega)
    obtain rfl : v1 = v1' := by have h := hv1h.out; rw [hv1'] at h; injection h with h; exact h.symm
    obtain ⟨v2', hv2', -, hd2⟩ := hRv.cell (k := m - 2) (by omega)
    obtain rfl : v2 = v2' := by have h := hv2h.out; rw [hv2'] at h; injection h with h; exact h.symm
    clear hu2' hv1' hv2'
    by_cases hqB : 4294967296 ≤ q
    · have hg : (4294967296 : Int) ≤ (q : Int) := by omega
      have hqB' := Lib.hid hqB
      have hq0 : 0 < q := by omega
      clear hqB
      go_upto_region 38 with (fail)
      go_quiet (fail)
      obtain ⟨p, hqp⟩ : ∃ p, q = p + 1 := ⟨q - 1, by omega⟩
      have hQ2 : Hid (Qh (val ys * e) (val (U.drop j)) tp v1 p (r + v1)) := by have h := hW.out.dec1 hQ1.out hqB'.out; rwa [hqp, Nat.add_sub_cancel] at h
      have hqm : (q : Int) - 1 = (p : Int) := by omega
      have hpb : p < 18446744073709551616 := by omega
      have hqp := Lib.hid hqp
      clear hQ1
      by_cases hbr : 4294967296 ≤ r + v1
      · have hbi : (4294967296 : Int) ≤ (r : Int) + (v1 : Int) := by omega
        have hbr' := Lib.hid hbr
        clear hbr
        go_wp2_with fail
        exact hcont.out p _ _ _ _ _ _ _ _ _ _ _ _ _ _ _ _ _ _ _ _ _ _ _ _ _ _ _ _ _ _ _ _ _ _ _ _ _ _ (hW.out.brk hQ2.out hbr'.out) hRu hRv hRo (bdN hb _)
      · have hbi : ¬ (4294967296 : Int) ≤ (r : Int) + (v1 : Int) := by omega
        have hbr' := Lib.hid hbr
        clear hbr
        go_wp2_with fail
        go_roundw
        case rel => exact ⟨p, r + v1, rfl, by go_num, by omega, by have := hbr'.out; omega, hQ2, hRu, hRv, hRo, bdN hb _⟩
        case measure => have := hqp.out; simp [intOf] <;> omega
    · have hg : decide ((4294967296 : Int) ≤ (q : Int)) = false := by simp; omega
      have hor := or_shl hrb hu2b
      obtain ⟨hor3, hor4⟩ := hor
      have hqvb : q * v2 < 18446744073709551616 := by
        have h := Nat.mul_le_mul (show q ≤ 4294967295 by omega) (show v2 ≤ 4294967295 by omega)
        omega
      have hqv : (q : Int) * (v2 : Int) = ((q * v2 : Nat) : Int) := by rw [Int.natCast_mul]
      obtain ⟨rl, hrl'⟩ : ∃ rl, rl = r * 4294967296 + u2 := ⟨_, rfl⟩
      obtain ⟨qv, hqv'⟩ : ∃ qv, qv = q * v2 := ⟨_, rfl⟩
      rw [← hrl'] at hor3 hor4
      rw [← hqv'] at hqv hqvb
      have hrl := Lib.hid hrl'
      have hqvh := Lib.hid hqv'
      clear hrl' hqv'
      by_cases hc : rl < qv
      · have hci : (rl : Int) < (qv : Int) := by omega
        have hc' := Lib.hid hc
        have hq0 : 0 < q := by
          rcases Nat.eq_zero_or_pos q with h0 | h0
          · have h1 := hqvh.out
            rw [h0, Nat.zero_mul] at h1
            omega
          · exact h0
        clear hc
        go_upto_region 38 with (fail)
        go_quiet (fail)
        obtain ⟨p, hqp⟩ : ∃ p, q = p + 1 := ⟨q - 1, by omega⟩
        have hQ2 : Hid (Qh (val ys * e) (val (U.drop j)) tp v1 p (r + v1)) := by have h := hW.out.dec2 hQ1.out (by have h1 := hrl.out; have h2 := hqvh.out; have h3 := hc'.out; omega); rwa [hqp, Nat.add_sub_cancel] at h
        have hqm : (q : Int) - 1 = (p : Int) := by omega
        have hpb : p < 18446744073709551616 := by omega
        have hqp := Lib.hid hqp
        clear hQ1
        by_cases hbr : 4294967296 ≤ r + v1
        · have hbi : (4294967296 : Int) ≤ (r : Int) + (v1 : Int) := by omega
          have hbr' := Lib.hid hbr
          clear hbr
          go_wp2_with fail
          exact hcont.out p _ _ _ _ _ _ _ _ _ _ _ _ _ _ _ _ _ _ _ _ _ _ _ _ _ _ _ _ _ _ _ _ _ _ _ _ _ _ (hW.out.brk hQ2.out hbr'.out) hRu hRv hRo (bdN hb _)
        · have hbi : ¬ (4294967296 : Int) ≤ (r : Int) + (v1 : Int) := by omega
          have hbr' := Lib.hid hbr
          clear hbr
          go_wp2_with fail
          go_roundw
          case rel => exact ⟨p, r + v1, rfl, by go_num, by omega, by have := hbr'.out; omega, hQ2, hRu, hRv, hRo, bdN hb _⟩
          case measure => have := hqp.out; simp [intOf] <;> omega
      · have hci : decide ((rl : Int) < (qv : Int)) = false := by simp; omega
        go_upto_region 38 with (fail)
        go_quiet (fail)
        go_wp2_with fail
        exact hcont.out q _ _ _ _ _ _ _ _ _ _ _ _ _ _ _ _ _ _ _ _ _ _ _ _ _ _ _ _ _ _ _ _ _ _ _ _ _ _ (hW.out.exit hQ1.out (by omega) (by have h1 := hrl.out; have h2 := hqvh.out; omega)) hRu hRv hRo (bdN hb _)

set_option maxRecDepth 1000000 in
set_option maxHeartbeats 40000000 in
theorem quo_take (s0 s1 s2 s3 s4 s5 s6 s7 s8 s9 s10 s13 s14 s18 s20 s21 s22 s23 s24 s25 s26 s27 s28 s29 s30 s31 s32 s33 s34 s35 s36 s37 s38 s39 s40 s41 s42 s43 s44 s45 s46 s47 s48 s49 s50 s51 s52 s53 s54 s55 s56 s57 s58 s59 s60 s61 s62 s63 s64 s65 s66 s67 s68 s69 s70 s71 s72 s73 s74 s75 s76 s77 s78 s79 s80 s81 s82 s83 s84 s85 s86 s87 s88 s89 s90 s91 s92 s93 s94 s95 s96 s97 s98 s99 s100 s101 s102 s103 s104 s105 s106 s107 s108 s109 s110 s111 s112 s113 s114 s115 s116 s117 s118 s119 s120 s121 s122 s123 s124 s125 s126 s127 s128 s129 s130 s131 s132 s133 s134 s135 s136 s137 s138 s139 s140 s141 s142 s143 s144 s145 s146 s147 s148 s149 s150 s151 s152 s153 s154 s155 s156 s157 s158 s159 s160 s161 s162 s163 s164 s165 s166 s167 s168 s169 s170 s171 s172 s173 s174 s175 s176 s177 s178 s179 s180 s181 s182 s183 s184 s185 s186 s187 s188 s189 s190 s191 s192 s193 s194 s195 s196 s197 s198 s199 s200 s201 s202 s203 s204 s205 s206 s207 s208 s209 s210 s211 s212 s213 s214 s215 s216 s217 s218 s219 s220 s221 s222 s223 s224 s225 s226 s227 s228 s229 s230 s231 s232 s233 s234 s235 s236 s237 s238 s239 s240 s241 s242 s243 s244 s245 s246 s247 s248 s249 s250 s251 s252 s253 s254 s255 s256 s257 s258 s259 s260 s261 s262 s263 s264 s265 s266 s267 s268 s269 s270 s271 s272 s273 s274 s275 s276 s277 s278 s279 s280 s281 s282 s283 s284 s285 s286 s287 s288 s289 s290 s291 s292 s293 s294 s295 s296 s297 s298 s299 s300 s301 s302 s303 s304 s305 s306 s307 s308 s309 s310 s311 s312 s313 s314 s315 s316 s317 s318 s319 s320 s321 s322 s323 s324 s325 s326 s327 s328 s329 s330 s331 s332 s333 s334 s335 s336 s337 s338 s339 s340 s341 s342 s343 s344 s345 s346 s347 s348 s349 s350 s351 s352 s353 s354 s355 s356 s357 s358 s359 s360 s361 s362 s363 s364 s365 s366 s367 s368 s369 s370 s371 s372 s373 s374 s375 s376 s377 s378 s379 s380 s381 s382 s383 s384 s385 s386 s387 s388 s389 s390 s391 : Value) (Q : Exit → Act → World → Prop) (n m j g1 g2 g3 e q : Nat) (xs ys U V O : List Nat) (w1 wc : World) (hn : n ≤ 300000) (hm : 2 ≤ m) (hmn : m ≤ n) (hkm : j + 1 ≤ n - m + 1) (hne2 : g2 ≠ g1) (hne7 : g1 ≠ g3) (hne8 : g3 ≠ g1) (hne9 : g2 ≠ g3) (hl1 : g1 < g3) (hpos : Hid (0 < val ys * e)) (hvV : Hid (val V = val ys * e)) (hQ : Hid (QS (val xs * e) (val ys * e) (j + 1) U O)) (hGQ : Hid (GQ (val ys * e) (val (U.drop j)) q)) (hRu : Rw wc g1 (n + 1) U) (hRv : Rw wc g2 m V) (hRo : Rw wc g3 (n - m + 1) O) (hb : Below g1 w1 wc) (hcont : Hid (∀ (r19 r21 r22 r23 r24 r25 r26 r27 r28 r29 r253 r254 r255 r256 r257 r258 r259 r260 r261 r262 r263 r264 r265 r266 r267 r268 r269 r270 r271 r272 r273 r274 r275 r276 r277 r278 r279 r280 r281 r282 r283 r284 r285 r286 r287 r288 r289 r290 r291 r292 r293 r294 r295 r296 r297 r298 r299 r300 r301 r302 r303 r304 r305 r306 r307 r308 r309 r310 r311 r312 r313 r314 r315 r316 r317 r318 r319 r320 r321 r322 r323 r324 r325 r326 r327 r328 r329 r330 r331 r332 r333 r334 r335 r336 r337 r338 r339 r340 r341 r342 r343 r344 r345 r346 r347 r348 r349 r350 r351 r352 r353 r354 r355 r356 r357 : Value) (U' O' : List Nat) (w' : World), Rw w' g1 (n + 1) U' → Rw w' g2 m V → Rw w' g3 (n - m + 1) O' → Hid (QS (val xs * e) (val ys * e) j U' O') → Below g1 w1 w' → Q .normal { tmps := #[s0, s1, s2, s3, s4, s5, s6, s7, s8, s9, s10, .slice (some ⟨g1, 0, none⟩) (n + 1) (n + 1), .slice (some ⟨g2, 0, none⟩) m m, s13, s14, .int .i64 (m : Int), .slice (some ⟨g3, 0, none⟩) (n - m + 1) (n - m + 1), .int .i64 (j : Int), s18, r19, s20, r21, r22, r23, r24, r25, r26, r27, r28, r29, s30, s31, s32, s33, s34, s35, s36, s37, s38, s39, s40, s41, s42, s43, s44, s45, s46, s47, s48, s49, s50, s51, s52, s53, s54, s55, s56, s57, s58, s59, s60, s61, s62, s63, s64, s65, s66, s67, s68, s69, s70, s71, s72, s73, s74, s75, s76, s77, s78, s79, s80, s81, s82, s83, s84, s85, s86, s87, s88, s89, s90, s91, s92, s93, s94, s95, s96, s97, s98, s99, s100, s101, s102, s103, s104, s105, s106, s107, s108, s109, s110, s111, s112, s113, s114, s115, s116, s117, s118, s119, s120, s121, s122, s123, s124, s125, s126, s127, s128, s129, s130, s131, s132, s133, s134, s135, s136, s137, s138, s139, s140, s141, s142, s143, s144, s145, s146, s147, s148, s149, s150, s151, s152, s153, s154, s155, s156, s157, s158, s159, s160, s161, s162, s163, s164, s165, s166, s167, s168, s169, s170, s171, s172, s173, s174, s175, s176, s177, s178, s179, s180, s181, s182, s183, s184, s185, s186, s187, s188, s189, s190, s191, s192, s193, s194, s195, s196, s197, s198, s199, s200, s201, s202, s203, s204, s205, s206, s207, s208, s209, s210, s211, s212, s213, s214, s215, s216, s217, s218, s219, s220, s221, s222, s223, s224, s225, s226, s227, s228, s229, s230, s231, s232, s233, s234, s235, s236, s237, s238, s239, s240, s241, s242, s243, s244, s245, s246, s247, s248, s249, s250, s251, s252, r253, r254, r255, r256, r257, r258, r259, r260, r261, r262, r263, r264, r265, r266, r267, r268, r269, r270, r271, r272, r273, r274, r275, r276, r277, r278, r279, r280, r281, r282, r283, r284, r285, r286, r287, r288, r289, r290, r291, r292, r293, r294, r295, r296, r297, r298, r299, r300, r301, r302, r303, r304, r305, r306, r307, r308, r309, r310, r311, r312, r313, r314, r315, r316, r317, r318, r319, r320, r321, r322, r323, r324, r325, r326, r327, r328, r329, r330, r331, r332, r333, r334, r335, r336, r337, r338, r339, r340, r341, r342, r343, r344, r345, r346, r347, r348, r349, r350, r351, r352, r353, r354, r355, r356, r357, s358, s359, s360, s361, s362, s363, s364, s365, s366, s367, s368, s369, s370, s371, s372, s373, s374, s375, s376, s377, s378, s379, s380, s381, s382, s383, s384, s385, s386, s387, s388, s389, s390, s391], defers := [] } w')) :
    Code.wp Try.prog takeCode Q { tmps := #[s0, s1, s2, s3, s4, s5, s6, s7, s8, s9, s10, .slice (some ⟨g1, 0, none⟩) (n + 1) (n + 1), .slice (some ⟨g2, 0, none⟩) m m, s13, s14, .int .i64 (m : Int), .slice (some ⟨g3, 0, none⟩) (n - m + 1) (n - m + 1), .int .i64 (j : Int), s18, .int .u64 (q : Int), s20, s21, s22, s23, s24, s25, s26, s27, s28, s29, s30, s31, s32, s33, s34, s35, s36, s37, s38, s39, s40, s41, s42, s43, s44, s45, s46, s47, s48, s49, s50, s51, s52, s53, s54, s55, s56, s57, s58, s59, s60, s61, s62, s63, s64, s65, s66, s67, s68, s69, s70, s71, s72, s73, s74, s75, s76, s77, s78, s79, s80, s81, s82, s83, s84, s85, s86, s87, s88, s89, s90, s91, s92, s93, s94, s95, s96, s97, s98, s99, s100, s101, s102, s103, s104, s105, s106, s107, s108, s109, s110, s111, s112, s113, s114, s115, s116, s117, s118, s119, s120, s121, s122, s123, s124, s125, s126, s127, s128, s129, s130, s131, s132, s133, s134, s135, s136, s137, s138, s139, s140, s141, s142, s143, s144, s145, s146, s147, s148, s149, s150, s151, s152, s153, s154, s155, s156, s157, s158, s159, s160, s161, s162, s163, s164, s165, s166, s167, s168, s169, s170, s171, s172, s173, s174, s175, s176, s177, s178, s179, s180, s181, s182, s183, s184, s185, s186, s187, s188, s189, s190, s191, s192, s193, s194, s195, s196, s197, s198, s199, s200, s201, s202, s203, s204, s205, s206, s207, s208, s209, s210, s211, s212, s213, s214, s215, s216, s217, s218, s219, s220, s221, s222, s223, s224, s225, s226, s227, s228, s229, s230, s231, s232, s233, s234, s235, s236, s237, s238, s239, s240, s241, s242, s243, s244, s245, s246, s247, s248, s249, s250, s251, s252, s253, s254, s255, s256, s257, s258, s259, s260, s261, s262, s263, s264, s265, s266, s267, s268, s269, s270, s271, s272, s273, s274, s275, s276, s277, s278, s279, s280, s281, s282, s283, s284, s285, s286, s287, s288, s289, s290, s291, s292, s293, s294, s295, s296, s297, s298, s299, s300, s301, s302, s303, s304, s305, s306, s307, s308, s309, s310, s311, s312, s313, s314, s315, s316, s317, s318, s319, s320, s321, s322, s323, s324, s325, s326, s327, s328, s329, s330, s331, s332, s333, s334, s335, s336, s337, s338, s339, s340, s341, s342, s343, s344, s345, s346, s347, s348, s349, s350, s351, s352, s353, s354, s355, s356, s357, s358, s359, s360, s361, s362, s363, s364, s365, s366, s367, s368, s369, s370, s371, s372, s373, s374, s375, s376, s377, s378, s379, s380, s381, s382, s383, s384, s385, s386, s387, s388, s389, s390, s391], defers := [] } wc := by
  conv => arg 2; whnf
  have hqb : q < 4294967296 := hGQ.out.2.2
  have hU0 := Lib.hid hRu.2
  have hUl := Lib.hid hRu.len
  have hOl := Lib.hid hRo.len
  go_wp2_with fail
  go_loopw [21, 22, 254] (fun v21 v22 v254 wq => ∃ (i bw cy : Nat) (L : List Nat), i ≤ m ∧ bw ≤ 1 ∧ cy < 4294967296 ∧ v21 = .int .i64 bw ∧ v22 = .int .u64 cy ∧ v254 = .int .i64 i ∧ Rw wq g1 (n + 1) L ∧ Rw wq g2 m V ∧ Rw wq g3 (n - m + 1) O ∧ Hid (MS U L j q V i bw cy) ∧ Below g1 w1 wq) (fun _ _ i _ => m - (intOf i).toNat)
  case atStart => exact ⟨0, 0, 0, U, by omega, by omega, by omega, rfl, rfl, rfl, hRu, hRv, hRo, MS.start _ _ _ _, hb⟩
  case round =>
    clear hRu hRv hRo hb
    obtain ⟨i, bw, cy, L, him, hbw, hcy, rfl, rfl, rfl, hRu, hRv, hRo, hMS, hb⟩ := hrel
    by_cases hlt : i < m
    · obtain ⟨u, hu, hub, hcu⟩ := hRu.cell (k := i + j) (by omega)
      obtain ⟨v, hv, hvb, hcv⟩ := hRv.cell hlt
      have hfr := hRu.frozen (i + j)
      have hqvb : q * v ≤ 18446744065119617025 := Nat.mul_le_mul (show q ≤ 4294967295 by omega) (show v ≤ 4294967295 by omega)
      have hqv : (q : Int) * (v : Int) = ((q * v : Nat) : Int) := by rw [Int.natCast_mul]
      have hst : ∀ t bw', t + bw + (q * v + cy) % 4294967296 = u + 4294967296 * bw' → Hid (MS U (L.set (j + i) t) j q V (i + 1) bw' ((q * v + cy) / 4294967296)) := fun t bw' ht => hMS.out.step (by rw [Nat.add_comm]; exact hu) hv ht
      obtain ⟨qv, hqv'⟩ : ∃ qv, qv = q * v := ⟨_, rfl⟩
      rw [← hqv'] at hqv hqvb hst
      obtain ⟨pp, hpp'⟩ : ∃ pp, pp = qv + cy := ⟨_, rfl⟩
      obtain ⟨pm, hpm'⟩ : ∃ pm, pm = pp % 4294967296 := ⟨_, rfl⟩
      obtain ⟨pd, hpd'⟩ : ∃ pd, pd = pp / 4294967296 := ⟨_, rfl⟩
      rw [← hpp', ← hpm', ← hpd', Nat.add_comm j i] at hst
      have hpp : (qv : Int) + (cy : Int) = (pp : Int) := by omega
      have hppb : pp < 18446744073709551616 := by omega
      have hpm : (pp : Int) % 4294967296 = (pm : Int) := by omega
      have hpd : (pp : Int) / 4294967296 = (pd : Int) := by omega
      have hpmb : pm < 4294967296 := by omega
      have hpdb : pd < 4294967296 := by omega
      have hst := Lib.hid hst
      clear hpp' hpm' hpd' hqv' hu hv hMS
      by_cases hd : u < bw + pm
      · have hdi : (u : Int) - (bw : Int) - (pm : Int) < 0 := by omega
        go_wp2_with fail
        go_roundw
        case rel => exact ⟨i + 1, 1, pd, L.set (i + j) (u + 4294967296 - bw - pm), by omega, by omega, hpdb, rfl, rfl, by go_num, hRu.set (i + j) _ (by omega) (by omega), hRv.other hRu hne2 _ _, hRo.other hRu hne8 _ _, hst.out _ _ (by omega), hb.setCell (Nat.le_refl _) _⟩
        case measure => simp [intOf] <;> omega
      · have hdi : ¬ (u : Int) - (bw : Int) - (pm : Int) < 0 := by omega
        go_wp2_with fail
        go_roundw
        case rel => exact ⟨i + 1, 0, pd, L.set (i + j) (u - bw - pm), by omega, by omega, hpdb, rfl, rfl, by go_num, hRu.set (i + j) _ (by omega) (by omega), hRv.other hRu hne2 _ _, hRo.other hRu hne8 _ _, hst.out _ _ (by omega), hb.setCell (Nat.le_refl _) _⟩
        case measure => simp [intOf] <;> omega
    · have : m = i := by omega
      subst this
      obtain ⟨u, hu, hub, hcu⟩ := hRu.cell (k := j + m) (by omega)
      have hfr := hRu.frozen (j + m)
      have hfo := hRo.frozen j
      obtain ⟨o, ho, hob, hco⟩ := hRo.cell (k := j) (by omega)
      have hfin : ∀ t bw', t + bw + cy = u + 4294967296 * bw' → val (L.set (j + m) t) + 4294967296 ^ j * (q * (val ys * e)) = val U + 4294967296 ^ (j + m + 1) * bw' := fun t bw' ht => hMS.out.fin hRv.len hvV.out hu ht
      have hfin := Lib.hid hfin
      have hhi := Lib.hid hMS.out.2.2
      have hLl := Lib.hid hMS.out.2.1
      clear hu ho hMS
      by_cases hd : u < bw + cy
      · have hdi : (u : Int) - (bw : Int) - (cy : Int) < 0 := by omega
        have hL := Lib.hid (hfin.out (u + 4294967296 - bw - cy) 1 (by omega))
        have hh2 : Hid (∀ i, j + m + 1 ≤ i → (L.set (j + m) (u + 4294967296 - bw - cy))[i]? = U[i]?) := fun i hi => by rw [List.getElem?_set_ne (by omega)]; exact hhi.out i (by omega)
        have hLb : Hid (Bd (L.set (j + m) (u + 4294967296 - bw - cy))) := Bd_set hRu.2 (by omega)
        have hq0 : 0 < q := MS.qpos hQ.out hRv.2 hLb.out (by rw [hUl.out]; omega) hvV.out hRv.len hL.out hh2.out
        obtain ⟨p, hqp⟩ : ∃ p, q = p + 1 := ⟨q - 1, by omega⟩
        have hqm : (q : Int) - 1 = (p : Int) := by omega
        have hpb : p < 4294967296 := by omega
        have hqp := Lib.hid hqp
        clear hfin hco hfo
        go_wp2_with fail
        go_loopw [27, 315] (fun v27 v315 wq => ∃ (i c : Nat) (M : List Nat), i ≤ m ∧ c ≤ 1 ∧ v27 = .int .u64 c ∧ v315 = .int .i64 i ∧ Rw wq g1 (n + 1) M ∧ Rw wq g2 m V ∧ Rw wq g3 (n - m + 1) O ∧ Hid (AB (L.set (j + m) (u + 4294967296 - bw - cy)) M j V i c) ∧ Below g1 w1 wq) (fun _ i _ => m - (intOf i).toNat)
        case atStart => exact ⟨0, 0, L.set (j + m) (u + 4294967296 - bw - cy), by omega, by omega, rfl, rfl, hRu.set (j + m) _ (by omega) (by omega), hRv.other hRu hne2 _ _, hRo.other hRu hne8 _ _, AB.start _ _ _, hb.setCell (Nat.le_refl _) _⟩
        case round =>
          clear hRu hRv hRo hb hcu hfr
          obtain ⟨i, c, M, him, hc1, rfl, rfl, hRu, hRv, hRo, hAB, hb⟩ := hrel
          by_cases hlt : i < m
          · obtain ⟨y, hy, hyb, hcy'⟩ := hRu.cell (k := i + j) (by omega)
            obtain ⟨v, hv, hvb, hcv⟩ := hRv.cell hlt
            have hfr := hRu.frozen (i + j)
            have hst := hAB.out.step (by rw [Nat.add_comm]; exact hy) hv
            obtain ⟨ss, hss'⟩ : ∃ ss, ss = y + v + c := ⟨_, rfl⟩
            rw [← hss', Nat.add_comm j i] at hst
            have hst := Lib.hid hst
            have hss : (y : Int) + (v : Int) + (c : Int) = (ss : Int) := by omega
            have hssb : ss < 8589934592 := by omega
            clear hss' hy hv hAB
            go_upto_region 62 with (fail)
            go_quiet (fail)
            go_wp2_with fail
            go_roundw
            case rel => exact ⟨i + 1, ss / 4294967296, M.set (i + j) (ss % 4294967296), by omega, by omega, by go_num, by go_num, hRu.set (i + j) _ (by omega) (by omega), hRv.other hRu hne2 _ _, hRo.other hRu hne8 _ _, hst.out, (bdN hb _).setCell (Nat.le_refl _) _⟩
            case measure => simp [intOf] <;> omega
          · have : m = i := by omega
            subst this
            obtain ⟨y, hy, hyb, hcy'⟩ := hRu.cell (k := j + m) (by omega)
            obtain ⟨o, ho, hob, hco⟩ := hRo.cell (k := j) (by omega)
            have hfr := hRu.frozen (j + m)
            have hfo := hRo.frozen j
            have hQn : Hid (QS (val xs * e) (val ys * e) j (M.set (j + m) ((y + c) % 4294967296)) (O.set j (q - 1))) := AB.done1 (c' := (y + c) / 4294967296) hQ.out hGQ.out hU0.out hRv.2 hLb.out (by rw [hUl.out]; omega) (by rw [hOl.out]; omega) hpos.out hvV.out hRv.len hL.out hh2.out hAB.out hy (by omega) (Bd_set hRu.2 (by omega))
            rw [show q - 1 = p by have := hqp.out; omega] at hQn
            clear hy ho hAB
            go_wp2_with fail
            exact hcont.out _ _ _ _ _ _ _ _ _ _ _ _ _ _ _ _ _ _ _ _ _ _ _ _ _ _ _ _ _ _ _ _ _ _ _ _ _ _ _ _ _ _ _ _ _ _ _ _ _ _ _ _ _ _ _ _ _ _ _ _ _ _ _ _ _ _ _ _ _ _ _ _ _ _ _ _ _ _ _ _ _ _ _ _ _ _ _ _ _ _ _ _ _ _ _ _ _ _ _ _ _ _ _ _ _ _ _ _ _ _ _ _ _ _ _ _ _ _ ((hRu.set (j + m) ((y + c) % 4294967296) (by omega) (by omega)).other (hRo.other hRu hne8 _ _) hne7 _ _) ((hRv.other hRu hne2 _ _).other (hRo.other hRu hne8 _ _) hne9 _ _) ((hRo.other hRu hne8 _ _).set j p hpb rfl) hQn ((hb.setCell (Nat.le_refl _) _).setCell (Nat.le_of_lt hl1) _)
      · have hdi : ¬ (u : Int) - (bw : Int) - (cy : Int) < 0 := by omega
        have hL := Lib.hid (hfin.out (u - bw - cy) 0 (by omega))
        have hQn : Hid (QS (val xs * e) (val ys * e) j (L.set (j + m) (u - bw - cy)) (O.set j q)) := MS.done0 hQ.out hGQ.out hU0.out (by rw [hUl.out]; omega) (by rw [hOl.out]; omega) hpos.out hL.out
        clear hfin hL
        go_wp2_with fail
        exact hcont.out _ _ _ _ _ _ _ _ _ _ _ _ _ _ _ _ _ _ _ _ _ _ _ _ _ _ _ _ _ _ _ _ _ _ _ _ _ _ _ _ _ _ _ _ _ _ _ _ _ _ _ _ _ _ _ _ _ _ _ _ _ _ _ _ _ _ _ _ _ _ _ _ _ _ _ _ _ _ _ _ _ _ _ _ _ _ _ _ _ _ _ _ _ _ _ _ _ _ _ _ _ _ _ _ _ _ _ _ _ _ _ _ _ _ _ _ _ _ ((hRu.set (j + m) (u - bw - cy) (by omega) (by omega)).other (hRo.other hRu hne8 _ _) hne7 _ _) ((hRv.other hRu hne2 _ _).other (hRo.other hRu hne8 _ _) hne9 _ _) ((hRo.other hRu hne8 _ _).set j q hqb rfl) hQn ((hb.setCell (Nat.le_refl _) _).setCell (Nat.le_of_lt hl1) _)

end Go.Proofs.Ytgoojlnfobjplaa