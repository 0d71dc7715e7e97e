/- Names: reserved words, letters, digits; what a simple name is. -/
import Derived.Test.YtgjmbmlmopomgaaMa
namespace Go.Proofs.Ytgjmbmlmopomgaa
open Go.RowKit
set_option linter.unusedSimpArgs false
set_option linter.unusedVariables false

/-- the words that are no names -/
def words : List (List UInt8) := [[109, 111, 100, 101, 108], [112, 111, 114, 116], [112, 97, 114, 116, 105, 97, 108], [101, 120, 116, 101, 110, 100, 115], [105, 110, 110, 101, 114], [111, 117, 116, 101, 114], [114, 101, 112, 108, 97, 99, 101, 97, 98, 108, 101], [102, 108, 111, 119], [112, 97, 114, 97, 109, 101, 116, 101, 114], [100, 105, 115, 99, 114, 101, 116, 101], [101, 113, 117, 97, 116, 105, 111, 110], [105, 110, 105, 116, 105, 97, 108], [99, 111, 110, 110, 101, 99, 116], [119, 104, 101, 110], [115, 101, 116], [101, 110, 100], [105, 110], [105, 115], [82, 101, 97, 108], [116, 105, 109, 101], [99, 108, 97, 115, 115], [99, 111, 110, 110, 101, 99, 116, 111, 114], [97, 98, 115, 116, 114, 97, 99, 116], [98, 97, 115, 101], [112, 97, 114, 97, 109], [115, 116, 97, 116, 101], [110, 117, 109, 98, 101, 114], [101, 113], [115, 116, 97, 114, 116], [119, 105, 114, 101], [111, 110], [112, 117, 116], [105, 102], [116, 104, 101, 110], [101, 108, 115, 101], [111, 114], [97, 110, 100], [110, 111, 116], [100, 101, 114], [112, 114, 101], [97, 98, 115], [109, 105, 110], [109, 97, 120]]
def resv (s : ByteArray) : Bool := words.contains s.toList

set_option maxRecDepth 100000 in
set_option maxHeartbeats 4000000 in
theorem m_reserved (s : ByteArray) (w : World) : Calls Try.prog 61 #[.string s] w fun e w' => e = .returned (.bool (resv s)) ∧ w' = w := by
  have hr : Hid (resv s = ((s.toList == [109, 111, 100, 101, 108]) || (s.toList == [112, 111, 114, 116]) || (s.toList == [112, 97, 114, 116, 105, 97, 108]) || (s.toList == [101, 120, 116, 101, 110, 100, 115]) || (s.toList == [105, 110, 110, 101, 114]) || (s.toList == [111, 117, 116, 101, 114]) || (s.toList == [114, 101, 112, 108, 97, 99, 101, 97, 98, 108, 101]) || (s.toList == [102, 108, 111, 119]) || (s.toList == [112, 97, 114, 97, 109, 101, 116, 101, 114]) || (s.toList == [100, 105, 115, 99, 114, 101, 116, 101]) || (s.toList == [101, 113, 117, 97, 116, 105, 111, 110]) || (s.toList == [105, 110, 105, 116, 105, 97, 108]) || (s.toList == [99, 111, 110, 110, 101, 99, 116]) || (s.toList == [119, 104, 101, 110]) || (s.toList == [115, 101, 116]) || (s.toList == [101, 110, 100]) || (s.toList == [105, 110]) || (s.toList == [105, 115]) || (s.toList == [82, 101, 97, 108]) || (s.toList == [116, 105, 109, 101]) || (s.toList == [99, 108, 97, 115, 115]) || (s.toList == [99, 111, 110, 110, 101, 99, 116, 111, 114]) || (s.toList == [97, 98, 115, 116, 114, 97, 99, 116]) || (s.toList == [98, 97, 115, 101]) || (s.toList == [112, 97, 114, 97, 109]) || (s.toList == [115, 116, 97, 116, 101]) || (s.toList == [110, 117, 109, 98, 101, 114]) || (s.toList == [101, 113]) || (s.toList == [115, 116, 97, 114, 116]) || (s.toList == [119, 105, 114, 101]) || (s.toList == [111, 110]) || (s.toList == [112, 117, 116]) || (s.toList == [105, 102]) || (s.toList == [116, 104, 101, 110]) || (s.toList == [101, 108, 115, 101]) || (s.toList == [111, 114]) || (s.toList == [97, 110, 100]) || (s.toList == [110, 111, 116]) || (s.toList == [100, 101, 114]) || (s.toList == [112, 114, 101]) || (s.toList == [97, 98, 115]) || (s.toList == [109, 105, 110]) || (s.toList == [109, 97, 120]))) := by
    show resv s = _
    unfold resv words
    simp only [List.contains_cons, List.contains_nil, Bool.or_false, Bool.or_assoc]
  go_enter Try.func61, Try.ntmps61
  go_upto_region 2 with fail
  cases h0 : (s.toList == [109, 111, 100, 101, 108]) with
  | true =>
    have he : Hid (resv s = true) := by show _ = _; rw [hr.out, h0]; simp
    clear hr
    go_wp2_with fail
    go_ret
    exact ⟨by rw [he.out]; rfl, rfl⟩
  | false =>
    go_upto_region 3 with fail
    cases h1 : (s.toList == [112, 111, 114, 116]) with
    | true =>
      have he : Hid (resv s = true) := by show _ = _; rw [hr.out, h0, h1]; simp
      clear hr
      go_wp2_with fail
      go_ret
      exact ⟨by rw [he.out]; rfl, rfl⟩
    | false =>
      go_upto_region 4 with fail
      cases h2 : (s.toList == [112, 97, 114, 116, 105, 97, 108]) with
      | true =>
        have he : Hid (resv s = true) := by show _ = _; rw [hr.out, h0, h1, h2]; simp
        clear hr
        go_wp2_with fail
        go_ret
        exact ⟨by rw [he.out]; rfl, rfl⟩
      | false =>
        go_upto_region 5 with fail
        cases h3 : (s.toList == [101, 120, 116, 101, 110, 100, 115]) with
        | true =>
          have he : Hid (resv s = true) := by show _ = _; rw [hr.out, h0, h1, h2, h3]; simp
          clear hr
          go_wp2_with fail
          go_ret
          exact ⟨by rw [he.out]; rfl, rfl⟩
        | false =>
          go_upto_region 6 with fail
          cases h4 : (s.toList == [105, 110, 110, 101, 114]) with
          | true =>
            have he : Hid (resv s = true) := by show _ = _; rw [hr.out, h0, h1, h2, h3, h4]; simp
            clear hr
            go_wp2_with fail
            go_ret
            exact ⟨by rw [he.out]; rfl, rfl⟩
          | false =>
            go_upto_region 7 with fail
            cases h5 : (s.toList == [111, 117, 116, 101, 114]) with
            | true =>
              have he : Hid (resv s = true) := by show _ = _; rw [hr.out, h0, h1, h2, h3, h4, h5]; simp
              clear hr
              go_wp2_with fail
              go_ret
              exact ⟨by rw [he.out]; rfl, rfl⟩
            | false =>
              go_upto_region 8 with fail
              cases h6 : (s.toList == [114, 101, 112, 108, 97, 99, 101, 97, 98, 108, 101]) with
              | true =>
                have he : Hid (resv s = true) := by show _ = _; rw [hr.out, h0, h1, h2, h3, h4, h5, h6]; simp
                clear hr
                go_wp2_with fail
                go_ret
                exact ⟨by rw [he.out]; rfl, rfl⟩
              | false =>
                go_upto_region 9 with fail
                cases h7 : (s.toList == [102, 108, 111, 119]) with
                | true =>
                  have he : Hid (resv s = true) := by show _ = _; rw [hr.out, h0, h1, h2, h3, h4, h5, h6, h7]; simp
                  clear hr
                  go_wp2_with fail
                  go_ret
                  exact ⟨by rw [he.out]; rfl, rfl⟩
                | false =>
                  go_upto_region 10 with fail
                  cases h8 : (s.toList == [112, 97, 114, 97, 109, 101, 116, 101, 114]) with
                  | true =>
                    have he : Hid (resv s = true) := by show _ = _; rw [hr.out, h0, h1, h2, h3, h4, h5, h6, h7, h8]; simp
                    clear hr
                    go_wp2_with fail
                    go_ret
                    exact ⟨by rw [he.out]; rfl, rfl⟩
                  | false =>
                    go_upto_region 11 with fail
                    cases h9 : (s.toList == [100, 105, 115, 99, 114, 101, 116, 101]) with
                    | true =>
                      have he : Hid (resv s = true) := by show _ = _; rw [hr.out, h0, h1, h2, h3, h4, h5, h6, h7, h8, h9]; simp
                      clear hr
                      go_wp2_with fail
                      go_ret
                      exact ⟨by rw [he.out]; rfl, rfl⟩
                    | false =>
                      go_upto_region 12 with fail
                      cases h10 : (s.toList == [101, 113, 117, 97, 116, 105, 111, 110]) with
                      | true =>
                        have he : Hid (resv s = true) := by show _ = _; rw [hr.out, h0, h1, h2, h3, h4, h5, h6, h7, h8, h9, h10]; simp
                        clear hr
                        go_wp2_with fail
                        go_ret
                        exact ⟨by rw [he.out]; rfl, rfl⟩
                      | false =>
                        go_upto_region 13 with fail
                        cases h11 : (s.toList == [105, 110, 105, 116, 105, 97, 108]) with
                        | true =>
                          have he : Hid (resv s = true) := by show _ = _; rw [hr.out, h0, h1, h2, h3, h4, h5, h6, h7, h8, h9, h10, h11]; simp
                          clear hr
                          go_wp2_with fail
                          go_ret
                          exact ⟨by rw [he.out]; rfl, rfl⟩
                        | false =>
                          go_upto_region 14 with fail
                          cases h12 : (s.toList == [99, 111, 110, 110, 101, 99, 116]) with
                          | true =>
                            have he : Hid (resv s = true) := by show _ = _; rw [hr.out, h0, h1, h2, h3, h4, h5, h6, h7, h8, h9, h10, h11, h12]; simp
                            clear hr
                            go_wp2_with fail
                            go_ret
                            exact ⟨by rw [he.out]; rfl, rfl⟩
                          | false =>
                            go_upto_region 15 with fail
                            cases h13 : (s.toList == [119, 104, 101, 110]) with
                            | true =>
                              have he : Hid (resv s = true) := by show _ = _; rw [hr.out, h0, h1, h2, h3, h4, h5, h6, h7, h8, h9, h10, h11, h12, h13]; simp
                              clear hr
                              go_wp2_with fail
                              go_ret
                              exact ⟨by rw [he.out]; rfl, rfl⟩
                            | false =>
                              go_upto_region 16 with fail
                              cases h14 : (s.toList == [115, 101, 116]) with
                              | true =>
                                have he : Hid (resv s = true) := by show _ = _; rw [hr.out, h0, h1, h2, h3, h4, h5, h6, h7, h8, h9, h10, h11, h12, h13, h14]; simp
                                clear hr
                                go_wp2_with fail
                                go_ret
                                exact ⟨by rw [he.out]; rfl, rfl⟩
                              | false =>
                                go_upto_region 17 with fail
                                cases h15 : (s.toList == [101, 110, 100]) with
                                | true =>
                                  have he : Hid (resv s = true) := by show _ = _; rw [hr.out, h0, h1, h2, h3, h4, h5, h6, h7, h8, h9, h10, h11, h12, h13, h14, h15]; simp
                                  clear hr
                                  go_wp2_with fail
                                  go_ret
                                  exact ⟨by rw [he.out]; rfl, rfl⟩
                                | false =>
                                  go_upto_region 18 with fail
                                  cases h16 : (s.toList == [105, 110]) with
                                  | true =>
                                    have he : Hid (resv s = true) := by show _ = _; rw [hr.out, h0, h1, h2, h3, h4, h5, h6, h7, h8, h9, h10, h11, h12, h13, h14, h15, h16]; simp
                                    clear hr
                                    go_wp2_with fail
                                    go_ret
                                    exact ⟨by rw [he.out]; rfl, rfl⟩
                                  | false =>
                                    go_upto_region 19 with fail
                                    cases h17 : (s.toList == [105, 115]) with
                                    | true =>
                                      have he : Hid (resv s = true) := by show _ = _; rw [hr.out, h0, h1, h2, h3, h4, h5, h6, h7, h8, h9, h10, h11, h12, h13, h14, h15, h16, h17]; simp
                                      clear hr
                                      go_wp2_with fail
                                      go_ret
                                      exact ⟨by rw [he.out]; rfl, rfl⟩
                                    | false =>
                                      go_upto_region 20 with fail
                                      cases h18 : (s.toList == [82, 101, 97, 108]) with
                                      | true =>
                                        have he : Hid (resv s = true) := by show _ = _; rw [hr.out, h0, h1, h2, h3, h4, h5, h6, h7, h8, h9, h10, h11, h12, h13, h14, h15, h16, h17, h18]; simp
                                        clear hr
                                        go_wp2_with fail
                                        go_ret
                                        exact ⟨by rw [he.out]; rfl, rfl⟩
                                      | false =>
                                        go_upto_region 21 with fail
                                        cases h19 : (s.toList == [116, 105, 109, 101]) with
                                        | true =>
                                          have he : Hid (resv s = true) := by show _ = _; rw [hr.out, h0, h1, h2, h3, h4, h5, h6, h7, h8, h9, h10, h11, h12, h13, h14, h15, h16, h17, h18, h19]; simp
                                          clear hr
                                          go_wp2_with fail
                                          go_ret
                                          exact ⟨by rw [he.out]; rfl, rfl⟩
                                        | false =>
                                          go_upto_region 22 with fail
                                          cases h20 : (s.toList == [99, 108, 97, 115, 115]) with
                                          | true =>
                                            have he : Hid (resv s = true) := by show _ = _; rw [hr.out, h0, h1, h2, h3, h4, h5, h6, h7, h8, h9, h10, h11, h12, h13, h14, h15, h16, h17, h18, h19, h20]; simp
                                            clear hr
                                            go_wp2_with fail
                                            go_ret
                                            exact ⟨by rw [he.out]; rfl, rfl⟩
                                          | false =>
                                            go_upto_region 23 with fail
                                            cases h21 : (s.toList == [99, 111, 110, 110, 101, 99, 116, 111, 114]) with
                                            | true =>
                                              have he : Hid (resv s = true) := by show _ = _; rw [hr.out, h0, h1, h2, h3, h4, h5, h6, h7, h8, h9, h10, h11, h12, h13, h14, h15, h16, h17, h18, h19, h20, h21]; simp
                                              clear hr
                                              go_wp2_with fail
                                              go_ret
                                              exact ⟨by rw [he.out]; rfl, rfl⟩
                                            | false =>
                                              go_upto_region 24 with fail
                                              cases h22 : (s.toList == [97, 98, 115, 116, 114, 97, 99, 116]) with
                                              | true =>
                                                have he : Hid (resv s = true) := by show _ = _; rw [hr.out, h0, h1, h2, h3, h4, h5, h6, h7, h8, h9, h10, h11, h12, h13, h14, h15, h16, h17, h18, h19, h20, h21, h22]; simp
                                                clear hr
                                                go_wp2_with fail
                                                go_ret
                                                exact ⟨by rw [he.out]; rfl, rfl⟩
                                              | false =>
                                                go_upto_region 25 with fail
                                                cases h23 : (s.toList == [98, 97, 115, 101]) with
                                                | true =>
                                                  have he : Hid (resv s = true) := by show _ = _; rw [hr.out, h0, h1, h2, h3, h4, h5, h6, h7, h8, h9, h10, h11, h12, h13, h14, h15, h16, h17, h18, h19, h20, h21, h22, h23]; simp
                                                  clear hr
                                                  go_wp2_with fail
                                                  go_ret
                                                  exact ⟨by rw [he.out]; rfl, rfl⟩
                                                | false =>
                                                  go_upto_region 26 with fail
                                                  cases h24 : (s.toList == [112, 97, 114, 97, 109]) with
                                                  | true =>
                                                    have he : Hid (resv s = true) := by show _ = _; rw [hr.out, h0, h1, h2, h3, h4, h5, h6, h7, h8, h9, h10, h11, h12, h13, h14, h15, h16, h17, h18, h19, h20, h21, h22, h23, h24]; simp
                                                    clear hr
                                                    go_wp2_with fail
                                                    go_ret
                                                    exact ⟨by rw [he.out]; rfl, rfl⟩
                                                  | false =>
                                                    go_upto_region 27 with fail
                                                    cases h25 : (s.toList == [115, 116, 97, 116, 101]) with
                                                    | true =>
                                                      have he : Hid (resv s = true) := by show _ = _; rw [hr.out, h0, h1, h2, h3, h4, h5, h6, h7, h8, h9, h10, h11, h12, h13, h14, h15, h16, h17, h18, h19, h20, h21, h22, h23, h24, h25]; simp
                                                      clear hr
                                                      go_wp2_with fail
                                                      go_ret
                                                      exact ⟨by rw [he.out]; rfl, rfl⟩
                                                    | false =>
                                                      go_upto_region 28 with fail
                                                      cases h26 : (s.toList == [110, 117, 109, 98, 101, 114]) with
                                                      | true =>
                                                        have he : Hid (resv s = true) := by show _ = _; rw [hr.out, h0, h1, h2, h3, h4, h5, h6, h7, h8, h9, h10, h11, h12, h13, h14, h15, h16, h17, h18, h19, h20, h21, h22, h23, h24, h25, h26]; simp
                                                        clear hr
                                                        go_wp2_with fail
                                                        go_ret
                                                        exact ⟨by rw [he.out]; rfl, rfl⟩
                                                      | false =>
                                                        go_upto_region 29 with fail
                                                        cases h27 : (s.toList == [101, 113]) with
                                                        | true =>
                                                          have he : Hid (resv s = true) := by show _ = _; rw [hr.out, h0, h1, h2, h3, h4, h5, h6, h7, h8, h9, h10, h11, h12, h13, h14, h15, h16, h17, h18, h19, h20, h21, h22, h23, h24, h25, h26, h27]; simp
                                                          clear hr
                                                          go_wp2_with fail
                                                          go_ret
                                                          exact ⟨by rw [he.out]; rfl, rfl⟩
                                                        | false =>
                                                          go_upto_region 30 with fail
                                                          cases h28 : (s.toList == [115, 116, 97, 114, 116]) with
                                                          | true =>
                                                            have he : Hid (resv s = true) := by show _ = _; rw [hr.out, h0, h1, h2, h3, h4, h5, h6, h7, h8, h9, h10, h11, h12, h13, h14, h15, h16, h17, h18, h19, h20, h21, h22, h23, h24, h25, h26, h27, h28]; simp
                                                            clear hr
                                                            go_wp2_with fail
                                                            go_ret
                                                            exact ⟨by rw [he.out]; rfl, rfl⟩
                                                          | false =>
                                                            go_upto_region 31 with fail
                                                            cases h29 : (s.toList == [119, 105, 114, 101]) with
                                                            | true =>
                                                              have he : Hid (resv s = true) := by show _ = _; rw [hr.out, h0, h1, h2, h3, h4, h5, h6, h7, h8, h9, h10, h11, h12, h13, h14, h15, h16, h17, h18, h19, h20, h21, h22, h23, h24, h25, h26, h27, h28, h29]; simp
                                                              clear hr
                                                              go_wp2_with fail
                                                              go_ret
                                                              exact ⟨by rw [he.out]; rfl, rfl⟩
                                                            | false =>
                                                              go_upto_region 32 with fail
                                                              cases h30 : (s.toList == [111, 110]) with
                                                              | true =>
                                                                have he : Hid (resv s = true) := by show _ = _; rw [hr.out, h0, h1, h2, h3, h4, h5, h6, h7, h8, h9, h10, h11, h12, h13, h14, h15, h16, h17, h18, h19, h20, h21, h22, h23, h24, h25, h26, h27, h28, h29, h30]; simp
                                                                clear hr
                                                                go_wp2_with fail
                                                                go_ret
                                                                exact ⟨by rw [he.out]; rfl, rfl⟩
                                                              | false =>
                                                                go_upto_region 33 with fail
                                                                cases h31 : (s.toList == [112, 117, 116]) with
                                                                | true =>
                                                                  have he : Hid (resv s = true) := by show _ = _; rw [hr.out, h0, h1, h2, h3, h4, h5, h6, h7, h8, h9, h10, h11, h12, h13, h14, h15, h16, h17, h18, h19, h20, h21, h22, h23, h24, h25, h26, h27, h28, h29, h30, h31]; simp
                                                                  clear hr
                                                                  go_wp2_with fail
                                                                  go_ret
                                                                  exact ⟨by rw [he.out]; rfl, rfl⟩
                                                                | false =>
                                                                  go_upto_region 34 with fail
                                                                  cases h32 : (s.toList == [105, 102]) with
                                                                  | true =>
                                                                    have he : Hid (resv s = true) := by show _ = _; rw [hr.out, h0, h1, h2, h3, h4, h5, h6, h7, h8, h9, h10, h11, h12, h13, h14, h15, h16, h17, h18, h19, h20, h21, h22, h23, h24, h25, h26, h27, h28, h29, h30, h31, h32]; simp
                                                                    clear hr
                                                                    go_wp2_with fail
                                                                    go_ret
                                                                    exact ⟨by rw [he.out]; rfl, rfl⟩
                                                                  | false =>
                                                                    go_upto_region 35 with fail
                                                                    cases h33 : (s.toList == [116, 104, 101, 110]) with
                                                                    | true =>
                                                                      have he : Hid (resv s = true) := by show _ = _; rw [hr.out, h0, h1, h2, h3, h4, h5, h6, h7, h8, h9, h10, h11, h12, h13, h14, h15, h16, h17, h18, h19, h20, h21, h22, h23, h24, h25, h26, h27, h28, h29, h30, h31, h32, h33]; simp
                                                                      clear hr
                                                                      go_wp2_with fail
                                                                      go_ret
                                                                      exact ⟨by rw [he.out]; rfl, rfl⟩
                                                                    | false =>
                                                                      go_upto_region 36 with fail
                                                                      cases h34 : (s.toList == [101, 108, 115, 101]) with
                                                                      | true =>
                                                                        have he : Hid (resv s = true) := by show _ = _; rw [hr.out, h0, h1, h2, h3, h4, h5, h6, h7, h8, h9, h10, h11, h12, h13, h14, h15, h16, h17, h18, h19, h20, h21, h22, h23, h24, h25, h26, h27, h28, h29, h30, h31, h32, h33, h34]; simp
                                                                        clear hr
                                                                        go_wp2_with fail
                                                                        go_ret
                                                                        exact ⟨by rw [he.out]; rfl, rfl⟩
                                                                      | false =>
                                                                        go_upto_region 37 with fail
                                                                        cases h35 : (s.toList == [111, 114]) with
                                                                        | true =>
                                                                          have he : Hid (resv s = true) := by show _ = _; rw [hr.out, h0, h1, h2, h3, h4, h5, h6, h7, h8, h9, h10, h11, h12, h13, h14, h15, h16, h17, h18, h19, h20, h21, h22, h23, h24, h25, h26, h27, h28, h29, h30, h31, h32, h33, h34, h35]; simp
                                                                          clear hr
                                                                          go_wp2_with fail
                                                                          go_ret
                                                                          exact ⟨by rw [he.out]; rfl, rfl⟩
                                                                        | false =>
                                                                          go_upto_region 38 with fail
                                                                          cases h36 : (s.toList == [97, 110, 100]) with
                                                                          | true =>
                                                                            have he : Hid (resv s = true) := by show _ = _; rw [hr.out, h0, h1, h2, h3, h4, h5, h6, h7, h8, h9, h10, h11, h12, h13, h14, h15, h16, h17, h18, h19, h20, h21, h22, h23, h24, h25, h26, h27, h28, h29, h30, h31, h32, h33, h34, h35, h36]; simp
                                                                            clear hr
                                                                            go_wp2_with fail
                                                                            go_ret
                                                                            exact ⟨by rw [he.out]; rfl, rfl⟩
                                                                          | false =>
                                                                            go_upto_region 39 with fail
                                                                            cases h37 : (s.toList == [110, 111, 116]) with
                                                                            | true =>
                                                                              have he : Hid (resv s = true) := by show _ = _; rw [hr.out, h0, h1, h2, h3, h4, h5, h6, h7, h8, h9, h10, h11, h12, h13, h14, h15, h16, h17, h18, h19, h20, h21, h22, h23, h24, h25, h26, h27, h28, h29, h30, h31, h32, h33, h34, h35, h36, h37]; simp
                                                                              clear hr
                                                                              go_wp2_with fail
                                                                              go_ret
                                                                              exact ⟨by rw [he.out]; rfl, rfl⟩
                                                                            | false =>
                                                                              go_upto_region 40 with fail
                                                                              cases h38 : (s.toList == [100, 101, 114]) with
                                                                              | true =>
                                                                                have he : Hid (resv s = true) := by show _ = _; rw [hr.out, h0, h1, h2, h3, h4, h5, h6, h7, h8, h9, h10, h11, h12, h13, h14, h15, h16, h17, h18, h19, h20, h21, h22, h23, h24, h25, h26, h27, h28, h29, h30, h31, h32, h33, h34, h35, h36, h37, h38]; simp
                                                                                clear hr
                                                                                go_wp2_with fail
                                                                                go_ret
                                                                                exact ⟨by rw [he.out]; rfl, rfl⟩
                                                                              | false =>
                                                                                go_upto_region 41 with fail
                                                                                cases h39 : (s.toList == [112, 114, 101]) with
                                                                                | true =>
                                                                                  have he : Hid (resv s = true) := by show _ = _; rw [hr.out, h0, h1, h2, h3, h4, h5, h6, h7, h8, h9, h10, h11, h12, h13, h14, h15, h16, h17, h18, h19, h20, h21, h22, h23, h24, h25, h26, h27, h28, h29, h30, h31, h32, h33, h34, h35, h36, h37, h38, h39]; simp
                                                                                  clear hr
                                                                                  go_wp2_with fail
                                                                                  go_ret
                                                                                  exact ⟨by rw [he.out]; rfl, rfl⟩
                                                                                | false =>
                                                                                  go_upto_region 42 with fail
                                                                                  cases h40 : (s.toList == [97, 98, 115]) with
                                                                                  | true =>
                                                                                    have he : Hid (resv s = true) := by show _ = _; rw [hr.out, h0, h1, h2, h3, h4, h5, h6, h7, h8, h9, h10, h11, h12, h13, h14, h15, h16, h17, h18, h19, h20, h21, h22, h23, h24, h25, h26, h27, h28, h29, h30, h31, h32, h33, h34, h35, h36, h37, h38, h39, h40]; simp
                                                                                    clear hr
                                                                                    go_wp2_with fail
                                                                                    go_ret
                                                                                    exact ⟨by rw [he.out]; rfl, rfl⟩
                                                                                  | false =>
                                                                                    go_upto_region 43 with fail
                                                                                    cases h41 : (s.toList == [109, 105, 110]) with
                                                                                    | true =>
                                                                                      have he : Hid (resv s = true) := by show _ = _; rw [hr.out, h0, h1, h2, h3, h4, h5, h6, h7, h8, h9, h10, h11, h12, h13, h14, h15, h16, h17, h18, h19, h20, h21, h22, h23, h24, h25, h26, h27, h28, h29, h30, h31, h32, h33, h34, h35, h36, h37, h38, h39, h40, h41]; simp
                                                                                      clear hr
                                                                                      go_wp2_with fail
                                                                                      go_ret
                                                                                      exact ⟨by rw [he.out]; rfl, rfl⟩
                                                                                    | false =>
                                                                                      go_upto_region 44 with fail
                                                                                      cases h42 : (s.toList == [109, 97, 120]) with
                                                                                      | true =>
                                                                                        have he : Hid (resv s = true) := by show _ = _; rw [hr.out, h0, h1, h2, h3, h4, h5, h6, h7, h8, h9, h10, h11, h12, h13, h14, h15, h16, h17, h18, h19, h20, h21, h22, h23, h24, h25, h26, h27, h28, h29, h30, h31, h32, h33, h34, h35, h36, h37, h38, h39, h40, h41, h42]; simp
                                                                                        clear hr
                                                                                        go_wp2_with fail
                                                                                        go_ret
                                                                                        exact ⟨by rw [he.out]; rfl, rfl⟩
                                                                                      | false =>
                                                                                        have he : Hid (resv s = false) := by show _ = _; rw [hr.out, h0, h1, h2, h3, h4, h5, h6, h7, h8, h9, h10, h11, h12, h13, h14, h15, h16, h17, h18, h19, h20, h21, h22, h23, h24, h25, h26, h27, h28, h29, h30, h31, h32, h33, h34, h35, h36, h37, h38, h39, h40, h41, h42]; simp
                                                                                        clear hr
                                                                                        go_wp2_with fail
                                                                                        go_ret
                                                                                        exact ⟨by rw [he.out]; rfl, rfl⟩

end Go.Proofs.Ytgjmbmlmopomgaa
