/- The walks of the laws SkiTwice, SkiBest, SkiMore and Names: each returns true, for every input. -/
import Derived.Test.YtjflmcglnofooaaSkiWalks
import Derived.Lib.Hide
namespace Go.Proofs.Ytjflmcglnofooaa
open Go.ChangeShapes Go.WideShapes Go.ChangeAt Go.RowKit

theorem law_Names (w : World) :
    Calls Try.prog 3 #[] w fun e w' => e = .returned (.bool true) ∧ Grown w w' := by
  go_enter Try.func3, Try.ntmps3
  go_wp2
  go_loop [4, 5, 6] (fun i _ _ => ∃ k : Nat, k ≤ 8 ∧ i = .int .i64 k) (fun i _ _ => 8 - (intOf i).toNat)
  case atStart => exact ⟨0, by omega, rfl⟩
  case round =>
    obtain ⟨k, hk, rfl⟩ := hrel
    have hc : k = 0 ∨ k = 1 ∨ k = 2 ∨ k = 3 ∨ k = 4 ∨ k = 5 ∨ k = 6 ∨ k = 7 ∨ k = 8 := by omega
    rcases hc with rfl | rfl | rfl | rfl | rfl | rfl | rfl | rfl | rfl
    case' inr.inr.inr.inr.inr.inr.inr.inr =>
      go_wp2
      go_ret
      exact ⟨rfl, by repeat (first | exact Grown.refl _ | apply Grown.drew | apply Grown.alloc)⟩
    all_goals
      go_wp2
      go_round
      case rel => first | exact ⟨1, by omega, by go_num⟩ | exact ⟨2, by omega, by go_num⟩ | exact ⟨3, by omega, by go_num⟩ | exact ⟨4, by omega, by go_num⟩ | exact ⟨5, by omega, by go_num⟩ | exact ⟨6, by omega, by go_num⟩ | exact ⟨7, by omega, by go_num⟩ | exact ⟨8, by omega, by go_num⟩
      case measure => simp [intOf]

theorem mul_le_20 {a b : Int} (ha : 1 ≤ a) (ha' : a ≤ 20) (hb : 0 ≤ b) (hb' : b ≤ 2000) : 0 ≤ a * b ∧ a * b ≤ 40000 :=
  ⟨Int.mul_nonneg (by omega) hb, by have := Int.mul_le_mul ha' hb' hb (by omega); omega⟩

theorem costF_bd (p d b : Int) (h1 : 1 ≤ p) (h2 : p ≤ 20) (h3 : 0 ≤ d) (h4 : d ≤ 1000) (h5 : 1 ≤ b) (h6 : b ≤ 1000) : 0 ≤ costF p d b ∧ costF p d b ≤ 1100 := by
  unfold costF; split <;> omega
theorem leastF_bd (p d : Int) (h1 : 1 ≤ p) (h2 : p ≤ 20) (h3 : 0 ≤ d) (h4 : d ≤ 1000) : 0 ≤ leastF p d ∧ leastF p d ≤ 20 := by
  unfold leastF; split <;> omega

theorem skiTwice_fact (p d : Int) (h1 : 1 ≤ p) (h2 : p ≤ 20) (h3 : 0 ≤ d) (h4 : d ≤ 1000) :
    costF p d p * p ≤ (2 * p - 1) * leastF p d ∧ leastF p d ≤ costF p d p := by
  unfold costF leastF
  have hc : p = 1 ∨ p = 2 ∨ p = 3 ∨ p = 4 ∨ p = 5 ∨ p = 6 ∨ p = 7 ∨ p = 8 ∨ p = 9 ∨ p = 10 ∨ p = 11 ∨ p = 12 ∨ p = 13 ∨ p = 14 ∨ p = 15 ∨ p = 16 ∨ p = 17 ∨ p = 18 ∨ p = 19 ∨ p = 20 := by omega
  rcases hc with rfl | rfl | rfl | rfl | rfl | rfl | rfl | rfl | rfl | rfl | rfl | rfl | rfl | rfl | rfl | rfl | rfl | rfl | rfl | rfl <;> (split <;> split <;> omega)

theorem law_SkiTwice (p d : Int) (w : World) :
    Calls Try.prog 4 #[.int .i64 p, .int .i64 d] w fun e w' => e = .returned (.bool true) ∧ Grown w w' := by
  by_cases h : 1 ≤ p ∧ p ≤ 20 ∧ 0 ≤ d ∧ d ≤ 1000
  · obtain ⟨h1, h2, h3, h4⟩ := h
    obtain ⟨f1, f2⟩ := skiTwice_fact p d h1 h2 h3 h4
    obtain ⟨b1, b2⟩ := costF_bd p d p h1 h2 h3 h4 h1 (by omega)
    obtain ⟨c1, c2⟩ := leastF_bd p d h1 h2 h3 h4
    have m1 := Int.mul_comm (costF p d p) p
    have m2 := mul_le_20 (a := p) (b := costF p d p) h1 h2 b1 (by omega)
    have m3 : 0 ≤ (2 * p - 1) * leastF p d ∧ (2 * p - 1) * leastF p d ≤ 800 := by
      refine ⟨Int.mul_nonneg (by omega) c1, ?_⟩
      have := Int.mul_le_mul (show 2 * p - 1 ≤ 40 by omega) c2 c1 (by omega); omega
    obtain ⟨m4, m5⟩ := m3
    have m6 : 0 ≤ costF p d p * p := by omega
    have m7 : costF p d p * p ≤ 40000 := by omega
    clear m1 m2
    go_enter Try.func4, Try.ntmps4
    go_wp2_with fail
    refine (skiFact_ok _).mono ?_; rintro e w' ⟨rfl, rfl⟩
    go_wp2_with fail
    refine (even_ok _ _ _ h1 h2 h3 h4).mono ?_; rintro e w' ⟨rfl, rfl⟩
    go_wp2_with fail
    refine (skiLeast_ok _ _ _ h1 h2 h3 h4).mono ?_; rintro e w' ⟨rfl, rfl⟩
    go_wp2
    go_ret
    exact ⟨rfl, Grown.refl _⟩
  · have H := Lib.hid h
    clear h
    go_enter Try.func4, Try.ntmps4
    go_wp2_with fail
    refine (skiFact_ok _).mono ?_; rintro e w' ⟨rfl, rfl⟩
    go_wp2_with fail
    refine (even_no _ _ _ H.out).mono ?_; rintro e w' ⟨rfl, rfl⟩
    go_wp2_with fail
    refine (skiLeast_no _ _ _ H.out).mono ?_; rintro e w' ⟨rfl, rfl⟩
    go_wp2
    go_ret
    exact ⟨rfl, Grown.refl _⟩

theorem skiBest_fact (p b : Int) (h1 : 1 ≤ p) (h2 : p ≤ 20) (h3 : 1 ≤ b) (h4 : b ≤ 1000) :
    (2 * p - 1) * leastF p b ≤ costF p b b * p := by
  unfold costF leastF
  have hc : p = 1 ∨ p = 2 ∨ p = 3 ∨ p = 4 ∨ p = 5 ∨ p = 6 ∨ p = 7 ∨ p = 8 ∨ p = 9 ∨ p = 10 ∨ p = 11 ∨ p = 12 ∨ p = 13 ∨ p = 14 ∨ p = 15 ∨ p = 16 ∨ p = 17 ∨ p = 18 ∨ p = 19 ∨ p = 20 := by omega
  rcases hc with rfl | rfl | rfl | rfl | rfl | rfl | rfl | rfl | rfl | rfl | rfl | rfl | rfl | rfl | rfl | rfl | rfl | rfl | rfl | rfl <;> (split <;> split <;> omega)

theorem in_ok (n lo hi : Int) (w : World) (h1 : lo ≤ n) (h2 : n ≤ hi) :
    Calls Try.prog 12 #[.int .i64 n, .int .i64 lo, .int .i64 hi] w fun e w' => e = .returned (.bool true) ∧ w = w' := by
  go_enter Try.func12, Try.ntmps12
  go_wp2
  go_ret
  exact ⟨rfl, rfl⟩

theorem in_no (n lo hi : Int) (w : World) (h : n < lo ∨ hi < n) :
    Calls Try.prog 12 #[.int .i64 n, .int .i64 lo, .int .i64 hi] w fun e w' => e = .returned (.bool false) ∧ w = w' := by
  by_cases h1 : lo ≤ n
  · have h2 : ¬ n ≤ hi := by omega
    clear h
    go_enter Try.func12, Try.ntmps12
    go_wp2
    go_ret
    exact ⟨rfl, rfl⟩
  · clear h
    go_enter Try.func12, Try.ntmps12
    go_wp2
    go_ret
    exact ⟨rfl, rfl⟩

theorem law_SkiBest (p b : Int) (w : World) :
    Calls Try.prog 5 #[.int .i64 p, .int .i64 b] w fun e w' => e = .returned (.bool true) ∧ Grown w w' := by
  by_cases hp : 1 ≤ p ∧ p ≤ 20
  · obtain ⟨h1, h2⟩ := hp
    by_cases hb : 1 ≤ b ∧ b ≤ 1000
    · obtain ⟨h3, h4⟩ := hb
      have f1 := skiBest_fact p b h1 h2 h3 h4
      obtain ⟨b1, b2⟩ := costF_bd p b b h1 h2 (by omega) h4 h3 h4
      obtain ⟨c1, c2⟩ := leastF_bd p b h1 h2 (by omega) h4
      have m1 := Int.mul_comm (costF p b b) p
      have m2 := mul_le_20 (a := p) (b := costF p b b) h1 h2 b1 (by omega)
      have m3 : 0 ≤ (2 * p - 1) * leastF p b ∧ (2 * p - 1) * leastF p b ≤ 800 := by
        refine ⟨Int.mul_nonneg (by omega) c1, ?_⟩
        have := Int.mul_le_mul (show 2 * p - 1 ≤ 40 by omega) c2 c1 (by omega); omega
      obtain ⟨m4, m5⟩ := m3
      have m6 : 0 ≤ costF p b b * p := by omega
      have m7 : costF p b b * p ≤ 40000 := by omega
      clear m1 m2
      go_enter Try.func5, Try.ntmps5
      go_wp2_with fail
      refine (skiFact_ok _).mono ?_; rintro e w' ⟨rfl, rfl⟩
      go_wp2_with fail
      refine (cost_ok _ _ _ _ h1 h2 (by omega) h4 h3 h4).mono ?_; rintro e w' ⟨rfl, rfl⟩
      go_wp2_with fail
      refine (skiLeast_ok _ _ _ h1 h2 (by omega) h4).mono ?_; rintro e w' ⟨rfl, rfl⟩
      go_wp2
      go_ret
      exact ⟨rfl, Grown.refl _⟩
    · have hb1 : b < 1 ∨ 1000 < b := by omega
      have H := Lib.hid hb1
      clear hb hb1
      by_cases h0 : b = 0
      · subst h0
        go_enter Try.func5, Try.ntmps5
        go_wp2_with fail
        refine (skiFact_ok _).mono ?_; rintro e w' ⟨rfl, rfl⟩
        go_wp2_with fail
        refine (cost_no _ _ _ _ (by have := H.out; omega)).mono ?_; rintro e w' ⟨rfl, rfl⟩
        go_wp2_with fail
        refine (skiLeast_ok _ _ _ h1 h2 (by omega) (by omega)).mono ?_; rintro e w' ⟨rfl, rfl⟩
        go_wp2_with fail
        refine (in_ok _ _ _ _ h1 h2).mono ?_; rintro e w' ⟨rfl, rfl⟩
        go_wp2_with fail
        refine (in_no _ _ _ _ H.out).mono ?_; rintro e w' ⟨rfl, rfl⟩
        go_wp2
        go_ret
        exact ⟨rfl, Grown.refl _⟩
      · have H0 := Lib.hid h0
        clear h0
        go_enter Try.func5, Try.ntmps5
        go_wp2_with fail
        refine (skiFact_ok _).mono ?_; rintro e w' ⟨rfl, rfl⟩
        go_wp2_with fail
        refine (cost_no _ _ _ _ (by have := H.out; omega)).mono ?_; rintro e w' ⟨rfl, rfl⟩
        go_wp2_with fail
        refine (skiLeast_no _ _ _ (by have := H.out; have := H0.out; omega)).mono ?_; rintro e w' ⟨rfl, rfl⟩
        go_wp2_with fail
        refine (in_ok _ _ _ _ h1 h2).mono ?_; rintro e w' ⟨rfl, rfl⟩
        go_wp2_with fail
        refine (in_no _ _ _ _ H.out).mono ?_; rintro e w' ⟨rfl, rfl⟩
        go_wp2
        go_ret
        exact ⟨rfl, Grown.refl _⟩
  · have hp1 : p < 1 ∨ 20 < p := by omega
    have H := Lib.hid hp1
    clear hp hp1
    go_enter Try.func5, Try.ntmps5
    go_wp2_with fail
    refine (skiFact_ok _).mono ?_; rintro e w' ⟨rfl, rfl⟩
    go_wp2_with fail
    refine (cost_no _ _ _ _ (by have := H.out; omega)).mono ?_; rintro e w' ⟨rfl, rfl⟩
    go_wp2_with fail
    refine (skiLeast_no _ _ _ (by have := H.out; omega)).mono ?_; rintro e w' ⟨rfl, rfl⟩
    go_wp2_with fail
    refine (in_no _ _ _ _ H.out).mono ?_; rintro e w' ⟨rfl, rfl⟩
    go_wp2
    go_ret
    exact ⟨rfl, Grown.refl _⟩

theorem cost_any (p d b : Int) (w : World) :
    Calls Try.prog 11 #[.int .i64 p, .int .i64 d, .int .i64 b] w fun e w' => (∃ r err, e = .returned (.tuple #[.int .i64 r, err])) ∧ w = w' := by
  by_cases h : 1 ≤ p ∧ p ≤ 20 ∧ 0 ≤ d ∧ d ≤ 1000 ∧ 1 ≤ b ∧ b ≤ 1000
  · obtain ⟨h1, h2, h3, h4, h5, h6⟩ := h
    exact (cost_ok p d b w h1 h2 h3 h4 h5 h6).mono fun e w' ⟨he, hw⟩ => ⟨⟨_, _, he⟩, hw⟩
  · exact (cost_no p d b w h).mono fun e w' ⟨he, hw⟩ => ⟨⟨_, _, he⟩, hw⟩
theorem skiLeast_any (p d : Int) (w : World) :
    Calls Try.prog 10 #[.int .i64 p, .int .i64 d] w fun e w' => (∃ r err, e = .returned (.tuple #[.int .i64 r, err])) ∧ w = w' := by
  by_cases h : 1 ≤ p ∧ p ≤ 20 ∧ 0 ≤ d ∧ d ≤ 1000
  · obtain ⟨h1, h2, h3, h4⟩ := h
    exact (skiLeast_ok p d w h1 h2 h3 h4).mono fun e w' ⟨he, hw⟩ => ⟨⟨_, _, he⟩, hw⟩
  · exact (skiLeast_no p d w h).mono fun e w' ⟨he, hw⟩ => ⟨⟨_, _, he⟩, hw⟩

theorem law_SkiMore (p d b : Int) (w : World) :
    Calls Try.prog 6 #[.int .i64 p, .int .i64 d, .int .i64 b] w fun e w' => e = .returned (.bool true) ∧ Grown w w' := by
  by_cases h : 1 ≤ p ∧ p ≤ 20 ∧ 0 ≤ d ∧ d ≤ 1000 ∧ 1 ≤ b ∧ b ≤ 1000
  · obtain ⟨h1, h2, h3, h4, h5, h6⟩ := h
    by_cases hd : d = 1000
    · subst hd
      go_enter Try.func6, Try.ntmps6
      go_wp2_with fail
      refine (skiFact_ok _).mono ?_; rintro e w' ⟨rfl, rfl⟩
      go_wp2_with fail
      refine (cost_ok _ _ _ _ h1 h2 h3 h4 h5 h6).mono ?_; rintro e w' ⟨rfl, rfl⟩
      go_wp2_with fail
      refine (cost_no _ _ _ _ (by omega)).mono ?_; rintro e w' ⟨rfl, rfl⟩
      go_wp2_with fail
      refine (skiLeast_ok _ _ _ h1 h2 h3 h4).mono ?_; rintro e w' ⟨rfl, rfl⟩
      go_wp2
      go_ret
      exact ⟨rfl, Grown.refl _⟩
    · have hd1 : d ≤ 999 := by omega
      clear hd
      obtain ⟨b1, b2⟩ := costF_bd p d b h1 h2 (by omega) h4 h5 h6
      have f1 : costF p d b ≤ costF p (d + 1) b := by unfold costF; split <;> split <;> omega
      have f2 : leastF p d ≤ costF p d b := by unfold costF leastF; split <;> split <;> omega
      have H : Hid (d < b ∨ costF p (d + 1) b = costF p d b) := Lib.hid (by unfold costF; split <;> split <;> omega)
      by_cases hdb : d < b
      all_goals
        try have g2 := (H.out).resolve_left hdb
        try have G2 := Lib.hid g2
        try clear g2
        clear H
        go_enter Try.func6, Try.ntmps6
        go_wp2_with fail
        refine (skiFact_ok _).mono ?_; rintro e w' ⟨rfl, rfl⟩
        go_wp2_with fail
        refine (cost_ok _ _ _ _ h1 h2 h3 h4 h5 h6).mono ?_; rintro e w' ⟨rfl, rfl⟩
        go_wp2_with fail
        refine (cost_ok _ _ _ _ h1 h2 (by omega) (by omega) h5 h6).mono ?_; rintro e w' ⟨rfl, rfl⟩
        go_wp2_with fail
        refine (skiLeast_ok _ _ _ h1 h2 h3 h4).mono ?_; rintro e w' ⟨rfl, rfl⟩
        try have g2 := G2.out
        go_wp2
        all_goals
          go_ret
          exact ⟨rfl, Grown.refl _⟩
  · have H := Lib.hid h
    clear h
    go_enter Try.func6, Try.ntmps6
    go_wp2_with fail
    refine (skiFact_ok _).mono ?_; rintro e w' ⟨rfl, rfl⟩
    go_wp2_with fail
    refine (cost_no _ _ _ _ H.out).mono ?_; rintro e w' ⟨rfl, rfl⟩
    go_wp2_with fail
    refine (cost_any _ _ _ _).mono ?_; rintro e w' ⟨⟨r1, x1, rfl⟩, rfl⟩
    go_wp2_with fail
    refine (skiLeast_any _ _ _).mono ?_; rintro e w' ⟨⟨r2, x2, rfl⟩, rfl⟩
    go_wp2
    go_ret
    exact ⟨rfl, Grown.refl _⟩
end Go.Proofs.Ytjflmcglnofooaa
