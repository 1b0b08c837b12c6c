/- The walks of the laws WsetWhole, WsetGrows and WsetSlope: each returns true, for every input. -/
import Derived.Test.YtjonbbmgjiegcaaWset
import Derived.Test.YtjonbbmgjiegcaaWsetMore
namespace Go.Proofs.Ytjonbbmgjiegcaa
open Go.ChangeShapes Go.WideShapes Go.ChangeAt Go.RowKit

set_option maxHeartbeats 400000 in
theorem wsetFact_ok (w : World) : Calls Try.prog 6 #[] w fun e w' => e = .returned (.bool true) ∧ Below w.heap.size w w' := by
  go_enter Try.func6, Try.ntmps6
  go_wp2_with fail
  have h0 := RI.lit w #[.int .i64 1, .int .i64 2, .int .i64 1] 3 [1, 2, 1] 3 rfl rfl
  have hB0 := (Below.refl w.heap.size w).alloc (Nat.le_refl _) (.cells #[.int .i64 1, .int .i64 2, .int .i64 1] 3)
  refine (sets_ok _ _ _ _ _ _ h0 (by omega) (by simp [GoodW, GoodReqs, AllIn])).mono ?_; rintro e w1 ⟨A2, c2, rfl, R2, hB1⟩
  have hB01 := hB0.trans (hB1.mono hB0.size)
  have e2 : setsL [1, 2, 1] (Int.toNat 2) 3 = [2, 6, 6] := by decide
  rw [e2] at R2
  clear e2
  have hw1 := hB01.size
  go_wp2_with fail
  have h1 := RI.lit w1 #[.int .i64 1, .int .i64 2, .int .i64 1] 3 [1, 2, 1] 3 rfl rfl
  have hB2 := hB01.alloc hw1 (.cells #[.int .i64 1, .int .i64 2, .int .i64 1] 3)
  have R2' := R2.below ((Below.refl w1.heap.size w1).alloc (Nat.le_refl _) (.cells #[.int .i64 1, .int .i64 2, .int .i64 1] 3))
  refine (miss_ok _ _ _ _ _ _ h1 (by omega) (by simp [GoodW, GoodReqs, AllIn])).mono ?_; rintro e w' ⟨rfl, rfl⟩
  have e3 : missW [1, 2, 1] (Int.toNat 2) 3 = 2 := by decide
  have e4 : sumW [1, 2, 1] (Int.toNat 2) 3 = 5 := by decide
  rw [e3, e4]
  clear e3 e4
  generalize w1.alloc (.cells #[.int .i64 1, .int .i64 2, .int .i64 1] 3) = w2 at *
  have hw2 := hB2.size
  have M2 : Hid (eqI [2, 6, 6] [2, 6, 6] = true) := by simp [Hid, eqI]
  go_wp2_with fail
  have h2 := RI.lit w2 #[.int .i64 2, .int .i64 6, .int .i64 6] 3 [2, 6, 6] 3 rfl rfl
  refine (ints_any _ _ _ _ _ _ _ _ _ ((Row.reads R2').below ((Below.refl w2.heap.size w2).alloc (Nat.le_refl _) _)) h2 (by omega) (by omega)).mono ?_; rintro e w' ⟨rfl, d, rfl⟩
  rw [M2.out]
  go_wp2
  go_ret
  exact ⟨rfl, belowN (hB2.alloc hw2 _) _⟩

theorem sets_any (A : Option Addr) (n c : Nat) (l : List Int) (v : Int) (w : World) (h : RI w A n l) (hnc : n ≤ c) (hn : n ≤ 9223372036854775807) :
    Calls Try.prog 7 #[.slice A n c, .int .i64 v] w fun e w' => (∃ x y, e = .returned (.tuple #[x, y])) ∧ Below w.heap.size w w' := by
  by_cases hg : GoodW l v
  · exact (sets_ok A n c l v w h hnc hg).mono fun e w' ⟨A1, c1, he, _, hB⟩ => ⟨⟨_, _, he⟩, hB⟩
  · exact (sets_no A n c l v w h hn hg).mono fun e w' ⟨he, hw⟩ => ⟨⟨_, _, he⟩, hw ▸ Below.refl _ _⟩
theorem miss_any (A : Option Addr) (n c : Nat) (l : List Int) (v : Int) (w : World) (h : RI w A n l) (hnc : n ≤ c) (hn : n ≤ 9223372036854775807) :
    Calls Try.prog 8 #[.slice A n c, .int .i64 v] w fun e w' => (∃ x y z, e = .returned (.tuple #[x, y, z])) ∧ w = w' := by
  by_cases hg : GoodW l v
  · exact (miss_ok A n c l v w h hnc hg).mono fun e w' ⟨he, hB⟩ => ⟨⟨_, _, _, he⟩, hB⟩
  · exact (miss_no A n c l v w h hn hg).mono fun e w' ⟨he, hw⟩ => ⟨⟨_, _, _, he⟩, hw⟩

set_option maxRecDepth 100000 in
set_option maxHeartbeats 4000000 in
theorem law_WsetGrows (A : Option Addr) (n c : Nat) (l : List Int) (v : Int) (w : World) (h : RI w A n l) (hnc : n ≤ c) (hn : n ≤ 9223372036854775807) :
    Calls Try.prog 3 #[.slice A n c, .int .i64 v] w fun e w' => e = .returned (.bool true) ∧ Below w.heap.size w w' := by
  by_cases hg : GoodW l v
  · obtain ⟨u, rfl⟩ : ∃ u : Nat, v = u := ⟨v.toNat, by have := hg.2.1; omega⟩
    have HL := Lib.hid h.len
    have HG := Lib.hid hg
    have hn4 : n ≤ 40 := by have := HL.out; have := hg.1.1; omega
    have hu1 : 1 ≤ u := by have := hg.2.1; omega
    have hu2 : u ≤ 40 := by have := hg.2.2; omega
    clear hn
    by_cases hg2 : GoodW l ((u : Int) + 1)
    · have HG2 := Lib.hid hg2
      clear hg hg2
      go_enter Try.func3, Try.ntmps3
      go_wp2_with fail
      refine (wsetFact_ok _).mono ?_; rintro e w0 ⟨rfl, hB0⟩
      have h0 := h.below hB0
      go_wp2_with fail
      refine (sets_ok _ _ _ _ _ _ h0 hnc HG.out).mono ?_; rintro e w1 ⟨A1, c1, rfl, R1, hB1⟩
      have h1 := h0.below hB1
      have hB01 : Below w.heap.size w w1 := hB0.trans (hB1.mono hB0.size)
      go_wp2_with fail
      refine (sets_ok _ _ _ _ _ _ h1 hnc HG2.out).mono ?_; rintro e w2 ⟨A2, c2, rfl, R2, hB2⟩
      have h2 := h1.below hB2
      have hB02 : Below w.heap.size w w2 := hB01.trans (hB2.mono hB01.size)
      have R1' := R1.below hB2
      rw [Int.toNat_natCast] at R1'
      rw [show ((u : Int) + 1).toNat = u + 1 by omega] at R2
      have q1 := missW_mono l u n
      have q2 := sumW_mono l u n
      have q3 := missW_some l (u + 1) n (by have := HL.out; omega)
      rw [List.take_of_length_le (by have := HL.out; omega)] at q3
      have q4 := missW_le l u n
      have q5 : sumW l (u + 1) n ≤ 1600 := by
        have a1 := sumW_le l (u + 1) n
        have a2 : n * l.length ≤ 40 * 40 := Nat.mul_le_mul hn4 (by have := HL.out; omega)
        omega
      go_wp2_with fail
      refine (miss_ok _ _ _ _ _ _ h2 hnc HG.out).mono ?_; rintro e w' ⟨rfl, rfl⟩
      rw [Int.toNat_natCast]
      go_wp2_with fail
      refine (miss_ok _ _ _ _ _ _ h2 hnc HG2.out).mono ?_; rintro e w' ⟨rfl, rfl⟩
      rw [show ((u : Int) + 1).toNat = u + 1 by omega]
      generalize missW l u n = a at *
      generalize missW l (u + 1) n = b at *
      generalize sumW l u n = x at *
      generalize sumW l (u + 1) n = y at *
      have z1 : ¬ (a : Int) < b := by omega
      have z2 : ¬ (y : Int) < x := by omega
      have z3 : ¬ a < b := by omega
      have z4 : ¬ y < x := by omega
      go_wp2_with fail
      refine (some_any _ _ _ _ _ h2 (by omega)).mono ?_; rintro e w' ⟨rfl, d, rfl⟩
      generalize someN l = m at *
      have z5 : ¬ (b : Int) < m := by omega
      have z6 : ¬ b < m := by omega
      have RA := Lib.hid (Row.reads R1')
      have RB' := Lib.hid (Row.reads R2)
      clear R1 R1' R2
      have HS : Hid (∀ k, SubB (mask (lastW (l.take k) u)) (mask (lastW (l.take k) (u + 1)))) := Lib.hid (fun k =>
        mask_sub (fun x hx => HG.out.1.2.1 x (List.mem_of_mem_take (lastW_mem hx))) (fun x hx => HG.out.1.2.1 x (List.mem_of_mem_take (lastW_mem hx))) (lastW_sub _ _))
      have HMM : Hid (∀ k j, mask (lastW (l.take k) j) < 65536) := Lib.hid (fun k j => mask_lt _ (fun x hx => HG.out.1.2.1 x (List.mem_of_mem_take (lastW_mem hx))))
      go_wp2
      clear q1 q2 q3 q4 q5 z1 z2 z3 z4 z5 z6
      go_loop [16, 17, 18, 19] (fun i _ _ _ => ∃ k : Nat, k ≤ n ∧ i = .int .i64 k) (fun i _ _ _ => n - (intOf i).toNat)
      case atStart => exact ⟨0, by omega, by go_num⟩
      case round =>
        obtain ⟨k, hk, rfl⟩ := hrel
        by_cases hlt : k < n
        · obtain ⟨ad1, s0, rfl, HA1, hc1⟩ := RA.out.at_ hlt
          obtain ⟨ad2, t0, rfl, HA2, hc2⟩ := RB'.out.at_ hlt
          have e1 : s0 = ((mask (lastW (l.take (k + 1)) u) : Nat) : Int) := by have := HA1.out; rw [setsL_at l u n k hlt] at this; injection this with this; exact this.symm
          have e2 : t0 = ((mask (lastW (l.take (k + 1)) (u + 1)) : Nat) : Int) := by have := HA2.out; rw [setsL_at l (u + 1) n k hlt] at this; injection this with this; exact this.symm
          have hS := Lib.hid (HS.out (k + 1))
          have hM1 := HMM.out (k + 1) u
          have hM2 := HMM.out (k + 1) (u + 1)
          generalize mask (lastW (l.take (k + 1)) u) = X0 at *
          generalize mask (lastW (l.take (k + 1)) (u + 1)) = Y0 at *
          subst e1
          subst e2
          go_wp2
          go_loop [17, 18, 19] (fun s t j => ∃ q X Y : Nat, q ≤ 16 ∧ j = .int .i64 q ∧ s = .int .i64 (X : Nat) ∧ t = .int .i64 (Y : Nat) ∧ X < 65536 ∧ Y < 65536 ∧ Hid (SubB X Y)) (fun _ _ j => 16 - (intOf j).toNat)
          case atStart => exact ⟨0, X0, Y0, by omega, by go_num, rfl, rfl, hM1, hM2, hS⟩
          case round =>
            obtain ⟨q, X, Y, hq, rfl, rfl, rfl, hX, hY, HXY⟩ := hrel
            have HH := Lib.hid (HXY.out.half)
            by_cases hq16 : q < 16
            · by_cases hodd : X % 2 = 1
              · have hyo := HXY.out.odd hodd
                have o1 : ((X : Int) % 2 == 1) = true := by simp; omega
                have o2 : ((Y : Int) % 2 == 0) = false := by simp; omega
                go_wp2
                go_round
                case rel => exact ⟨q + 1, X / 2, Y / 2, by omega, by go_num, by go_num, by go_num, by omega, by omega, HH⟩
                case measure => simp [intOf]; omega
              · have o1 : ((X : Int) % 2 == 1) = false := by simp; omega
                go_wp2
                go_round
                case rel => exact ⟨q + 1, X / 2, Y / 2, by omega, by go_num, by go_num, by go_num, by omega, by omega, HH⟩
                case measure => simp [intOf]; omega
            · go_wp2
              go_round
              case rel => exact ⟨k + 1, by omega, by go_num⟩
              case measure => simp [intOf]; omega
        · go_wp2
          go_ret
          exact ⟨rfl, belowN hB02 d⟩
    · have HG2 := Lib.hid hg2
      clear hg hg2
      go_enter Try.func3, Try.ntmps3
      go_wp2_with fail
      refine (wsetFact_ok _).mono ?_; rintro e w0 ⟨rfl, hB0⟩
      have h0 := h.below hB0
      go_wp2_with fail
      refine (sets_ok _ _ _ _ _ _ h0 hnc HG.out).mono ?_; rintro e w1 ⟨A1, c1, rfl, R1, hB1⟩
      have h1 := h0.below hB1
      have hB01 : Below w.heap.size w w1 := hB0.trans (hB1.mono hB0.size)
      go_wp2_with fail
      refine (sets_no _ _ _ _ _ _ h1 (by omega) HG2.out).mono ?_; rintro e w2 ⟨rfl, rfl⟩
      go_wp2_with fail
      refine (miss_any _ _ _ _ _ _ h1 hnc (by omega)).mono ?_; rintro e w2 ⟨⟨x1, x2, x3, rfl⟩, rfl⟩
      go_wp2_with fail
      refine (miss_any _ _ _ _ _ _ h1 hnc (by omega)).mono ?_; rintro e w2 ⟨⟨y1, y2, y3, rfl⟩, rfl⟩
      go_wp2
      go_ret
      exact ⟨rfl, hB01⟩
  · have HG := Lib.hid hg
    clear hg
    go_enter Try.func3, Try.ntmps3
    go_wp2_with fail
    refine (wsetFact_ok _).mono ?_; rintro e w0 ⟨rfl, hB0⟩
    have h0 := h.below hB0
    go_wp2_with fail
    refine (sets_no _ _ _ _ _ _ h0 hn HG.out).mono ?_; rintro e w1 ⟨rfl, rfl⟩
    go_wp2_with fail
    refine (sets_any _ _ _ _ _ _ h0 hnc hn).mono ?_; rintro e w2 ⟨⟨s1, s2, rfl⟩, hB2⟩
    have h2 := h0.below hB2
    have hB02 : Below w.heap.size w w2 := hB0.trans (hB2.mono hB0.size)
    go_wp2_with fail
    refine (miss_any _ _ _ _ _ _ h2 hnc hn).mono ?_; rintro e w3 ⟨⟨x1, x2, x3, rfl⟩, rfl⟩
    go_wp2_with fail
    refine (miss_any _ _ _ _ _ _ h2 hnc hn).mono ?_; rintro e w3 ⟨⟨y1, y2, y3, rfl⟩, rfl⟩
    go_wp2
    go_ret
    exact ⟨rfl, hB02⟩
end Go.Proofs.Ytjonbbmgjiegcaa
