/- The walk of the law WsetSlope: it returns true, for every input. -/
import Derived.Test.YtjonbbmgjiegcaaWsetLaw
import Derived.Test.YtjonbbmgjiegcaaWsetSlopePlain
namespace Go.Proofs.Ytjonbbmgjiegcaa
open Go.ChangeShapes Go.WideShapes Go.ChangeAt Go.RowKit

set_option maxRecDepth 100000 in
set_option maxHeartbeats 4000000 in
theorem law_WsetSlope (A : Option Addr) (n c : Nat) (l : List Int) (v : Int) (w : World) (h : RI w A n l) (hnc : n ≤ c) (hn : n ≤ 9223372036854775807) :
    Calls Try.prog 4 #[.slice A n c, .int .i64 v] w fun e w' => e = .returned (.bool true) ∧ Below w.heap.size w w' := by
  by_cases hg : GoodW l v
  · obtain ⟨u, rfl⟩ : ∃ u : Nat, v = u := ⟨v.toNat, by have := hg.2.1; omega⟩
    have HL := Lib.hid h.len
    have HG := Lib.hid hg
    have hn4 : n ≤ 40 := by have := HL.out; have := hg.1.1; omega
    have hu1 : 1 ≤ u := by have := hg.2.1; omega
    have hu2 : u ≤ 40 := by have := hg.2.2; omega
    clear hn
    by_cases hg2 : GoodW l ((u : Int) + 1)
    · have HG2 := Lib.hid hg2
      clear hg hg2
      go_enter Try.func4, Try.ntmps4
      go_wp2_with fail
      refine (wsetFact_ok _).mono ?_; rintro e w0 ⟨rfl, hB0⟩
      have h0 := h.below hB0
      have HSL := Lib.hid (slope l u n (by have := HL.out; omega))
      have q1 := missW_le l u n
      have q5 : sumW l (u + 1) n ≤ 1600 := by
        have a1 := sumW_le l (u + 1) n
        have a2 : n * l.length ≤ 40 * 40 := Nat.mul_le_mul hn4 (by have := HL.out; omega)
        omega
      have q6 : sumW l u n ≤ 1600 := by
        have a1 := sumW_le l u n
        have a2 : n * l.length ≤ 40 * 40 := Nat.mul_le_mul hn4 (by have := HL.out; omega)
        omega
      go_wp2_with fail
      refine (miss_ok _ _ _ _ _ _ h0 hnc HG.out).mono ?_; rintro e w' ⟨rfl, rfl⟩
      rw [Int.toNat_natCast]
      go_wp2_with fail
      refine (miss_ok _ _ _ _ _ _ h0 hnc HG2.out).mono ?_; rintro e w' ⟨rfl, rfl⟩
      rw [show ((u : Int) + 1).toNat = u + 1 by omega]
      have HZ0 : Hid (n = 0 → missW l u n = 0 ∧ sumW l u n = 0 ∧ sumW l (u + 1) n = 0) := Lib.hid (by intro hh; subst hh; exact ⟨rfl, rfl, rfl⟩)
      generalize missW l u n = a at *
      generalize sumW l u n = x at *
      generalize sumW l (u + 1) n = y at *
      go_wp2_with fail
      refine (sets_ok _ _ _ _ _ _ h0 hnc HG.out).mono ?_; rintro e w1 ⟨A1, c1, rfl, R1, hB1⟩
      rw [Int.toNat_natCast] at R1
      have hB01 : Below w.heap.size w w1 := hB0.trans (hB1.mono hB0.size)
      by_cases hn0 : n = 0
      · obtain ⟨rfl, rfl, rfl⟩ := HZ0.out hn0
        subst hn0
        go_wp2
        go_ret
        exact ⟨rfl, hB01⟩
      · obtain ⟨N, rfl⟩ : ∃ N, n = N + 1 := ⟨n - 1, by omega⟩
        obtain ⟨ad1, s0, rfl, HA1, hc1⟩ := (Row.reads R1).at_ (k := N) (by omega)
        have e1 : s0 = ((mask (lastW (l.take (N + 1)) u) : Nat) : Int) := by have := HA1.out; rw [setsL_at l u (N + 1) N (by omega)] at this; injection this with this; exact this.symm
        have hin : AllIn (lastW (l.take (N + 1)) u) 0 15 := fun x hx => HG.out.1.2.1 x (List.mem_of_mem_take (lastW_mem hx))
        have hM1 := mask_lt _ hin
        have HP := Lib.hid (mask_some _ hin)
        clear hin HA1 R1 HZ0
        generalize mask (lastW (l.take (N + 1)) u) = X0 at *
        subst e1
        have g1 : ¬ (X0 : Int) < 0 := by omega
        have g2 : ¬ (65535 : Int) < X0 := by omega
        have g3 : ¬ X0 > 65535 := by omega
        go_wp2
        go_loop [14, 15] (fun z s => ∃ j X q : Nat, j ≤ 16 ∧ s = .int .i64 (X : Nat) ∧ z = .int .i64 (q : Nat) ∧ X < 65536 ∧ q + j ≤ 16 ∧ Hid (X < 2 ^ j ∧ q + pc j X = someN (lastW (l.take (N + 1)) u))) (fun _ s => (intOf s).toNat)
        case atStart => exact ⟨16, X0, 0, by omega, rfl, by go_num, hM1, by omega, Lib.hid ⟨hM1, by rw [HP.out]; omega⟩⟩
        case round =>
          obtain ⟨j, X, q, hj, rfl, rfl, hX, hqj, HX⟩ := hrel
          by_cases h0X : 0 < X
          · obtain ⟨i, rfl⟩ : ∃ i, j = i + 1 := ⟨j - 1, by
              rcases j with _ | j
              · have := HX.out.1; simp at this; omega
              · omega⟩
            have h0X' : (0 : Int) < X := by omega
            go_wp2
            go_round
            case rel => exact ⟨i, X / 2, q + X % 2, by omega, by go_num, by go_num, by omega, by omega, Lib.hid ⟨by have := HX.out.1; rw [Nat.pow_succ] at this; omega, by
              have h2 := HX.out.2
              have h3 : pc (i + 1) X = X % 2 + pc i (X / 2) := rfl
              omega⟩⟩
            case measure => simp [intOf]; omega
          · have hX0 : X = 0 := by omega
            subst hX0
            have hqq : q = someN (lastW (l.take (N + 1)) u) := by have := HX.out.2; rw [pc_zero] at this; exact this
            have hsl := HSL.out
            rw [← hqq] at hsl
            clear hqq HX
            have hfin : (((y : Int) - x) == ((a : Int) - q)) = true := by simp; omega
            clear hsl
            go_wp2
            go_ret
            exact ⟨rfl, hB01⟩
    · have HG2 := Lib.hid hg2
      clear hg hg2
      go_enter Try.func4, Try.ntmps4
      go_wp2_with fail
      refine (wsetFact_ok _).mono ?_; rintro e w0 ⟨rfl, hB0⟩
      have h0 := h.below hB0
      go_wp2_with fail
      refine (miss_ok _ _ _ _ _ _ h0 hnc HG.out).mono ?_; rintro e w' ⟨rfl, rfl⟩
      go_wp2_with fail
      refine (miss_no _ _ _ _ _ _ h0 (by omega) HG2.out).mono ?_; rintro e w' ⟨rfl, rfl⟩
      go_wp2_with fail
      refine (sets_any _ _ _ _ _ _ h0 hnc (by omega)).mono ?_; rintro e w2 ⟨⟨s1, s2, rfl⟩, hB2⟩
      go_wp2
      go_ret
      exact ⟨rfl, hB0.trans (hB2.mono hB0.size)⟩
  · have HG := Lib.hid hg
    clear hg
    go_enter Try.func4, Try.ntmps4
    go_wp2_with fail
    refine (wsetFact_ok _).mono ?_; rintro e w0 ⟨rfl, hB0⟩
    have h0 := h.below hB0
    go_wp2_with fail
    refine (miss_no _ _ _ _ _ _ h0 hn HG.out).mono ?_; rintro e w' ⟨rfl, rfl⟩
    go_wp2_with fail
    refine (miss_any _ _ _ _ _ _ h0 hnc hn).mono ?_; rintro e w' ⟨⟨x1, x2, x3, rfl⟩, rfl⟩
    go_wp2_with fail
    refine (sets_any _ _ _ _ _ _ h0 hnc hn).mono ?_; rintro e w2 ⟨⟨s1, s2, rfl⟩, hB2⟩
    go_wp2
    go_ret
    exact ⟨rfl, hB0.trans (hB2.mono hB0.size)⟩
end Go.Proofs.Ytjonbbmgjiegcaa
