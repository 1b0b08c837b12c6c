/- The walk of the law PhaseParts: it returns true, for every input. -/
import Derived.Test.YtdhbglkfhfimkaaPhase
import Derived.Test.YtdhbglkfhfimkaaPartsPlain
import Derived.Test.YtdhbglkfhfimkaaSame
namespace Go.Proofs.Ytdhbglkfhfimkaa
open Go.ChangeShapes Go.WideShapes Go.ChangeAt Go.RowKit

theorem in1_ok (n lo hi : Int) (w : World) (h1 : lo ≤ n) (h2 : n ≤ hi) :
    Calls Try.prog 10 #[.int .i64 n, .int .i64 lo, .int .i64 hi] w fun e w' => e = .returned (.bool true) ∧ w = w' := by
  go_enter Try.func10, Try.ntmps10
  go_wp2
  go_ret
  exact ⟨rfl, rfl⟩

set_option maxHeartbeats 400000 in
theorem phaseFact_ok (w : World) : Calls Try.prog 8 #[] w fun e w' => e = .returned (.bool true) ∧ Below w.heap.size w w' := by
  go_enter Try.func8, Try.ntmps8
  go_wp2_with fail
  have h0 := RI.lit w #[.int .i64 1, .int .i64 2, .int .i64 1, .int .i64 3, .int .i64 3, .int .i64 1, .int .i64 2] 3 [1, 2, 1, 3, 3, 1, 2] 7 rfl rfl
  have hB0 := (Below.refl w.heap.size w).alloc (Nat.le_refl _) (.cells #[.int .i64 1, .int .i64 2, .int .i64 1, .int .i64 3, .int .i64 3, .int .i64 1, .int .i64 2] 3)
  refine (starts_ok _ _ _ _ _ _ h0 (by simp [GoodReqs, AllIn])).mono ?_; rintro e w1 ⟨A2, n2, c2, rfl, R2, hn2, hB1⟩
  have hB01 := hB0.trans (hB1.mono hB0.size)
  have e2 : startsL (Int.toNat 2) [1, 2, 1, 3, 3, 1, 2] (List.length [(1 : Int), 2, 1, 3, 3, 1, 2]) = [0, 3, 6] := by decide
  rw [e2] at R2
  clear e2
  have hw1 := hB01.size
  have M2 : Hid (eqI [0, 3, 6] [0, 3, 6] = true) := by simp [Hid, eqI]
  go_wp2_with fail
  have h2 := RI.lit w1 #[.int .i64 0, .int .i64 3, .int .i64 6] 3 [0, 3, 6] 3 rfl rfl
  refine (ints_any _ _ _ _ _ _ _ _ _ ((Row.reads R2).below ((Below.refl w1.heap.size w1).alloc (Nat.le_refl _) _)) h2 (by omega) (by omega)).mono ?_; rintro e w' ⟨rfl, d, rfl⟩
  rw [M2.out]
  go_wp2
  go_ret
  exact ⟨rfl, belowN (hB01.alloc hw1 _) _⟩

set_option maxRecDepth 100000 in
set_option maxHeartbeats 4000000 in
theorem law_PhaseParts (A : Option Addr) (n c : Nat) (l : List Int) (slots : Int) (w : World) (h : RI w A n l) (hnc : n ≤ c) (hn : n ≤ 9223372036854775807) :
    Calls Try.prog 3 #[.slice A n c, .int .i64 slots] w fun e w' => e = .returned (.bool true) ∧ Below w.heap.size w w' := by
  by_cases hg : GoodReqs l slots
  · obtain ⟨s, rfl⟩ : ∃ s : Nat, slots = s := ⟨slots.toNat, by have := hg.2.2.1; omega⟩
    have HL := Lib.hid h.len
    have HG := Lib.hid hg
    have hn4 : n ≤ 40 := by have := HL.out; have := hg.1; omega
    have hs1 : 1 ≤ s := by have := hg.2.2.1; omega
    clear hn hg
    go_enter Try.func3, Try.ntmps3
    go_wp2_with fail
    refine (phaseFact_ok _).mono ?_; rintro e w0 ⟨rfl, hB0⟩
    go_wp2_with fail
    refine (starts_ok _ _ _ _ _ _ (h.below hB0) HG.out).mono ?_; rintro e w1 ⟨A3, n3, c3, rfl, R3, hn3, hB1⟩
    rw [Int.toNat_natCast] at R3
    have hB01 : Below w.heap.size w w1 := hB0.trans (hB1.mono hB0.size)
    have h1 := (h.below hB0).below hB1
    have hl3 : (startsL s l l.length).length = n3 := by have := R3.len; simpa using this
    have HL3 := Lib.hid hl3
    clear hl3
    by_cases hn0 : n = 0
    · have h30 : n3 = 0 := by have := HL3.out; have := HL.out; have := starts_le s l l.length; omega
      subst hn0
      subst h30
      go_wp2
      go_loop [8] (fun i => i = .int .i64 0) (fun i => 0)
      case atStart => rfl
      case round =>
        subst hrel
        go_wp2
        go_ret
        exact ⟨rfl, hB01⟩
    · have h30 : 0 < n3 := by have := HL3.out; have := HL.out; have := starts_pos s l l.length (by omega); omega
      obtain ⟨ad3, x0, rfl, HX0, hc0⟩ := (Row.reads R3).at_ h30
      have hx0 : x0 = 0 := by have e := HX0.out; rw [starts_first s l (by have := HL.out; omega)] at e; injection e with e; exact e.symm
      subst hx0
      have hc0' : w1.cell? ad3 = some (.int .i64 0) := hc0
      have g1 : ((n3 : Int) == 0) = false := by simp; omega
      have g2 : ((n : Int) == 0) = false := by simp; omega
      clear hc0 HX0
      go_wp2
      go_loopw [8, 9, 10] (fun i _ _ wr => ∃ k : Nat, k ≤ n3 ∧ i = .int .i64 k ∧ Below w1.heap.size w1 wr) (fun i _ _ _ => n3 - (intOf i).toNat)
      case atStart => exact ⟨0, by omega, by go_num, Below.refl _ _⟩
      case round =>
        obtain ⟨k, hk, rfl, hB⟩ := hrel
        have h3 := h1.below hB
        have R3r := R3.below hB
        have hBr : Below w.heap.size w wr := hB01.trans (hB.mono hB01.size)
        by_cases hlt : k < n3
        · obtain ⟨ad3', x, hx3, HX, hcx⟩ := (Row.reads R3r).at_ hlt
          injection hx3 with hx3
          subst hx3
          by_cases hlt1 : k + 1 < n3
          · obtain ⟨ad3', z, hx3, HZ, hcz⟩ := (Row.reads R3r).at_ hlt1
            injection hx3 with hx3
            subst hx3
            rw [add_succ] at hcz
            obtain ⟨a, b, rfl, rfl, hab, hbn, hFr, hst⟩ := starts_two s l hs1 k x z HX.out HZ.out
            rw [HL.out] at hbn
            obtain ⟨ad, y, rfl, HY, hcy⟩ := h3.at_ hbn
            have HP := Lib.hid (part_next s l b a y (by omega) HY.out hFr hst)
            have hx := RI.cut (h3.take (k := b) (by omega)) (k := a) (cap := c) (by omega) (by omega)
            have hcf : ¬ c = a := by omega
            rw [if_neg hcf] at hx
            have HX2 := Lib.hid hx
            clear hx hFr hst
            have i0 : (0 : Int) ≤ a := by omega
            have i1 : (a : Int) ≤ b := by omega
            have i2 : (b : Int) ≤ c := by omega
            have i3 : (k : Int) + 1 < n3 := by omega
            have hba : b - a ≤ 9223372036854775807 := by omega
            go_wp2_with fail
            refine (in1_ok _ _ _ _ (by omega) (by omega)).mono ?_; rintro e w' ⟨rfl, rfl⟩
            go_wp2_with fail
            refine (some_any _ _ _ _ _ HX2.out hba).mono ?_; rintro e w' ⟨rfl, d, rfl⟩
            rw [HP.out.1]
            have hcx' : (wr.drewN d).cell? (ad3.add k) = some (.int .i64 a) := hcx
            have hcy' : (wr.drewN d).cell? (ad.add b) = some (.int .i64 y) := hcy
            have HX3 := Lib.hid (RI.drewN HX2.out d)
            have hB' := belowN hB d
            clear hcx hcy HX2 hB h3 R3r hBr hcz
            generalize wr.drewN d = w3 at *
            have d1 : decide ((k : Int) + 1 < n3) = true := by simp; omega
            go_wp2
            go_quiet ((go_at_call 12; exact Calls.quiet_of_same (has_q _ _ _ _ _ _ (RI.drewN HX3.out _) hba)))
            rw [HP.out.2]
            go_wp2
            go_roundw
            case rel => exact ⟨k + 1, by omega, by go_num, belowN hB' _⟩
            case measure => simp [intOf]; omega
          · obtain ⟨a, rfl, han, hFr⟩ := starts_last s l hs1 k x HX.out (by have := HL3.out; omega)
            rw [HL.out] at han hFr
            have HP := Lib.hid (part_le s l n a hs1 hFr)
            obtain ⟨ad, _, rfl, _, _⟩ := h3.at_ (k := 0) (by omega)
            have hx := RI.cut (h3.take (k := n) (by omega)) (k := a) (cap := c) (by omega) (by omega)
            have hcf : ¬ c = a := by omega
            rw [if_neg hcf] at hx
            have HX2 := Lib.hid hx
            clear hx hFr
            have i0 : (0 : Int) ≤ a := by omega
            have i1 : (a : Int) ≤ n := by omega
            have i2 : (n : Int) ≤ c := by omega
            have i3 : ¬ (k : Int) + 1 < n3 := by omega
            have hba : n - a ≤ 9223372036854775807 := by omega
            go_wp2_with fail
            refine (in1_ok _ _ _ _ (by omega) (by omega)).mono ?_; rintro e w' ⟨rfl, rfl⟩
            go_wp2_with fail
            refine (some_any _ _ _ _ _ HX2.out hba).mono ?_; rintro e w' ⟨rfl, d, rfl⟩
            obtain ⟨q, hq⟩ : ∃ q, someN ((l.take n).drop a) = q := ⟨_, rfl⟩
            have hqs : q ≤ s := by rw [← hq]; exact HP.out
            rw [hq]
            have hq1 : ¬ (s : Int) < q := by omega
            have hq2 : decide ((k : Int) + 1 < n3) = false := by simp; omega
            have hq3 : decide (s < q) = false := by simp; omega
            clear hq
            go_wp2
            go_quiet (fail)
            go_wp2
            go_roundw
            case rel => exact ⟨k + 1, by omega, by go_num, belowN hB _⟩
            case measure => simp [intOf]; omega
        · go_wp2
          go_ret
          exact ⟨rfl, hBr⟩
  · have HG := Lib.hid hg
    clear hg
    go_enter Try.func3, Try.ntmps3
    go_wp2_with fail
    refine (phaseFact_ok _).mono ?_; rintro e w0 ⟨rfl, hB0⟩
    go_wp2_with fail
    refine (starts_no _ _ _ _ _ _ (h.below hB0) hn HG.out).mono ?_; rintro e w1 ⟨rfl, rfl⟩
    go_wp2
    go_ret
    exact ⟨rfl, hB0⟩
end Go.Proofs.Ytdhbglkfhfimkaa
