/- The walk of the law OptSays: it returns true, for every input. -/
import Derived.Test.YtpamnnnihfjdkaaDoorDoor
import Derived.Test.YtpamnnnihfjdkaaDoorRefPages
import Derived.Test.YtpamnnnihfjdkaaDoorRefOpt
import Derived.Test.YtpamnnnihfjdkaaDoorOpt
import Derived.Test.YtpamnnnihfjdkaaDoorSame
namespace Go.Proofs.YtpamnnnihfjdkaaDoor
open Go.ChangeShapes Go.WideShapes Go.ChangeAt Go.RowKit

set_option maxHeartbeats 1000000 in
theorem law_OptSays (A : Option Addr) (n c : Nat) (l : List Int) (slots : Int) (w : World) (hh : HErr w) (h : RI w A n l) (hnc : n ≤ c) (hn : n ≤ 9223372036854775807) :
    Calls Tryd.prog 5 #[.slice A n c, .int .i64 slots] w fun e w' => e = .returned (.bool true) ∧ Below w.heap.size w w' := by
  by_cases hg : GoodReqs l slots
  · obtain ⟨s, rfl⟩ : ∃ s : Nat, slots = ((s + 1 : Nat) : Int) := ⟨slots.toNat - 1, by have := hg.2.2.1; omega⟩
    have HL := Lib.hid h.len
    have HG := Lib.hid hg
    have hn4 : n ≤ 40 := by have := HL.out; have := hg.1; omega
    have hs2 : s + 1 ≤ 8 := by have := hg.2.2.2; omega
    have HRF : Hid (optR (s + 1) [] l = optF (s + 1) [] l) := Lib.hid (optR_F (by omega) l [] [] (List.Perm.refl _) (by simp) (by simp))
    clear hn hg
    go_enter Tryd.func5, Tryd.ntmps5
    go_wp2_with fail
    refine (pages_ok _ _ _ _ _ _ h HG.out).mono ?_; rintro e w' ⟨rfl, rfl⟩
    go_wp2_with fail
    refine (ropt_ok _ _ _ _ (s + 1) _ h hn4 HG.out.2.1 (by omega) hs2).mono ?_; rintro e w1 ⟨A1, c1, A2, n2, c2, A5, n5, c5, rfl, B1, I2, I5, hn2, hn5, hB1⟩
    go_wp2_with fail
    refine (opt_ok _ _ _ _ _ _ (h.below hB1) hnc HG.out).mono ?_; rintro e w2 ⟨A3, c3, A4, n4, c4, A6, n6, c6, rfl, R3, R4, R6, hn4', hn6, hB2⟩
    have hB02 := hB1.trans (hB2.mono hB1.size)
    rw [Int.toNat_natCast] at R3 R4 R6
    rw [HRF.out] at B1 I2 I5
    have RA := Lib.hid (B1.below hB2)
    have RB := Lib.hid (Row.readsB R3)
    have RC := Lib.hid (I2.below hB2)
    have RD := Lib.hid (Row.reads R4)
    have RE := Lib.hid (I5.below hB2)
    have RF := Lib.hid (Row.reads R6)
    have HE : Hid (eqB (optF (s + 1) [] l).1 (optF (s + 1) [] l).1 = true) := by simp [Hid, eqB]
    have HF : Hid (eqI (optF (s + 1) [] l).2.1 (optF (s + 1) [] l).2.1 = true) := by simp [Hid, eqI]
    have HH : Hid (eqI (optF (s + 1) [] l).2.2 (optF (s + 1) [] l).2.2 = true) := by simp [Hid, eqI]
    clear R3 R4 R6 B1 I2 I5
    go_wp2_with fail
    refine (err_nil _).mono ?_; rintro e w' ⟨rfl, rfl⟩
    go_wp2_with fail
    refine (bools_any _ _ _ _ _ _ _ _ _ RB.out RA.out (by omega) (by omega)).mono ?_; rintro e w' ⟨rfl, d, rfl⟩
    rw [HE.out]
    go_wp2_with fail
    refine (ints_any _ _ _ _ _ _ _ _ _ (RD.out.drewN _) (RC.out.drewN _) (by omega) (by omega)).mono ?_; rintro e w' ⟨rfl, d2, rfl⟩
    rw [HF.out]
    go_wp2_with fail
    refine (ints_any _ _ _ _ _ _ _ _ _ (RF.out.drewN _) (RE.out.drewN _) (by omega) (by omega)).mono ?_; rintro e w' ⟨rfl, d3, rfl⟩
    rw [HH.out]
    go_wp2
    go_ret
    exact ⟨rfl, by simpa using belowN (belowN (belowN hB02 d) d2) d3⟩
  · have HG := Lib.hid hg
    have hne := reqsE_ne l slots hg
    have HE : Hid (eqI [] [] = true) := by simp [Hid, eqI]
    have HF : Hid (eqB [] [] = true) := by simp [Hid, eqB]
    clear hg
    go_enter Tryd.func5, Tryd.ntmps5
    go_wp2_with fail
    refine (pages_no _ _ _ _ _ _ h hn HG.out).mono ?_; rintro e w' ⟨rfl, rfl⟩
    go_wp2_with fail
    refine (opt_no _ _ _ _ _ _ h hn HG.out).mono ?_; rintro e w0 ⟨rfl, hB0⟩
    generalize reqsE l slots = er at *
    go_wp2_with fail
    refine (err_errno er _ (hh.below hB0)).mono ?_; rintro e w1 ⟨rfl, hB1⟩
    go_wp2_with fail
    refine (bools_any none none 0 0 0 0 [] [] _ ⟨rfl, fun h => absurd h (by omega)⟩ ⟨rfl, fun h => absurd h (by omega)⟩ (by omega) (by omega)).mono ?_; rintro e w' ⟨rfl, d, rfl⟩
    rw [HF.out]
    go_wp2_with fail
    refine (ints_any _ _ _ _ _ _ _ _ _ RI.nil_ RI.nil_ (by omega) (by omega)).mono ?_; rintro e w' ⟨rfl, d2, rfl⟩
    rw [HE.out]
    go_wp2_with fail
    refine (ints_any _ _ _ _ _ _ _ _ _ RI.nil_ RI.nil_ (by omega) (by omega)).mono ?_; rintro e w' ⟨rfl, d3, rfl⟩
    rw [HE.out]
    go_wp2
    go_ret
    exact ⟨rfl, by simpa using belowN (belowN (belowN (hB0.trans (hB1.mono hB0.size)) d) d2) d3⟩
end Go.Proofs.YtpamnnnihfjdkaaDoor
