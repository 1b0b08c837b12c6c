/- The walk of the law ClockSays: it returns true, for every input. -/
import Derived.Test.YtpamnnnihfjdkaaDoorDoor
import Derived.Test.YtpamnnnihfjdkaaDoorRefPages
import Derived.Test.YtpamnnnihfjdkaaDoorRefClock
import Derived.Test.YtpamnnnihfjdkaaDoorClock
import Derived.Test.YtpamnnnihfjdkaaDoorSame
namespace Go.Proofs.YtpamnnnihfjdkaaDoor
open Go.ChangeShapes Go.WideShapes Go.ChangeAt Go.RowKit

set_option maxHeartbeats 1000000 in
theorem law_ClockSays (A : Option Addr) (n c : Nat) (l : List Int) (slots : Int) (w : World) (hh : HErr w) (h : RI w A n l) (hnc : n ≤ c) (hn : n ≤ 9223372036854775807) :
    Calls Tryd.prog 3 #[.slice A n c, .int .i64 slots] w fun e w' => e = .returned (.bool true) ∧ Below w.heap.size w w' := by
  by_cases hg : GoodReqs l slots
  · obtain ⟨s, rfl⟩ : ∃ s : Nat, slots = ((s + 1 : Nat) : Int) := ⟨slots.toNat - 1, by have := hg.2.2.1; omega⟩
    have HL := Lib.hid h.len
    have HG := Lib.hid hg
    have hn4 : n ≤ 40 := by have := HL.out; have := hg.1; omega
    have hs2 : s + 1 ≤ 8 := by have := hg.2.2.2; omega
    clear hn hg
    go_enter Tryd.func3, Tryd.ntmps3
    go_wp2_with fail
    refine (pages_ok _ _ _ _ _ _ h HG.out).mono ?_; rintro e w' ⟨rfl, rfl⟩
    go_wp2_with fail
    refine (rclock_ok _ _ _ _ (s + 1) _ h hn4 (by omega) hs2).mono ?_; rintro e w1 ⟨A1, c1, A2, n2, c2, rfl, B1, I2, hn2, hB1⟩
    go_wp2_with fail
    refine (clock_ok _ _ _ _ _ _ (h.below hB1) HG.out).mono ?_; rintro e w2 ⟨A3, c3, A4, n4, c4, rfl, R3, R4, hn4', hB2⟩
    have hB02 := hB1.trans (hB2.mono hB1.size)
    rw [Int.toNat_natCast] at R3 R4
    have RA := Lib.hid (B1.below hB2)
    have RB := Lib.hid (Row.readsB R3)
    have RC := Lib.hid (I2.below hB2)
    have RD := Lib.hid (Row.reads R4)
    have HE : Hid (eqB (clockRun (s + 1) l).hits (clockRun (s + 1) l).hits = true) := by simp [Hid, eqB]
    have HF : Hid (eqI ((clockRun (s + 1) l).held.map Prod.fst) ((clockRun (s + 1) l).held.map Prod.fst) = true) := by simp [Hid, eqI]
    clear R3 R4 B1 I2
    simp only [Int.toNat_natCast]
    generalize (clockRun (s + 1) l).hand = hd at *
    have hdd : ((hd : Int) == (hd : Int)) = true := by simp
    go_wp2_with fail
    refine (err_nil _).mono ?_; rintro e w' ⟨rfl, rfl⟩
    go_wp2_with fail
    refine (bools_any _ _ _ _ _ _ _ _ _ RB.out RA.out (by omega) (by omega)).mono ?_; rintro e w' ⟨rfl, d, rfl⟩
    rw [HE.out]
    go_wp2_with fail
    refine (ints_any _ _ _ _ _ _ _ _ _ (RD.out.drewN _) (RC.out.drewN _) (by omega) (by omega)).mono ?_; rintro e w' ⟨rfl, d2, rfl⟩
    rw [HF.out]
    go_wp2
    go_ret
    exact ⟨rfl, by simpa using belowN (belowN hB02 d) d2⟩
  · have HG := Lib.hid hg
    have hne := reqsE_ne l slots hg
    have HE : Hid (eqI [] [] = true) := by simp [Hid, eqI]
    have HF : Hid (eqB [] [] = true) := by simp [Hid, eqB]
    clear hg
    go_enter Tryd.func3, Tryd.ntmps3
    go_wp2_with fail
    refine (pages_no _ _ _ _ _ _ h hn HG.out).mono ?_; rintro e w' ⟨rfl, rfl⟩
    go_wp2_with fail
    refine (clock_no _ _ _ _ _ _ h hn HG.out).mono ?_; rintro e w' ⟨rfl, rfl⟩
    generalize reqsE l slots = er at *
    go_wp2_with fail
    refine (err_errno er _ hh).mono ?_; rintro e w1 ⟨rfl, hB1⟩
    go_wp2_with fail
    refine (bools_any none none 0 0 0 0 [] [] _ ⟨rfl, fun h => absurd h (by omega)⟩ ⟨rfl, fun h => absurd h (by omega)⟩ (by omega) (by omega)).mono ?_; rintro e w' ⟨rfl, d, rfl⟩
    rw [HF.out]
    go_wp2_with fail
    refine (ints_any _ _ _ _ _ _ _ _ _ RI.nil_ RI.nil_ (by omega) (by omega)).mono ?_; rintro e w' ⟨rfl, d2, rfl⟩
    rw [HE.out]
    go_wp2
    go_ret
    exact ⟨rfl, by simpa using belowN (belowN hB1 d) d2⟩
end Go.Proofs.YtpamnnnihfjdkaaDoor
