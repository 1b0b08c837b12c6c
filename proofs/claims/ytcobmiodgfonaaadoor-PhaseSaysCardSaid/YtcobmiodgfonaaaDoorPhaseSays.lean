/- The walk of the law PhaseSays: it returns true, for every input. -/
import Derived.Test.YtcobmiodgfonaaaDoorDoor
import Derived.Test.YtcobmiodgfonaaaDoorRefPages
import Derived.Test.YtcobmiodgfonaaaDoorRefStarts
import Derived.Test.YtcobmiodgfonaaaDoorPhase
import Derived.Test.YtcobmiodgfonaaaDoorSame
namespace Go.Proofs.YtcobmiodgfonaaaDoor
open Go.ChangeShapes Go.WideShapes Go.ChangeAt Go.RowKit

set_option maxHeartbeats 1000000 in
theorem law_PhaseSays (A : Option Addr) (n c : Nat) (l : List Int) (slots : Int) (w : World) (hh : HErr w) (h : RI w A n l) (hnc : n ≤ c) (hn : n ≤ 9223372036854775807) :
    Calls Tryd.prog 6 #[.slice A n c, .int .i64 slots] w fun e w' => e = .returned (.bool true) ∧ Below w.heap.size w w' := by
  by_cases hg : GoodReqs l slots
  · obtain ⟨s, rfl⟩ : ∃ s : Nat, slots = s := ⟨slots.toNat, by have := hg.2.2.1; omega⟩
    have HL := Lib.hid h.len
    have HG := Lib.hid hg
    have hn4 : n ≤ 40 := by have := HL.out; have := hg.1; omega
    have hs1 : 1 ≤ s := by have := hg.2.2.1; omega
    have hs2 : s ≤ 8 := by have := hg.2.2.2; omega
    clear hn hg
    go_enter Tryd.func6, Tryd.ntmps6
    go_wp2_with fail
    refine (pages_ok _ _ _ _ _ _ h HG.out).mono ?_; rintro e w' ⟨rfl, rfl⟩
    go_wp2_with fail
    refine (rstarts_ok _ _ _ _ _ _ h hn4 hs1 hs2).mono ?_; rintro e w1 ⟨A1, m, c1, rfl, R1, hm1, hc1, hB1⟩
    go_wp2_with fail
    refine (starts_ok _ _ _ _ _ _ (h.below hB1) HG.out).mono ?_; rintro e w2 ⟨A2, n2, c2, rfl, R2, hn2, hB2⟩
    have hB02 := hB1.trans (hB2.mono hB1.size)
    rw [Int.toNat_natCast, HL.out] at R2
    have RA := Lib.hid (Row.reads (R1.below hB2))
    have RB := Lib.hid (Row.reads R2)
    have HE : Hid (eqI (startsL s l n) (startsL s l n) = true) := by simp [Hid, eqI]
    clear R1 R2
    go_wp2_with fail
    refine (err_nil _).mono ?_; rintro e w' ⟨rfl, rfl⟩
    go_wp2_with fail
    refine (ints_any _ _ _ _ _ _ _ _ _ RB.out RA.out (by omega) (by omega)).mono ?_; rintro e w' ⟨rfl, d, rfl⟩
    rw [HE.out]
    go_wp2
    go_ret
    exact ⟨rfl, belowN hB02 _⟩
  · have HG := Lib.hid hg
    have hne := reqsE_ne l slots hg
    have HE : Hid (eqI [] [] = true) := by simp [Hid, eqI]
    clear hg
    go_enter Tryd.func6, Tryd.ntmps6
    go_wp2_with fail
    refine (pages_no _ _ _ _ _ _ h hn HG.out).mono ?_; rintro e w' ⟨rfl, rfl⟩
    go_wp2_with fail
    refine (starts_no _ _ _ _ _ _ h hn HG.out).mono ?_; rintro e w' ⟨rfl, rfl⟩
    generalize reqsE l slots = er at *
    go_wp2_with fail
    refine (err_errno er _ hh).mono ?_; rintro e w1 ⟨rfl, hB1⟩
    go_wp2_with fail
    refine (ints_any _ _ _ _ _ _ _ _ _ RI.nil_ RI.nil_ (by omega) (by omega)).mono ?_; rintro e w' ⟨rfl, d, rfl⟩
    rw [HE.out]
    go_wp2
    go_ret
    exact ⟨rfl, belowN hB1 _⟩
end Go.Proofs.YtcobmiodgfonaaaDoor
