/- The walk of the law AckSays: it returns true, for every input. -/
import Derived.Test.YtmeamgeojcbljaaDoorDoor
import Derived.Test.YtmeamgeojcbljaaDoorRefAckLeast
import Derived.Test.YtmeamgeojcbljaaDoorSame
namespace Go.Proofs.YtmeamgeojcbljaaDoor
open Go.ChangeShapes Go.WideShapes Go.ChangeAt Go.RowKit

set_option maxRecDepth 100000 in
set_option maxHeartbeats 1000000 in
theorem law_AckSays (A : Option Addr) (n c : Nat) (l : List Int) (p : Int) (w : World) (hh : HErr w) (h : RI w A n l) (hnc : n ≤ c) (hn : n ≤ 9223372036854775807) :
    Calls Tryd.prog 3 #[.slice A n c, .int .i64 p] w fun e w' => e = .returned (.bool true) ∧ Below w.heap.size w w' := by
  have hB0 := Below.refl w.heap.size w
  by_cases hg : GoodA l p
  · have HL := Lib.hid h.len
    have HG := Lib.hid hg
    have hn4 : n ≤ 20 := by have := HL.out; have := hg.1.1; omega
    clear hn hg
    go_enter Tryd.func3, Tryd.ntmps3
    go_wp2_with fail
    refine (messages_ok _ _ _ _ _ _ h HG.out).mono ?_; rintro e w' ⟨rfl, d1, rfl⟩
    have hB1 := belowN hB0 d1
    generalize w.drewN d1 = w1 at *
    go_wp2_with fail
    refine (acheck_ok _ _ _ _ _ _ (h.below hB1) HG.out).mono ?_; rintro e w' ⟨rfl, d2, rfl⟩
    have hB2 := belowN hB1 d2
    generalize w1.drewN d2 = w2 at *
    go_wp2_with fail
    refine (err_nil _).mono ?_; rintro e w' ⟨rfl, rfl⟩
    go_wp2_with fail
    refine (racks_ok _ _ _ _ _ _ (h.below hB2) HG.out).mono ?_; rintro e w3 ⟨A1, m, c1, outs, s, rfl, R3, hm, hK, hB3⟩
    have hB03 := hB2.trans (hB3.mono hB2.size)
    go_wp2_with fail
    refine (rleast_ok _ _ _ _ _ _ (h.below hB03) hnc HG.out).mono ?_; rintro e w4 ⟨k, rfl, hLP, hB4⟩
    have hB04 := hB03.trans (hB4.mono hB03.size)
    have R4 := R3.below hB4
    go_wp2_with fail
    refine (arun_ok _ _ _ _ _ _ (h.below hB04) hnc HG.out).mono ?_; rintro e w5 ⟨A2, m2, c2, outs2, s2, rfl, R5, hm2, _, _, hK2, _, hB5⟩
    obtain ⟨rfl, rfl⟩ := ackRun_det hK hK2
    have hB05 := hB04.trans (hB5.mono hB04.size)
    have RA := Lib.hid (Row.reads (R4.below hB5))
    have RB := Lib.hid (Row.reads R5)
    have HE : Hid (eqI outs2 outs2 = true) := by simp [Hid, eqI]
    clear R3 R4 R5 hK hK2
    go_wp2_with fail
    refine (err_nil _).mono ?_; rintro e w' ⟨rfl, rfl⟩
    go_wp2_with fail
    refine (ints_any _ _ _ _ _ _ _ _ _ RB.out RA.out (by omega) (by omega)).mono ?_; rintro e w' ⟨rfl, d3, rfl⟩
    rw [HE.out]
    have hB6 := belowN hB05 d3
    generalize w5.drewN d3 = w6 at *
    go_wp2_with fail
    refine (aleast_ok _ _ _ _ _ _ (h.below hB6) hnc HG.out).mono ?_; rintro e w7 ⟨B, k2, rfl, hk2, hI, hBl, _, _, hB7⟩
    have hkk : k2 = k := LeastP.uniq (by rw [hk2]; exact best_leastP hI hBl) hLP
    clear hI hBl hLP hk2
    subst hkk
    go_wp2_with fail
    refine (err_nil _).mono ?_; rintro e w' ⟨rfl, rfl⟩
    go_wp2
    go_ret
    exact ⟨rfl, hB6.trans (hB7.mono hB6.size)⟩
  · have HG := Lib.hid hg
    have hne := ackE_ne l p hg
    have HE : Hid (eqI [] [] = true) := by simp [Hid, eqI]
    clear hg
    go_enter Tryd.func3, Tryd.ntmps3
    go_wp2_with fail
    refine (messages_no _ _ _ _ _ _ h hn HG.out).mono ?_; rintro e w' ⟨rfl, d1, rfl⟩
    have hB1 := belowN hB0 d1
    generalize w.drewN d1 = w1 at *
    go_wp2_with fail
    refine (acheck_no _ _ _ _ _ _ (h.below hB1) hn HG.out).mono ?_; rintro e w' ⟨rfl, d2, rfl⟩
    have hB2 := belowN hB1 d2
    generalize w1.drewN d2 = w2 at *
    have HER : Hid (∀ V, RI V A n l → Calls Tryd.prog 13 #[.slice A n c, .int .i64 p] V (QuietRet V (.tuple #[.slice none 0 0, .int .i64 0, .iface 65 (.int .i64 (ackE l p))]))) := Lib.hid (fun V hV => arun_no A n c l p V hV hn HG.out)
    have HEL : Hid (∀ V, RI V A n l → Calls Tryd.prog 15 #[.slice A n c, .int .i64 p] V (QuietRet V (.tuple #[.int .i64 0, .iface 65 (.int .i64 (ackE l p))]))) := Lib.hid (fun V hV => aleast_no A n c l p V hV hn HG.out)
    generalize ackE l p = er at *
    go_wp2_with fail
    refine (err_errno er _ (hh.below hB2)).mono ?_; rintro e w3 ⟨rfl, hB3⟩
    have hB03 := hB2.trans (hB3.mono hB2.size)
    go_wp2_with fail
    refine (HER.out _ (h.below hB03)).mono ?_; rintro e w' ⟨rfl, d3, rfl⟩
    have hB4 := belowN hB03 d3
    generalize w3.drewN d3 = w4 at *
    go_wp2_with fail
    refine (err_errno er _ (hh.below hB4)).mono ?_; rintro e w5 ⟨rfl, hB5⟩
    have hB05 := hB4.trans (hB5.mono hB4.size)
    go_wp2_with fail
    refine (ints_any _ _ _ _ _ _ _ _ _ RI.nil_ RI.nil_ (by omega) (by omega)).mono ?_; rintro e w' ⟨rfl, d4, rfl⟩
    rw [HE.out]
    have hB6 := belowN hB05 d4
    generalize w5.drewN d4 = w6 at *
    go_wp2_with fail
    refine (HEL.out _ (h.below hB6)).mono ?_; rintro e w' ⟨rfl, d5, rfl⟩
    have hB7 := belowN hB6 d5
    generalize w6.drewN d5 = w7 at *
    go_wp2_with fail
    refine (err_errno er _ (hh.below hB7)).mono ?_; rintro e w8 ⟨rfl, hB8⟩
    go_wp2
    go_ret
    exact ⟨rfl, hB7.trans (hB8.mono hB7.size)⟩
end Go.Proofs.YtmeamgeojcbljaaDoor
