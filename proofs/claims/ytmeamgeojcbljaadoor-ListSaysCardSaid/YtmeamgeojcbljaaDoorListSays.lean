/- The walk of the law ListSays: it returns true, for every input. -/
import Derived.Test.YtmeamgeojcbljaaDoorDoor
import Derived.Test.YtmeamgeojcbljaaDoorRefList2
import Derived.Test.YtmeamgeojcbljaaDoorRefListLst
import Derived.Test.YtmeamgeojcbljaaDoorListRuns
import Derived.Test.YtmeamgeojcbljaaDoorListLeast
import Derived.Test.YtmeamgeojcbljaaDoorListLst
import Derived.Test.YtmeamgeojcbljaaDoorSame
namespace Go.Proofs.YtmeamgeojcbljaaDoor
open Go.ChangeShapes Go.WideShapes Go.ChangeAt Go.RowKit

set_option maxRecDepth 100000 in
set_option maxHeartbeats 1000000 in
theorem law_ListSays (n0 : Int) (Ac : Option Addr) (m cc : Nat) (a : List Int) (w : World) (hh : HErr w) (hc : RI w Ac m a) (hm : m ≤ 9223372036854775807) :
    Calls Tryd.prog 6 #[.int .i64 n0, .slice Ac m cc] w fun e w' => e = .returned (.bool true) ∧ Below w.heap.size w w' := by
  have hB0 := Below.refl w.heap.size w
  by_cases hg : GoodT n0 a
  · obtain ⟨n, rfl⟩ : ∃ n : Nat, n0 = n := ⟨n0.toNat, by have := hg.2.1; omega⟩
    have HG := Lib.hid hg
    have hn1 : 1 ≤ n := by have := hg.2.1; omega
    have hn4 : n ≤ 4 := by have := hg.2.2.1; omega
    have HUN := Lib.hid (fun (v : Int) (h : Best (NxW n) (startW n) (stepsW a) v) => tabR_best hn1 hn4 HG.out.2.2.2 h)
    have HL1 := Lib.hid (fun V hV => rlist_ok n Ac m cc a true V hV HG.out)
    have HL2 := Lib.hid (fun V hV => rlist_ok n Ac m cc a false V hV HG.out)
    have HF1 := Lib.hid (fun V hV => lfront_ok n Ac m cc a V hV HG.out)
    have HF2 := Lib.hid (fun V hV => lswap_ok n Ac m cc a V hV HG.out)
    rw [show tofB true = toF from rfl] at HL1
    rw [show tofB false = toS from rfl] at HL2
    have HE1 : Hid (eqI (runL toF n a).2 (runL toF n a).2 = true) := by simp [Hid, eqI]
    have HE2 : Hid (eqI (runL toS n a).2 (runL toS n a).2 = true) := by simp [Hid, eqI]
    generalize runL toF n a = st at *
    generalize runL toS n a = st2 at *
    obtain ⟨sum, q⟩ := st
    obtain ⟨sum2, q2⟩ := st2
    clear hg
    go_enter Tryd.func6, Tryd.ntmps6
    go_wp2_with fail
    refine (rthings_ok _ _ _ _ _ _ hc HG.out).mono ?_; rintro e w' ⟨rfl, rfl⟩
    go_wp2_with fail
    refine (lcheck_ok _ _ _ _ _ _ hc HG.out).mono ?_; rintro e w' ⟨rfl, rfl⟩
    go_wp2_with fail
    refine (err_nil _).mono ?_; rintro e w' ⟨rfl, rfl⟩
    go_wp2_with fail
    refine (HL1.out _ hc).mono ?_; rintro e w1 ⟨A1, c1, rfl, R1, hB1⟩
    go_wp2_with fail
    refine (HL2.out _ (hc.below hB1)).mono ?_; rintro e w2 ⟨A2, c2, rfl, R2, hB2⟩
    have hB02 := hB1.trans (hB2.mono hB1.size)
    have R1b := R1.below hB2
    go_wp2_with fail
    refine (rllst_ok n _ _ _ _ _ (hc.below hB02) HG.out).mono ?_; rintro e w3 ⟨rfl, hB3⟩
    have hB03 := hB02.trans (hB3.mono hB02.size)
    have R1c := R1b.below hB3
    have R2c := R2.below hB3
    obtain ⟨T, hT⟩ : ∃ T, minT (tabR (rowsR n) n a) = T := ⟨_, rfl⟩
    rw [hT] at HUN ⊢
    clear hT
    go_wp2_with fail
    refine (HF1.out _ (hc.below hB03)).mono ?_; rintro e w4 ⟨A3, c3, rfl, R3, hB4⟩
    have hB04 := hB03.trans (hB4.mono hB03.size)
    have HI1 := Lib.hid (Row.reads (R1c.below hB4))
    have HI2 := Lib.hid (Row.reads (R2c.below hB4))
    have HI3 := Lib.hid (Row.reads R3)
    clear R1 R2 R1b R1c R2c R3
    go_wp2_with fail
    refine (err_nil _).mono ?_; rintro e w' ⟨rfl, rfl⟩
    go_wp2_with fail
    refine (ints_any _ _ _ _ _ _ _ _ _ HI3.out HI1.out (by omega) (by omega)).mono ?_; rintro e w' ⟨rfl, d5, rfl⟩
    rw [HE1.out]
    have hB5 := belowN hB04 d5
    have HI2' := Lib.hid (HI2.out.drewN d5)
    generalize w4.drewN d5 = w5 at *
    go_wp2_with fail
    refine (HF2.out _ (hc.below hB5)).mono ?_; rintro e w6 ⟨A4, c4, rfl, R4, hB6⟩
    have hB06 := hB5.trans (hB6.mono hB5.size)
    have HI4 := Lib.hid (Row.reads R4)
    have HI2b := Lib.hid (HI2'.out.below hB6)
    clear R4
    go_wp2_with fail
    refine (err_nil _).mono ?_; rintro e w' ⟨rfl, rfl⟩
    go_wp2_with fail
    refine (ints_any _ _ _ _ _ _ _ _ _ HI4.out HI2b.out (by omega) (by omega)).mono ?_; rintro e w' ⟨rfl, d7, rfl⟩
    rw [HE2.out]
    have hB7 := belowN hB06 d7
    generalize w6.drewN d7 = w7 at *
    go_wp2_with fail
    refine (lleast_ok n _ _ _ _ _ (hc.below hB7) HG.out).mono ?_; rintro e w8 ⟨v, rfl, HV, hB8⟩
    have HTV := HUN.out v HV
    subst HTV
    clear HV
    go_wp2_with fail
    refine (err_nil _).mono ?_; rintro e w' ⟨rfl, rfl⟩
    go_wp2
    go_ret
    exact ⟨rfl, hB7.trans (hB8.mono hB7.size)⟩
  · have HG := Lib.hid hg
    have hne := listE_ne n0 a hg
    have HE : Hid (eqI [] [] = true) := by simp [Hid, eqI]
    clear hg
    go_enter Tryd.func6, Tryd.ntmps6
    go_wp2_with fail
    refine (rthings_no _ _ _ _ _ _ hc hm HG.out).mono ?_; rintro e w' ⟨rfl, rfl⟩
    go_wp2_with fail
    refine (lcheck_no _ _ _ _ _ _ hc hm HG.out).mono ?_; rintro e w' ⟨rfl, rfl⟩
    have HED := Lib.hid (fun V hV => lfront_no n0 Ac m cc a V hV hm HG.out)
    have HEN := Lib.hid (fun V hV => lswap_no n0 Ac m cc a V hV hm HG.out)
    have HEL := Lib.hid (fun V hV => lleast_no n0 Ac m cc a V hV hm HG.out)
    generalize listE n0 a = er at *
    go_wp2_with fail
    refine (err_errno er _ hh).mono ?_; rintro e w3 ⟨rfl, hB3⟩
    go_wp2_with fail
    refine (HED.out _ (hc.below hB3)).mono ?_; rintro e w' ⟨rfl, rfl⟩
    go_wp2_with fail
    refine (err_errno er _ (hh.below hB3)).mono ?_; rintro e w5 ⟨rfl, hB5⟩
    have hB05 := hB3.trans (hB5.mono hB3.size)
    go_wp2_with fail
    refine (ints_any _ _ _ _ _ _ _ _ _ RI.nil_ RI.nil_ (by omega) (by omega)).mono ?_; rintro e w' ⟨rfl, d4, rfl⟩
    rw [HE.out]
    have hB6 := belowN hB05 d4
    generalize w5.drewN d4 = w6 at *
    go_wp2_with fail
    refine (HEN.out _ (hc.below hB6)).mono ?_; rintro e w' ⟨rfl, rfl⟩
    go_wp2_with fail
    refine (err_errno er _ (hh.below hB6)).mono ?_; rintro e w7 ⟨rfl, hB7⟩
    have hB07 := hB6.trans (hB7.mono hB6.size)
    go_wp2_with fail
    refine (ints_any _ _ _ _ _ _ _ _ _ RI.nil_ RI.nil_ (by omega) (by omega)).mono ?_; rintro e w' ⟨rfl, d5, rfl⟩
    rw [HE.out]
    have hB8 := belowN hB07 d5
    generalize w7.drewN d5 = w8 at *
    go_wp2_with fail
    refine (HEL.out _ (hc.below hB8)).mono ?_; rintro e w9 ⟨rfl, hB9⟩
    have hB09 := hB8.trans (hB9.mono hB8.size)
    go_wp2_with fail
    refine (err_errno er _ (hh.below hB09)).mono ?_; rintro e w10 ⟨rfl, hB10⟩
    go_wp2
    go_ret
    exact ⟨rfl, hB09.trans (hB10.mono hB09.size)⟩
end Go.Proofs.YtmeamgeojcbljaaDoor
