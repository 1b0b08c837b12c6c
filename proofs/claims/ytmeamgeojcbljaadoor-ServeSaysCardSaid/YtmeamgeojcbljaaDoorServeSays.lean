/- The walk of the law ServeSays: it returns true, for every input. -/
import Derived.Test.YtmeamgeojcbljaaDoorDoor
import Derived.Test.YtmeamgeojcbljaaDoorRefServers
import Derived.Test.YtmeamgeojcbljaaDoorRefDouble
import Derived.Test.YtmeamgeojcbljaaDoorRefServeLst
import Derived.Test.YtmeamgeojcbljaaDoorServeDbl
import Derived.Test.YtmeamgeojcbljaaDoorServeLst
import Derived.Test.YtmeamgeojcbljaaDoorSame
namespace Go.Proofs.YtmeamgeojcbljaaDoor
open Go.ChangeShapes Go.WideShapes Go.ChangeAt Go.RowKit

set_option maxRecDepth 100000 in
set_option maxHeartbeats 1000000 in
theorem law_ServeSays (A Ac : Option Addr) (n c m cc : Nat) (s a : List Int) (w : World) (hh : HErr w) (h : RI w A n s) (hc : RI w Ac m a) (hn : n ≤ 9223372036854775807) (hm : m ≤ 9223372036854775807) :
    Calls Tryd.prog 7 #[.slice A n c, .slice Ac m cc] w fun e w' => e = .returned (.bool true) ∧ Below w.heap.size w w' := by
  have hB0 := Below.refl w.heap.size w
  by_cases hg : GoodS s a
  · have HG := Lib.hid hg
    have HON := Lib.hid (show onL n s from ⟨h.len, hg.2.2.2.1⟩)
    have HUN := Lib.hid (fun (T : List Int) (v : Int) (h1 : Tab (RD n s a) T) (h2 : Best (NxS n) (pad3 s) a v) => serve_tab_best HON.out HG.out.2.2.2.2 h1 (best_pad HON.out.1 h2))
    have hn3 : n ≤ 3 := by have := h.len; have := hg.2.1; omega
    clear hg
    go_enter Tryd.func7, Tryd.ntmps7
    go_wp2_with fail
    refine (rservers_ok _ _ _ _ _ _ _ _ _ h hc HG.out).mono ?_; rintro e w' ⟨rfl, rfl⟩
    go_wp2_with fail
    refine (scheck_ok _ _ _ _ _ _ _ _ _ h hc HG.out).mono ?_; rintro e w' ⟨rfl, rfl⟩
    go_wp2_with fail
    refine (err_nil _).mono ?_; rintro e w' ⟨rfl, rfl⟩
    go_wp2_with fail
    refine (rdouble_ok _ _ _ _ _ _ _ _ _ h hc HG.out).mono ?_; rintro e w1 ⟨A1, c1, rfl, R1, hB1⟩
    go_wp2_with fail
    refine (rnear_ok _ _ _ _ _ _ _ _ _ (h.below hB1) (hc.below hB1) HG.out).mono ?_; rintro e w2 ⟨A2, c2, rfl, R2, hB2⟩
    have hB02 := hB1.trans (hB2.mono hB1.size)
    have R1b := R1.below hB2
    go_wp2_with fail
    refine (rsleast_ok _ _ _ _ _ _ _ _ _ (h.below hB02) (hc.below hB02) HG.out).mono ?_; rintro e w3 ⟨T, rfl, HT, hB3⟩
    have HT' := Lib.hid HT
    clear HT
    have hB03 := hB02.trans (hB3.mono hB02.size)
    have R1c := R1b.below hB3
    have R2c := R2.below hB3
    go_wp2_with fail
    refine (double_ok _ _ _ _ _ _ _ _ _ (h.below hB03) (hc.below hB03) HG.out).mono ?_; rintro e w4 ⟨A3, c3, rfl, R3, hB4⟩
    have hB04 := hB03.trans (hB4.mono hB03.size)
    have HI1 := Lib.hid (Row.reads (R1c.below hB4))
    have HI2 := Lib.hid (Row.reads (R2c.below hB4))
    have HI3 := Lib.hid (Row.reads R3)
    clear R1 R2 R1b R1c R2c R3
    have HE1 : Hid (eqI (runS dstep s a).2 (runS dstep s a).2 = true) := by simp [Hid, eqI]
    have HE2 : Hid (eqI (runS nstep s a).2 (runS nstep s a).2 = true) := by simp [Hid, eqI]
    have HNR := Lib.hid (fun V hV hcV => near_ok A Ac n c m cc s a V hV hcV HG.out)
    generalize runS dstep s a = st at *
    generalize runS nstep s a = st2 at *
    obtain ⟨sum, q⟩ := st
    obtain ⟨sum2, q2⟩ := st2
    go_wp2_with fail
    refine (err_nil _).mono ?_; rintro e w' ⟨rfl, rfl⟩
    go_wp2_with fail
    refine (ints_any _ _ _ _ _ _ _ _ _ HI3.out HI1.out (by omega) (by omega)).mono ?_; rintro e w' ⟨rfl, d5, rfl⟩
    rw [HE1.out]
    have hB5 := belowN hB04 d5
    have HI2' := Lib.hid (HI2.out.drewN d5)
    generalize w4.drewN d5 = w5 at *
    go_wp2_with fail
    refine (HNR.out _ (h.below hB5) (hc.below hB5)).mono ?_; rintro e w6 ⟨A4, c4, rfl, R4, hB6⟩
    have hB06 := hB5.trans (hB6.mono hB5.size)
    have HI4 := Lib.hid (Row.reads R4)
    have HI2b := Lib.hid (HI2'.out.below hB6)
    clear R4
    go_wp2_with fail
    refine (err_nil _).mono ?_; rintro e w' ⟨rfl, rfl⟩
    go_wp2_with fail
    refine (ints_any _ _ _ _ _ _ _ _ _ HI4.out HI2b.out (by omega) (by omega)).mono ?_; rintro e w' ⟨rfl, d7, rfl⟩
    rw [HE2.out]
    have hB7 := belowN hB06 d7
    generalize w6.drewN d7 = w7 at *
    go_wp2_with fail
    refine (sleast_ok _ _ _ _ _ _ _ _ _ (h.below hB7) (hc.below hB7) HG.out).mono ?_; rintro e w8 ⟨v, rfl, HV, hB8⟩
    have HTV := Lib.hid (HUN.out T v HT'.out HV)
    rw [HTV.out]
    clear HV
    go_wp2_with fail
    refine (err_nil _).mono ?_; rintro e w' ⟨rfl, rfl⟩
    go_wp2
    go_ret
    exact ⟨rfl, hB7.trans (hB8.mono hB7.size)⟩
  · have HG := Lib.hid hg
    have hne := serveE_ne s a hg
    have HE : Hid (eqI [] [] = true) := by simp [Hid, eqI]
    clear hg
    go_enter Tryd.func7, Tryd.ntmps7
    go_wp2_with fail
    refine (rservers_no _ _ _ _ _ _ _ _ _ h hc hn hm HG.out).mono ?_; rintro e w' ⟨rfl, rfl⟩
    go_wp2_with fail
    refine (scheck_no _ _ _ _ _ _ _ _ _ h hc hn hm HG.out).mono ?_; rintro e w' ⟨rfl, rfl⟩
    have HED := Lib.hid (fun V hV hcV => double_no A Ac n c m cc s a V hV hcV hn hm HG.out)
    have HEN := Lib.hid (fun V hV hcV => near_no A Ac n c m cc s a V hV hcV hn hm HG.out)
    have HEL := Lib.hid (fun V hV hcV => sleast_no A Ac n c m cc s a V hV hcV hn hm HG.out)
    generalize serveE s a = er at *
    go_wp2_with fail
    refine (err_errno er _ hh).mono ?_; rintro e w3 ⟨rfl, hB3⟩
    go_wp2_with fail
    refine (HED.out _ (h.below hB3) (hc.below hB3)).mono ?_; rintro e w' ⟨rfl, rfl⟩
    go_wp2_with fail
    refine (err_errno er _ (hh.below hB3)).mono ?_; rintro e w5 ⟨rfl, hB5⟩
    have hB05 := hB3.trans (hB5.mono hB3.size)
    go_wp2_with fail
    refine (ints_any _ _ _ _ _ _ _ _ _ RI.nil_ RI.nil_ (by omega) (by omega)).mono ?_; rintro e w' ⟨rfl, d4, rfl⟩
    rw [HE.out]
    have hB6 := belowN hB05 d4
    generalize w5.drewN d4 = w6 at *
    go_wp2_with fail
    refine (HEN.out _ (h.below hB6) (hc.below hB6)).mono ?_; rintro e w' ⟨rfl, rfl⟩
    go_wp2_with fail
    refine (err_errno er _ (hh.below hB6)).mono ?_; rintro e w7 ⟨rfl, hB7⟩
    have hB07 := hB6.trans (hB7.mono hB6.size)
    go_wp2_with fail
    refine (ints_any _ _ _ _ _ _ _ _ _ RI.nil_ RI.nil_ (by omega) (by omega)).mono ?_; rintro e w' ⟨rfl, d5, rfl⟩
    rw [HE.out]
    have hB8 := belowN hB07 d5
    generalize w7.drewN d5 = w8 at *
    go_wp2_with fail
    refine (HEL.out _ (h.below hB8) (hc.below hB8)).mono ?_; rintro e w9 ⟨rfl, hB9⟩
    have hB09 := hB8.trans (hB9.mono hB8.size)
    go_wp2_with fail
    refine (err_errno er _ (hh.below hB09)).mono ?_; rintro e w10 ⟨rfl, hB10⟩
    go_wp2
    go_ret
    exact ⟨rfl, hB09.trans (hB10.mono hB09.size)⟩
end Go.Proofs.YtmeamgeojcbljaaDoor
