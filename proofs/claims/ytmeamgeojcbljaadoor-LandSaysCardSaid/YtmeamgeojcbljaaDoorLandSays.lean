/- The walk of the law LandSays: it returns true, for every input. -/
import Derived.Test.YtmeamgeojcbljaaDoorDoor
import Derived.Test.YtmeamgeojcbljaaDoorRefCosts
import Derived.Test.YtmeamgeojcbljaaDoorRefLand
import Derived.Test.YtmeamgeojcbljaaDoorRefLandLeast2
import Derived.Test.YtmeamgeojcbljaaDoorLand
import Derived.Test.YtmeamgeojcbljaaDoorLandLst
import Derived.Test.YtmeamgeojcbljaaDoorSame
namespace Go.Proofs.YtmeamgeojcbljaaDoor
open Go.ChangeShapes Go.WideShapes Go.ChangeAt Go.RowKit

theorem tab_least {f : Int → Int} {B : Int} (hf : ∀ x, 0 ≤ f x ∧ f x ≤ B) {s : Nat} (hs : 1 ≤ s) {l T : List Int} (hl : ∀ p ∈ l, 0 ≤ p ∧ p < 6) {v : Int} (h : Tab (fun k c => RunTo (NxL f s) 0 l (k : Int) c) T) (hv : LeastC f s l v) : minT T = v := by
  have e0 : bitsL (0 : Int).toNat = [] := by decide
  have p0 : pc 16 (0 : Int).toNat ≤ s := by have : pc 16 (0 : Int).toNat = 0 := by decide
                                            omega
  have hl2 : ∀ p ∈ l, 0 ≤ p ∧ p < 16 := fun p hp => by have := hl p hp; omega
  have key : ∀ (m' d : Int), RunTo (NxL f s) 0 l m' d → v ≤ d := fun m' d hr => by
    have h1 := runL_sched hs hl2 (Int.le_refl 0) (by decide) p0 hr
    rw [e0] at h1
    exact hv.2 d h1
  refine h.min ?_ (fun k c hr => key _ _ hr)
  obtain ⟨m', d, r1, r2⟩ := sched_runL (fun x => (hf x).1) hs hl2 (Int.le_refl 0) (by decide) p0 (by rw [e0]; simp) hv.1
  have := key _ _ r1
  obtain rfl : d = v := by omega
  have hi := runL_in (c := 6) (by omega) hf hl (Int.le_refl 0) (by decide) r1
  exact ⟨m'.toNat, by rw [Int.toNat_of_nonneg hi.1]; exact r1⟩
theorem landE_ne (l cost : List Int) (slots : Int) (h : ¬ GoodL l cost slots) : landE l cost slots ≠ 0 := by
  unfold landE
  split
  · decide
  · rename_i h1
    rw [if_neg (fun hh => h ⟨by omega, by omega, hh⟩)]; decide

set_option maxRecDepth 100000 in
set_option maxHeartbeats 1000000 in
theorem law_LandSays (A Ac : Option Addr) (n c m cc : Nat) (l cost : List Int) (slots : Int) (w : World) (hh : HErr w) (h : RI w A n l) (hc : RI w Ac m cost) (hn : n ≤ 9223372036854775807) (hm : m ≤ 9223372036854775807) :
    Calls Tryd.prog 5 #[.slice A n c, .slice Ac m cc, .int .i64 slots] w fun e w' => e = .returned (.bool true) ∧ Below w.heap.size w w' := by
  have hB0 := Below.refl w.heap.size w
  by_cases hg : GoodL l cost slots
  · have HG := Lib.hid hg
    have HM := Lib.hid hc.len
    clear hg
    have HUN := Lib.hid (fun (T : List Int) (v : Int) (h1 : Tab (fun k c => RunTo (NxL (costF cost) slots) 0 l (k : Int) c) T) (h2 : LeastC (costF cost) slots.toNat l v) =>
      tab_least (f := costF cost) (B := 20) (fun x => costAt HG.out.2.2.1 x.toNat) (s := slots.toNat) (by have := HG.out.2.2.2.2; omega) (fun p hp => by have := HG.out.2.2.2.1 p hp; have := HG.out.2.1; omega) (by rw [Int.toNat_of_nonneg (by have := HG.out.2.2.2.2; omega)]; exact h1) h2)
    go_enter Tryd.func5, Tryd.ntmps5
    go_wp2_with fail
    refine (rcosts_ok _ _ _ _ _ _ _ _ _ _ h hc HG.out).mono ?_; rintro e w' ⟨rfl, rfl⟩
    go_wp2_with fail
    refine (ldcheck_ok _ _ _ _ _ _ _ _ _ _ h hc HG.out).mono ?_; rintro e w' ⟨rfl, rfl⟩
    go_wp2_with fail
    refine (err_nil _).mono ?_; rintro e w' ⟨rfl, rfl⟩
    go_wp2_with fail
    refine (rland_ok _ _ _ _ _ _ _ _ _ _ h hc HG.out).mono ?_; rintro e w1 ⟨A1, n1, c1, A2, c2, rfl, R1, R2, hn1, hB1⟩
    go_wp2_with fail
    refine (rlandleast_ok _ _ _ _ _ _ _ _ _ _ (h.below hB1) (hc.below hB1) HG.out).mono ?_; rintro e w2 ⟨T, rfl, HT, hB2⟩
    have HT' := Lib.hid HT
    clear HT
    have hB02 := hB1.trans (hB2.mono hB1.size)
    have R1b := R1.below hB2
    have R2b := R2.below hB2
    go_wp2_with fail
    refine (ldrun_ok _ _ _ _ _ _ _ _ _ _ (h.below hB02) (hc.below hB02) HG.out).mono ?_; rintro e w3 ⟨A3, n3, c3, A4, c4, rfl, R3, R4, hn3, hB3⟩
    have hB03 := hB02.trans (hB3.mono hB02.size)
    have HI1 := Lib.hid (Row.reads (R1b.below hB3))
    have HI2 := Lib.hid (Row.reads (R2b.below hB3))
    have HI3 := Lib.hid (Row.reads R3)
    have HI4 := Lib.hid (Row.reads R4)
    clear R1 R2 R1b R2b R3 R4
    generalize landRun cost slots.toNat l = st at *
    obtain ⟨sum, H⟩ := st
    have HE1 : Hid (eqI (H.map Prod.fst) (H.map Prod.fst) = true) := by simp [Hid, eqI]
    have HE2 : Hid (eqI (H.map Prod.snd) (H.map Prod.snd) = true) := by simp [Hid, eqI]
    go_wp2_with fail
    refine (err_nil _).mono ?_; rintro e w' ⟨rfl, rfl⟩
    go_wp2_with fail
    refine (ints_any _ _ _ _ _ _ _ _ _ HI3.out HI1.out (by omega) (by omega)).mono ?_; rintro e w' ⟨rfl, d4, rfl⟩
    rw [HE1.out]
    have hB4 := belowN hB03 d4
    have HI4' := Lib.hid (HI4.out.drewN d4)
    have HI2' := Lib.hid (HI2.out.drewN d4)
    generalize w3.drewN d4 = w4 at *
    go_wp2_with fail
    refine (ints_any _ _ _ _ _ _ _ _ _ HI4'.out HI2'.out (by omega) (by omega)).mono ?_; rintro e w' ⟨rfl, d5, rfl⟩
    rw [HE2.out]
    have hB5 := belowN hB4 d5
    generalize w4.drewN d5 = w5 at *
    go_wp2_with fail
    refine (ldleast_ok _ _ _ _ _ _ _ _ _ _ (h.below hB5) (hc.below hB5) HG.out).mono ?_; rintro e w6 ⟨v, rfl, HV, hB6⟩
    have HTV := Lib.hid (HUN.out T v HT'.out HV)
    rw [HTV.out]
    clear HV
    go_wp2_with fail
    refine (err_nil _).mono ?_; rintro e w' ⟨rfl, rfl⟩
    go_wp2
    go_ret
    exact ⟨rfl, hB5.trans (hB6.mono hB5.size)⟩
  · have HG := Lib.hid hg
    have hne := landE_ne l cost slots hg
    have HE : Hid (eqI [] [] = true) := by simp [Hid, eqI]
    clear hg
    go_enter Tryd.func5, Tryd.ntmps5
    go_wp2_with fail
    refine (rcosts_no _ _ _ _ _ _ _ _ _ _ h hc hn hm HG.out).mono ?_; rintro e w' ⟨rfl, rfl⟩
    go_wp2_with fail
    refine (ldcheck_no _ _ _ _ _ _ _ _ _ _ h hc hn hm HG.out).mono ?_; rintro e w' ⟨rfl, rfl⟩
    have HER : Hid (∀ V, RI V A n l → RI V Ac m cost → Calls Tryd.prog 28 #[.slice A n c, .slice Ac m cc, .int .i64 slots] V fun e w' =>
      e = .returned (.tuple #[.int .i64 0, .slice none 0 0, .slice none 0 0, .iface 65 (.int .i64 (landE l cost slots))]) ∧ V = w') := Lib.hid (fun V hV hcV => ldrun_no A Ac n c m cc l cost slots V hV hcV hn hm HG.out)
    have HEL : Hid (∀ V, RI V A n l → RI V Ac m cost → Calls Tryd.prog 29 #[.slice A n c, .slice Ac m cc, .int .i64 slots] V fun e w' =>
      e = .returned (.tuple #[.int .i64 0, .iface 65 (.int .i64 (landE l cost slots))]) ∧ Below V.heap.size V w') := Lib.hid (fun V hV hcV => ldleast_no A Ac n c m cc l cost slots V hV hcV hn hm HG.out)
    generalize landE l cost slots = er at *
    go_wp2_with fail
    refine (err_errno er _ hh).mono ?_; rintro e w3 ⟨rfl, hB3⟩
    go_wp2_with fail
    refine (HER.out _ (h.below hB3) (hc.below hB3)).mono ?_; rintro e w' ⟨rfl, rfl⟩
    go_wp2_with fail
    refine (err_errno er _ (hh.below hB3)).mono ?_; rintro e w5 ⟨rfl, hB5⟩
    have hB05 := hB3.trans (hB5.mono hB3.size)
    go_wp2_with fail
    refine (ints_any _ _ _ _ _ _ _ _ _ RI.nil_ RI.nil_ (by omega) (by omega)).mono ?_; rintro e w' ⟨rfl, d4, rfl⟩
    rw [HE.out]
    have hB6 := belowN hB05 d4
    generalize w5.drewN d4 = w6 at *
    go_wp2_with fail
    refine (ints_any _ _ _ _ _ _ _ _ _ RI.nil_ RI.nil_ (by omega) (by omega)).mono ?_; rintro e w' ⟨rfl, d5, rfl⟩
    rw [HE.out]
    have hB7 := belowN hB6 d5
    generalize w6.drewN d5 = w7 at *
    go_wp2_with fail
    refine (HEL.out _ (h.below hB7) (hc.below hB7)).mono ?_; rintro e w8 ⟨rfl, hB8⟩
    have hB08 := hB7.trans (hB8.mono hB7.size)
    go_wp2_with fail
    refine (err_errno er _ (hh.below hB08)).mono ?_; rintro e w9 ⟨rfl, hB9⟩
    go_wp2
    go_ret
    exact ⟨rfl, hB08.trans (hB9.mono hB08.size)⟩
end Go.Proofs.YtmeamgeojcbljaaDoor
