/- The walk of the law PlaySays: it returns true, for every input. -/
import Derived.Test.YtpamnnnihfjdkaaDoorDoor
import Derived.Test.YtpamnnnihfjdkaaDoorRefPages
import Derived.Test.YtpamnnnihfjdkaaDoorRefPlay
import Derived.Test.YtpamnnnihfjdkaaDoorPlay
import Derived.Test.YtpamnnnihfjdkaaDoorSame
namespace Go.Proofs.YtpamnnnihfjdkaaDoor
open Go.ChangeShapes Go.WideShapes Go.ChangeAt Go.RowKit

set_option maxHeartbeats 2000000 in
theorem law_PlaySays (A A' : Option Addr) (n c n' c' : Nat) (l out : List Int) (slots : Int) (w : World) (hh : HErr w) (h : RI w A n l) (hn : n ≤ 9223372036854775807) (h' : RI w A' n' out) (hnc' : n' ≤ c') (hn' : n' ≤ 9223372036854775807) :
    Calls Tryd.prog 4 #[.slice A n c, .int .i64 slots, .slice A' n' c'] w fun e w' => e = .returned (.bool true) ∧ Below w.heap.size w w' := by
  by_cases hg : GoodReqs l slots
  · obtain ⟨s, rfl⟩ : ∃ s : Nat, slots = s := ⟨slots.toNat, by have := hg.2.2.1; omega⟩
    have HL := Lib.hid h.len
    have HG := Lib.hid hg
    have hn4 : n ≤ 40 := by have := HL.out; have := hg.1; omega
    have hs1 : 1 ≤ s := by have := hg.2.2.1; omega
    have hs2 : s ≤ 8 := by have := hg.2.2.2; omega
    have HER := Lib.hid (playA_err (s := s) l [] out 0)
    have HMN : Hid ((playA s [] out l 0).1 ≤ 40) := Lib.hid (by
      rcases playA_err (s := s) l [] out 0 with e | e
      · obtain ⟨m, h1, _, _, _, h5⟩ := playA_sched hs1 l [] out 0 (by simp) (by simp) e
        have := HL.out; omega
      · omega)
    clear hn hg
    go_enter Tryd.func4, Tryd.ntmps4
    go_wp2_with fail
    refine (pages_ok _ _ _ _ _ _ h HG.out).mono ?_; rintro e w' ⟨rfl, rfl⟩
    go_wp2_with fail
    refine (playCheck_ok _ _ _ _ _ _ h HG.out).mono ?_; rintro e w' ⟨rfl, rfl⟩
    go_wp2_with fail
    refine (err_nil _).mono ?_; rintro e w' ⟨rfl, rfl⟩
    go_wp2_with fail
    refine (rplay_ok _ _ _ _ _ _ _ _ _ _ h hn4 hs1 hs2 h' hn' hnc').mono ?_; rintro e w1 ⟨A1, n1, c1, rfl, I1, hn1, hB1⟩
    have hh1 := hh.below hB1
    go_wp2_with fail
    refine (play_ok _ _ _ _ _ _ _ _ _ _ (h.below hB1) (h'.below hB1) hn' HG.out).mono ?_; rintro e w2 ⟨hP, hB2⟩
    rw [Int.toNat_natCast] at hP
    have hB02 := hB1.trans (hB2.mono hB1.size)
    have hh2 := hh1.below hB2
    have I2 := I1.below hB2
    clear I1
    generalize playA s [] out l 0 = r at *
    obtain ⟨m, hd, er⟩ := r
    have HE : Hid (eqI hd hd = true) := by simp [Hid, eqI]
    have HZ : Hid (eqI [] [] = true) := by simp [Hid, eqI]
    rcases hP with ⟨A4, n4, c4, he, rfl, R4, hn4'⟩ | ⟨hne, rfl⟩
    · have he' : er = 0 := he
      subst he'
      have RK := Lib.hid (Row.reads R4)
      have R2 := Lib.hid I2
      clear R4 I2
      have hmm : ((m : Int) == m) = true := by simp
      go_wp2_with fail
      refine (err_nil _).mono ?_; rintro e w' ⟨rfl, rfl⟩
      go_wp2_with fail
      refine (ints_any _ _ _ _ _ _ _ _ _ RK.out R2.out (by omega) (by omega)).mono ?_; rintro e w' ⟨rfl, d, rfl⟩
      rw [HE.out]
      go_wp2
      go_ret
      exact ⟨rfl, belowN hB02 _⟩
    · have h3 := HER.out
      obtain ⟨e1, e2, _⟩ := h3.resolve_left hne
      have e1' : m = 0 := e1
      have e2' : hd = [] := e2
      subst e1' e2'
      have R2 := Lib.hid I2
      clear I2 hne
      go_wp2_with fail
      refine (err_errno er _ hh2).mono ?_; rintro e w3 ⟨rfl, hB3⟩
      go_wp2_with fail
      refine (ints_any _ _ _ _ _ _ _ _ _ RI.nil_ (R2.out.below hB3) (by omega) (by omega)).mono ?_; rintro e w' ⟨rfl, d, rfl⟩
      rw [HZ.out]
      go_wp2
      go_ret
      exact ⟨rfl, belowN (hB02.trans (hB3.mono hB02.size)) _⟩
  · have HG := Lib.hid hg
    have hne := reqsE_ne l slots hg
    have HE : Hid (eqI [] [] = true) := by simp [Hid, eqI]
    have HN : Hid (∀ w1, RI w1 A n l → Calls Tryd.prog 14 #[.slice A n c, .int .i64 slots, .slice A' n' c'] w1 fun e w' => e = .returned (.tuple #[.int .i64 0, .slice none 0 0, .iface 53 (.int .i64 (reqsE l slots))]) ∧ w1 = w') := Lib.hid (fun w1 h1 => play_no A A' n c n' c' l slots w1 h1 hn hg)
    clear hg
    go_enter Tryd.func4, Tryd.ntmps4
    go_wp2_with fail
    refine (pages_no _ _ _ _ _ _ h hn HG.out).mono ?_; rintro e w' ⟨rfl, rfl⟩
    go_wp2_with fail
    refine (playCheck_no _ _ _ _ _ _ h hn HG.out).mono ?_; rintro e w' ⟨rfl, rfl⟩
    generalize reqsE l slots = er at *
    go_wp2_with fail
    refine (err_errno er _ hh).mono ?_; rintro e w1 ⟨rfl, hB1⟩
    have hh1 := hh.below hB1
    go_wp2_with fail
    refine (HN.out _ (h.below hB1)).mono ?_; rintro e w' ⟨rfl, rfl⟩
    go_wp2_with fail
    refine (err_errno er _ hh1).mono ?_; rintro e w2 ⟨rfl, hB2⟩
    go_wp2_with fail
    refine (ints_any _ _ _ _ _ _ _ _ _ RI.nil_ RI.nil_ (by omega) (by omega)).mono ?_; rintro e w' ⟨rfl, d, rfl⟩
    rw [HE.out]
    go_wp2
    go_ret
    exact ⟨rfl, belowN (hB1.trans (hB2.mono hB1.size)) _⟩
end Go.Proofs.YtpamnnnihfjdkaaDoor
