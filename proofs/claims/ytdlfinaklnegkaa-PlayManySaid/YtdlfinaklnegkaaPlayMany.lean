/- The walk of the law PlayMany: it returns true, for every input. -/
import Derived.Test.YtdlfinaklnegkaaPlay
import Derived.Test.YtdlfinaklnegkaaSame
import Derived.Test.YtdlfinaklnegkaaOptFacts
namespace Go.Proofs.Ytdlfinaklnegkaa
open Go.ChangeShapes Go.WideShapes Go.ChangeAt Go.RowKit

set_option maxHeartbeats 1000000 in
theorem playFact_ok (w : World) : Calls Try.prog 9 #[] w fun e w' => e = .returned (.bool true) ∧ Below w.heap.size w w' := by
  go_enter Try.func9, Try.ntmps9
  go_wp2_with fail
  have h0 := RI.lit w #[.int .i64 1, .int .i64 2, .int .i64 3, .int .i64 1] 3 [1, 2, 3, 1] 4 rfl rfl
  have hB0 := (Below.refl w.heap.size w).alloc (Nat.le_refl _) (.cells #[.int .i64 1, .int .i64 2, .int .i64 3, .int .i64 1] 3)
  have hz0 := hB0.size
  have hsz : (w.alloc (.cells #[.int .i64 1, .int .i64 2, .int .i64 3, .int .i64 1] 3)).heap.size = w.heap.size + 1 := by simp
  generalize (w.alloc (.cells #[.int .i64 1, .int .i64 2, .int .i64 3, .int .i64 1] 3)) = wa at *
  have h1 := RI.lit wa #[.int .i64 2] 3 [2] 1 rfl rfl
  rw [hsz] at h1
  have hBa := (Below.refl wa.heap.size wa).alloc (Nat.le_refl _) (.cells #[.int .i64 2] 3)
  have hB1 := hB0.alloc hz0 (.cells #[.int .i64 2] 3)
  have h0' := h0.below hBa
  generalize (wa.alloc (.cells #[.int .i64 2] 3)) = wb at *
  refine (play_ok _ _ _ _ _ _ _ _ _ _ h0' h1 (by omega) (by simp [GoodReqs, AllIn])).mono ?_; rintro e w1 ⟨hh, hB2⟩
  rw [show Int.toNat 2 = 2 from rfl, play_fact] at hh
  rcases hh with ⟨A2, n2, c2, _, rfl, R2, hn2⟩ | ⟨hh, _⟩
  · have hB3 := hB1.trans (hB2.mono hB1.size)
    have hz3 := hB3.size
    have M2 : Hid (eqI [1, 3] [1, 3] = true) := by simp [Hid, eqI]
    go_wp2_with fail
    have h2 := RI.lit w1 #[.int .i64 1, .int .i64 3] 3 [1, 3] 2 rfl rfl
    refine (ints_any _ _ _ _ _ _ _ _ _ ((Row.reads R2).below ((Below.refl w1.heap.size w1).alloc (Nat.le_refl _) _)) h2 (by omega) (by omega)).mono ?_; rintro e w' ⟨rfl, d, rfl⟩
    rw [M2.out]
    go_wp2
    go_ret
    exact ⟨rfl, belowN (hB3.alloc hz3 _) _⟩
  · exact absurd rfl hh

set_option maxHeartbeats 1000000 in
theorem law_PlayMany (A A' : Option Addr) (n c n' c' : Nat) (l out : List Int) (slots : Int) (w : World) (h : RI w A n l) (hn : n ≤ 9223372036854775807) (h' : RI w A' n' out) (hn' : n' ≤ 9223372036854775807) :
    Calls Try.prog 3 #[.slice A n c, .int .i64 slots, .slice A' n' c'] w fun e w' => e = .returned (.bool true) ∧ Below w.heap.size w w' := by
  by_cases hg : GoodReqs l slots
  · obtain ⟨s, rfl⟩ : ∃ s : Nat, slots = s := ⟨slots.toNat, by have := hg.2.2.1; omega⟩
    have HL := Lib.hid h.len
    have HG := Lib.hid hg
    have hn4 : n ≤ 40 := by have := HL.out; have := hg.1; omega
    have hs1 : 1 ≤ s := by have := hg.2.2.1; omega
    have hs2 : s ≤ 8 := by have := hg.2.2.2; omega
    clear hn hg
    have HR : Hid ((playA s [] out l 0).2.2 = 0 → (someN l ≤ (playA s [] out l 0).1 ∧ (playA s [] out l 0).1 ≤ n ∧ (playA s [] out l 0).2.1.length ≤ s ∧ (playA s [] out l 0).2.1.length ≤ (playA s [] out l 0).1)) := Lib.hid (fun e => by
      obtain ⟨m, h1, h2, h3, h4, h5⟩ := playA_sched hs1 l [] out 0 (by simp) (by simp) e
      have h6 := sched_some l [] _ h2 (dd l) (ddO_nodup l) (fun x hx => ⟨(mem_dd l x).1 hx, by simp⟩)
      have h7 : someN l ≤ m := h6
      have := HL.out
      simp only [List.length_nil] at h4
      exact ⟨by omega, by omega, h3, by omega⟩)
    generalize hr : playA s [] out l 0 = r at HR
    obtain ⟨m, hd, er⟩ := r
    go_enter Try.func3, Try.ntmps3
    go_wp2_with fail
    refine (playFact_ok _).mono ?_; rintro e w0 ⟨rfl, hB0⟩
    go_wp2_with fail
    refine (play_ok _ _ _ _ _ _ _ _ _ _ (h.below hB0) (h'.below hB0) hn' HG.out).mono ?_; rintro e w1 ⟨hh, hB1⟩
    rw [Int.toNat_natCast, hr] at hh
    clear hr
    have hB01 : Below w.heap.size w w1 := hB0.trans (hB1.mono hB0.size)
    rcases hh with ⟨A2, n2, c2, he, rfl, R2, hn2⟩ | ⟨_, rfl⟩
    · obtain ⟨z1, z2, z3, z4⟩ := HR.out he
      have hln : hd.length = n2 := by have := R2.len; simpa using this
      have z1' : someN l ≤ m := z1
      have z2' : m ≤ n := z2
      have z3' : hd.length ≤ s := z3
      have z4' : hd.length ≤ m := z4
      rw [hln] at z3' z4'
      clear z1 z2 z3 z4
      clear he hln R2
      go_wp2_with fail
      refine (some_any _ _ _ _ _ (h.below hB01) (by omega)).mono ?_; rintro e w' ⟨rfl, d, rfl⟩
      generalize someN l = a at *
      go_wp2
      go_ret
      exact ⟨rfl, belowN hB01 _⟩
    · go_wp2
      go_ret
      exact ⟨rfl, hB01⟩
  · have HG := Lib.hid hg
    clear hg
    go_enter Try.func3, Try.ntmps3
    go_wp2_with fail
    refine (playFact_ok _).mono ?_; rintro e w0 ⟨rfl, hB0⟩
    go_wp2_with fail
    refine (play_no _ _ _ _ _ _ _ _ _ (h.below hB0) hn HG.out).mono ?_; rintro e w1 ⟨rfl, rfl⟩
    go_wp2
    go_ret
    exact ⟨rfl, hB0⟩

end Go.Proofs.Ytdlfinaklnegkaa
