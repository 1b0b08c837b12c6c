/- The walk of the law AckTwice, and what the laws on acks share. -/
import Derived.Test.YtckjbcdkmbaejaaAckRun
import Derived.Test.YtckjbcdkmbaejaaAckLeast
import Derived.Test.YtckjbcdkmbaejaaAckMore
import Derived.Test.YtckjbcdkmbaejaaSame
namespace Go.Proofs.Ytckjbcdkmbaejaa
open Go.ChangeShapes Go.WideShapes Go.ChangeAt Go.RowKit

theorem lin_ok (n lo hi : Int) (w : World) (h1 : lo ≤ n) (h2 : n ≤ hi) :
    Calls Try.prog 10 #[.int .i64 n, .int .i64 lo, .int .i64 hi] w fun e w' => e = .returned (.bool true) ∧ w = w' := by
  go_enter Try.func10, Try.ntmps10
  go_wp2
  go_ret
  exact ⟨rfl, rfl⟩
theorem lin_no (n lo hi : Int) (w : World) (h : n < lo ∨ hi < n) :
    Calls Try.prog 10 #[.int .i64 n, .int .i64 lo, .int .i64 hi] w fun e w' => e = .returned (.bool false) ∧ w = w' := by
  by_cases h1 : lo ≤ n
  · have h2 : ¬ n ≤ hi := by omega
    clear h
    go_enter Try.func10, Try.ntmps10
    go_wp2
    go_ret
    exact ⟨rfl, rfl⟩
  · clear h
    go_enter Try.func10, Try.ntmps10
    go_wp2
    go_ret
    exact ⟨rfl, rfl⟩

def Any3 (w w' : World) (e : Ending) : Prop := (∃ x y z, e = .returned (.tuple #[x, y, z])) ∧ Below w.heap.size w w'
def Any2 (w w' : World) (e : Ending) : Prop := (∃ x y, e = .returned (.tuple #[x, y])) ∧ Below w.heap.size w w'
theorem below_drew (w : World) (d : Nat) : Below w.heap.size w (w.drewN d) := belowN (Below.refl _ _) d
theorem arun_any (A : Option Addr) (n c : Nat) (l : List Int) (p : Int) (w : World) (h : RI w A n l) (hnc : n ≤ c) (hn : n ≤ 9223372036854775807) :
    Calls Try.prog 8 #[.slice A n c, .int .i64 p] w fun e w' => Any3 w w' e := by
  by_cases hg : GoodA l p
  · exact (arun_ok A n c l p w h hnc hg).mono fun e w' ⟨A1, m, c1, outs, s, he, _, _, _, _, _, _, hB⟩ => ⟨⟨_, _, _, he⟩, hB⟩
  · exact (arun_no A n c l p w h hn hg).mono fun e w' ⟨he, d, hw⟩ => ⟨⟨_, _, _, he⟩, hw ▸ below_drew _ _⟩
theorem aleast_any (A : Option Addr) (n c : Nat) (l : List Int) (p : Int) (w : World) (h : RI w A n l) (hnc : n ≤ c) (hn : n ≤ 9223372036854775807) :
    Calls Try.prog 9 #[.slice A n c, .int .i64 p] w fun e w' => Any2 w w' e := by
  by_cases hg : GoodA l p
  · exact (aleast_ok A n c l p w h hnc hg).mono fun e w' ⟨B, k, he, _, _, _, _, _, hB⟩ => ⟨⟨_, _, he⟩, hB⟩
  · exact (aleast_no A n c l p w h hn hg).mono fun e w' ⟨he, d, hw⟩ => ⟨⟨_, _, he⟩, hw ▸ below_drew _ _⟩

theorem goodA_fact : GoodA [0, 1] 5 := ⟨by simp [AllIn], by
  intro i x y hx hy
  match i with
  | 0 => simp at hx hy; omega
  | i + 1 => simp at hy⟩

set_option maxHeartbeats 400000 in
theorem ackFact_ok (w : World) : Calls Try.prog 7 #[] w fun e w' => e = .returned (.bool true) ∧ Below w.heap.size w w' := by
  go_enter Try.func7, Try.ntmps7
  go_wp2_with fail
  have h0 := RI.lit w #[.int .i64 0, .int .i64 1] 3 [0, 1] 2 rfl rfl
  have hB0 := (Below.refl w.heap.size w).alloc (Nat.le_refl _) (.cells #[.int .i64 0, .int .i64 1] 3)
  refine (arun_ok _ _ _ _ _ _ h0 (by omega) goodA_fact).mono ?_; rintro e w1 ⟨A1, m1, c1, outs, s, rfl, R1, _, _, _, hA, _, hB1⟩
  obtain ⟨rfl, rfl⟩ := ackRun_fact hA
  have hm1 : m1 = 1 := by have := R1.len; simpa using this.symm
  subst hm1
  clear hA
  have hB01 := hB0.trans (hB1.mono hB0.size)
  have hw1 := hB01.size
  go_wp2_with fail
  have h1 := RI.lit w1 #[.int .i64 0, .int .i64 1] 3 [0, 1] 2 rfl rfl
  have hB2 := hB01.alloc hw1 (.cells #[.int .i64 0, .int .i64 1] 3)
  have R1' := R1.below ((Below.refl w1.heap.size w1).alloc (Nat.le_refl _) (.cells #[.int .i64 0, .int .i64 1] 3))
  refine (aleast_ok _ _ _ _ _ _ h1 (by omega) goodA_fact).mono ?_; rintro e w2 ⟨B, k, rfl, hk, hI, hBl, _, _, hB3⟩
  have hk6 : k = 6 := by rw [hk]; exact best_fact hI hBl
  subst hk6
  clear hk hI hBl
  have hB4 := hB2.trans (hB3.mono hB2.size)
  have R2 := R1'.below hB3
  have hw2 := hB4.size
  have M2 : Hid (eqI [3] [3] = true) := by simp [Hid, eqI]
  go_wp2_with fail
  have h2 := RI.lit w2 #[.int .i64 3] 3 [3] 1 rfl rfl
  refine (ints_any _ _ _ _ _ _ _ _ _ ((Row.reads R2).below ((Below.refl w2.heap.size w2).alloc (Nat.le_refl _) _)) h2 (by omega) (by omega)).mono ?_; rintro e w' ⟨rfl, d, rfl⟩
  rw [M2.out]
  go_wp2
  go_ret
  exact ⟨rfl, belowN (hB4.alloc hw2 _) _⟩

theorem law_AckTwice (A : Option Addr) (n c : Nat) (l : List Int) (p : Int) (w : World) (h : RI w A n l) (hnc : n ≤ c) (hn : n ≤ 9223372036854775807) :
    Calls Try.prog 3 #[.slice A n c, .int .i64 p] w fun e w' => e = .returned (.bool true) ∧ Below w.heap.size w w' := by
  by_cases hg : GoodA l p
  · have HL := Lib.hid h.len
    have HG := Lib.hid hg
    clear hn hg
    go_enter Try.func3, Try.ntmps3
    go_wp2_with fail
    refine (ackFact_ok _).mono ?_; rintro e w0 ⟨rfl, hB0⟩
    have h0 := h.below hB0
    go_wp2_with fail
    refine (arun_ok _ _ _ _ _ _ h0 hnc HG.out).mono ?_; rintro e w1 ⟨A1, m1, c1, outs, s, rfl, R1, _, s0, s1, hA, _, hB1⟩
    have HA := Lib.hid hA
    clear hA
    have h1 := h0.below hB1
    have hB01 := hB0.trans (hB1.mono hB0.size)
    go_wp2_with fail
    refine (aleast_ok _ _ _ _ _ _ h1 hnc HG.out).mono ?_; rintro e w2 ⟨B, k, rfl, hk, hI, hBl, k0, k1, hB3⟩
    have ht := ackRun_twice (by have := HG.out.1.2.2.1; omega) HA.out HG.out.2 hI hBl
    rw [← hk] at ht
    obtain ⟨t1, t2⟩ := ht
    have g1 : k ≤ s := t2
    clear hk hI hBl
    go_wp2
    go_ret
    exact ⟨rfl, hB01.trans (hB3.mono hB01.size)⟩
  · have HG := Lib.hid hg
    clear hg
    go_enter Try.func3, Try.ntmps3
    go_wp2_with fail
    refine (ackFact_ok _).mono ?_; rintro e w0 ⟨rfl, hB0⟩
    have h0 := h.below hB0
    go_wp2_with fail
    refine (arun_no _ _ _ _ _ _ h0 hn HG.out).mono ?_; rintro e w1 ⟨rfl, d1, rfl⟩
    have h1 := h0.drewN d1
    have hB1 := belowN hB0 d1
    generalize w0.drewN d1 = w1 at *
    go_wp2_with fail
    refine (aleast_no _ _ _ _ _ _ h1 hn HG.out).mono ?_; rintro e w2 ⟨rfl, d2, rfl⟩
    go_wp2
    go_ret
    exact ⟨rfl, belowN hB1 d2⟩
end Go.Proofs.Ytckjbcdkmbaejaa
