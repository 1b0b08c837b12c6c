/- The walk of larderwicklaw1.faults: how often pages are not there, in each of the four ways. -/
import Derived.Test.YthppmdoomcpbkaaClock
import Derived.Test.YthppmdoomcpbkaaFifo
import Derived.Test.YthppmdoomcpbkaaLru
import Derived.Test.YthppmdoomcpbkaaFlush
import Derived.Test.YthppmdoomcpbkaaFewPlain
import Derived.Test.YthppmdoomcpbkaaSame
namespace Go.Proofs.Ythppmdoomcpbkaa
open Go.ChangeShapes Go.WideShapes Go.ChangeAt Go.RowKit

def FaultRes (w w' : World) (e : Ending) (m : Nat) : Prop := e = .returned (.tuple #[.int .i64 ((m : Nat) : Int), .bool true]) ∧ Below w.heap.size w w'
theorem misses_q (A : Option Addr) (n c : Nat) (l : List Bool) (w : World) (h : RB w A n l) (hn : n ≤ 9223372036854775807) :
    Calls Try.prog 11 #[.slice A n c] w fun e w' => e = .returned (.int .i64 (missN l)) ∧ w' = w :=
  (misses_any A n c l w h hn).mono fun _ _ ⟨h1, h2⟩ => ⟨h1, h2.symm⟩

theorem faults_ok (kd : Nat) (hkd : kd ≤ 3) (A : Option Addr) (n c : Nat) (l : List Int) (s : Nat) (w : World) (h : RI w A n l) (hg : GoodReqs l (s : Int)) :
    Calls Try.prog 20 #[.int .i64 ((kd : Nat) : Int), .slice A n c, .int .i64 (s : Int)] w fun e w' => FaultRes w w' e (missN (hitsK kd s l)) := by
  have HG := Lib.hid hg
  have HL := Lib.hid h.len
  have hn : n ≤ 40 := by have := HL.out; have := hg.1; omega
  clear hg
  have hk : kd = 0 ∨ kd = 1 ∨ kd = 2 ∨ kd = 3 := by omega
  rcases hk with rfl | rfl | rfl | rfl
  · go_enter Try.func20, Try.ntmps20
    go_wp2_with fail
    refine (lru_ok _ _ _ _ _ _ h HG.out).mono ?_; rintro e w1 ⟨A1, c1, A2, n2, c2, rfl, R1, R2, hn2, hB1⟩
    rw [Int.toNat_natCast] at R1
    have RH := Lib.hid (Row.readsB R1)
    clear R1 R2
    go_wp2
    go_quiet ((go_at_call 11; exact Calls.quiet_of_same (misses_q _ _ _ _ _ (RH.out.drewN _) (by omega))))
    go_wp2
    go_ret2
    exact ⟨rfl, belowN hB1 _⟩
  · go_enter Try.func20, Try.ntmps20
    go_wp2_with fail
    refine (fifo_ok _ _ _ _ _ _ h HG.out).mono ?_; rintro e w1 ⟨A1, c1, A2, n2, c2, rfl, R1, R2, hn2, hB1⟩
    rw [Int.toNat_natCast] at R1
    have RH := Lib.hid (Row.readsB R1)
    clear R1 R2
    go_wp2
    go_quiet ((go_at_call 11; exact Calls.quiet_of_same (misses_q _ _ _ _ _ (RH.out.drewN _) (by omega))))
    go_wp2
    go_ret2
    exact ⟨rfl, belowN hB1 _⟩
  · go_enter Try.func20, Try.ntmps20
    go_wp2_with fail
    refine (clock_ok _ _ _ _ _ _ h HG.out).mono ?_; rintro e w1 ⟨A1, c1, A2, n2, c2, rfl, R1, R2, hn2, hB1⟩
    rw [Int.toNat_natCast] at R1
    have RH := Lib.hid (Row.readsB R1)
    clear R1 R2
    go_wp2
    go_quiet ((go_at_call 11; exact Calls.quiet_of_same (misses_q _ _ _ _ _ (RH.out.drewN _) (by omega))))
    go_wp2
    go_ret2
    exact ⟨rfl, belowN hB1 _⟩
  · go_enter Try.func20, Try.ntmps20
    go_wp2_with fail
    refine (flush_ok _ _ _ _ _ _ h HG.out).mono ?_; rintro e w1 ⟨A1, c1, A2, n2, c2, rfl, R1, R2, hn2, hB1⟩
    rw [Int.toNat_natCast] at R1
    have RH := Lib.hid (Row.readsB R1)
    clear R1 R2
    go_wp2
    go_quiet ((go_at_call 11; exact Calls.quiet_of_same (misses_q _ _ _ _ _ (RH.out.drewN _) (by omega))))
    go_wp2
    go_ret2
    exact ⟨rfl, belowN hB1 _⟩
end Go.Proofs.Ythppmdoomcpbkaa
