/- Plain words: the bits of a number below 2^16, counted by halves; no program in sight. -/
import Derived.Test.YtmeamgeojcbljaaDoorMask
import Derived.KernelRfl
namespace Go.Proofs.YtmeamgeojcbljaaDoor
def n1 (x : Nat) : Nat := (x / 2 &&& 6148914691236517205) + (x &&& 6148914691236517205)
def n2 (x : Nat) : Nat := (x / 4 &&& 3689348814741910323) + (x &&& 3689348814741910323)
def n3 (x : Nat) : Nat := (x / 16 + x) &&& 1085102592571150095
def n4 (x : Nat) : Nat := x + x / 256
def n5 (x : Nat) : Nat := x + x / 65536
def n6 (x : Nat) : Nat := x + x / 4294967296
def onesN (x : Nat) : Nat := n6 (n5 (n4 (n3 (n2 (n1 x))))) &&& 127
def onesChk (h : Nat) : Bool := (List.range 256).all fun k => Nat.beq (onesN (256 * h + k)) (pc 16 (256 * h + k))
theorem onesChk_ok : (List.range 256).all onesChk = true := by kernel_rfl
theorem onesN_pc (x : Nat) (h : x < 65536) : onesN x = pc 16 x := by
  have h1 := List.all_eq_true.1 onesChk_ok (x / 256) (List.mem_range.2 (by omega))
  have h2 := List.all_eq_true.1 h1 (x % 256) (List.mem_range.2 (by omega))
  rw [show 256 * (x / 256) + x % 256 = x by omega] at h2
  exact Nat.eq_of_beq_eq_true h2
end Go.Proofs.YtmeamgeojcbljaaDoor
