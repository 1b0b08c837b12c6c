/- The walk of math/bits.OnesCount below 2^16: it counts the bits. -/
import Derived.Test.YtmeamgeojcbljaaDoorInts
import Derived.Test.YtmeamgeojcbljaaDoorOnesPlain
import Derived.Outline
import Derived.KernelRfl
namespace Go.Proofs.YtmeamgeojcbljaaDoor
open Go.ChangeShapes Go.WideShapes Go.ChangeAt Go.RowKit

def on1 (x : Int) : Int := IntKind.u64.wrap (bits BinOp.and IntKind.u64 (x / 2) 6148914691236517205 + bits BinOp.and IntKind.u64 x 6148914691236517205)
def on2 (x : Int) : Int := IntKind.u64.wrap (bits BinOp.and IntKind.u64 (x / 4) 3689348814741910323 + bits BinOp.and IntKind.u64 x 3689348814741910323)
def on3 (x : Int) : Int := bits BinOp.and IntKind.u64 (IntKind.u64.wrap (x / 16 + x)) 1085102592571150095
def on4 (x : Int) : Int := IntKind.u64.wrap (x + x / 256)
def on5 (x : Int) : Int := IntKind.u64.wrap (x + x / 65536)
def on6 (x : Int) : Int := IntKind.u64.wrap (x + x / 4294967296)
def onesE (x : Int) : Int := bits BinOp.and IntKind.i64 (wrap64 (on6 (on5 (on4 (on3 (on2 (on1 x))))))) 127

theorem ones64 (x : Nat) (hx : x < 65536) (w : World) :
    Calls Tryd.prog 97 #[.int .u64 x] w fun e w' => e = .returned (.int .i64 (onesE x)) ∧ w = w' := by
  go_enter Tryd.func97, Tryd.ntmps97
  go_wp2
  go_ret
  exact ⟨rfl, rfl⟩

theorem bits_u64 (a b : Nat) (ha : a < 18446744073709551616) (hb : b < 18446744073709551616) : bits BinOp.and IntKind.u64 (a : Int) (b : Int) = ((a &&& b : Nat) : Int) := by
  have h : a &&& b ≤ a := Nat.and_le_left
  show IntKind.u64.wrap (((BitVec.ofInt 64 (a : Int) &&& BitVec.ofInt 64 (b : Int)).toNat : Nat) : Int) = _
  rw [BitVec.ofInt_natCast, BitVec.ofInt_natCast, BitVec.toNat_and, BitVec.toNat_ofNat, BitVec.toNat_ofNat, Nat.mod_eq_of_lt ha, Nat.mod_eq_of_lt hb]
  exact IntWalk.u64_in _ (by omega)
theorem bits_i64 (a b : Nat) (ha : a < 9223372036854775808) (hb : b < 9223372036854775808) : bits BinOp.and IntKind.i64 (a : Int) (b : Int) = ((a &&& b : Nat) : Int) := by
  have h : a &&& b ≤ a := Nat.and_le_left
  show IntKind.i64.wrap (((BitVec.ofInt 64 (a : Int) &&& BitVec.ofInt 64 (b : Int)).toNat : Nat) : Int) = _
  rw [BitVec.ofInt_natCast, BitVec.ofInt_natCast, BitVec.toNat_and, BitVec.toNat_ofNat, BitVec.toNat_ofNat, Nat.mod_eq_of_lt (by omega), Nat.mod_eq_of_lt (by omega)]
  exact IntWalk.i64_in _ (by omega)

theorem on1_n (x : Nat) (h : x < 18446744073709551616) : on1 (x : Int) = n1 x ∧ n1 x ≤ 12297829382473034410 := by
  have h1 : x / 2 &&& 6148914691236517205 ≤ 6148914691236517205 := Nat.and_le_right
  have h2 : x &&& 6148914691236517205 ≤ 6148914691236517205 := Nat.and_le_right
  refine ⟨?_, by unfold n1; omega⟩
  unfold on1 n1
  rw [show ((x : Int) / 2) = ((x / 2 : Nat) : Int) by omega, show (6148914691236517205 : Int) = ((6148914691236517205 : Nat) : Int) from rfl, bits_u64 _ _ (by omega) (by omega), bits_u64 _ _ (by omega) (by omega), ← Int.natCast_add]
  exact IntWalk.u64_in _ (by omega)
theorem on2_n (x : Nat) (h : x < 18446744073709551616) : on2 (x : Int) = n2 x ∧ n2 x ≤ 7378697629483820646 := by
  have h1 : x / 4 &&& 3689348814741910323 ≤ 3689348814741910323 := Nat.and_le_right
  have h2 : x &&& 3689348814741910323 ≤ 3689348814741910323 := Nat.and_le_right
  refine ⟨?_, by unfold n2; omega⟩
  unfold on2 n2
  rw [show ((x : Int) / 4) = ((x / 4 : Nat) : Int) by omega, show (3689348814741910323 : Int) = ((3689348814741910323 : Nat) : Int) from rfl, bits_u64 _ _ (by omega) (by omega), bits_u64 _ _ (by omega) (by omega), ← Int.natCast_add]
  exact IntWalk.u64_in _ (by omega)
theorem on3_n (x : Nat) (h : x ≤ 7378697629483820646) : on3 (x : Int) = n3 x ∧ n3 x ≤ 1085102592571150095 := by
  have h1 : (x / 16 + x) &&& 1085102592571150095 ≤ 1085102592571150095 := Nat.and_le_right
  refine ⟨?_, by unfold n3; omega⟩
  unfold on3 n3
  rw [show ((x : Int) / 16 + x) = ((x / 16 + x : Nat) : Int) by omega, IntWalk.u64_in _ (by omega), show (1085102592571150095 : Int) = ((1085102592571150095 : Nat) : Int) from rfl, bits_u64 _ _ (by omega) (by omega)]
theorem on4_n (x : Nat) (h : x ≤ 1085102592571150095) : on4 (x : Int) = n4 x ∧ n4 x ≤ 1100000000000000000 := by
  refine ⟨?_, by unfold n4; omega⟩
  unfold on4 n4
  rw [IntWalk.u64_in _ (by omega)]; omega
theorem on5_n (x : Nat) (h : x ≤ 1100000000000000000) : on5 (x : Int) = n5 x ∧ n5 x ≤ 1200000000000000000 := by
  refine ⟨?_, by unfold n5; omega⟩
  unfold on5 n5
  rw [IntWalk.u64_in _ (by omega)]; omega
theorem on6_n (x : Nat) (h : x ≤ 1200000000000000000) : on6 (x : Int) = n6 x ∧ n6 x ≤ 1300000000000000000 := by
  refine ⟨?_, by unfold n6; omega⟩
  unfold on6 n6
  rw [IntWalk.u64_in _ (by omega)]; omega
theorem onesE_n (x : Nat) (h : x < 18446744073709551616) : onesE (x : Int) = onesN x := by
  have a1 := on1_n x h
  have a2 := on2_n (n1 x) (by omega)
  have a3 := on3_n (n2 (n1 x)) a2.2
  have a4 := on4_n _ a3.2
  have a5 := on5_n _ a4.2
  have a6 := on6_n _ a5.2
  unfold onesE onesN
  rw [a1.1, a2.1, a3.1, a4.1, a5.1, a6.1, IntWalk.wrap64_in _ (by omega), show (127 : Int) = ((127 : Nat) : Int) from rfl, bits_i64 _ _ (by omega) (by omega)]

theorem ones_any (x : Nat) (hx : x < 65536) (w : World) :
    Calls Tryd.prog 55 #[.int .u64 x] w fun e w' => e = .returned (.int .i64 (pc 16 x)) ∧ w = w' := by
  have HE := Lib.hid (show onesE (x : Int) = (pc 16 x : Nat) by rw [onesE_n x (by omega), onesN_pc x hx])
  go_enter Tryd.func55, Tryd.ntmps55
  go_wp2_with fail
  refine (ones64 x hx _).mono ?_; rintro e w' ⟨rfl, rfl⟩
  rw [HE.out]
  go_wp2
  go_ret
  exact ⟨rfl, rfl⟩
theorem bits_or_u64 (a b : Nat) (ha : a < 65536) (hb : b < 65536) : bits BinOp.or IntKind.u64 (a : Int) (b : Int) = ((a ||| b : Nat) : Int) := by
  have h : a ||| b < 65536 := Nat.or_lt_two_pow (n := 16) ha hb
  show IntKind.u64.wrap (((BitVec.ofInt 64 (a : Int) ||| BitVec.ofInt 64 (b : Int)).toNat : Nat) : Int) = _
  rw [BitVec.ofInt_natCast, BitVec.ofInt_natCast, BitVec.toNat_or, BitVec.toNat_ofNat, BitVec.toNat_ofNat, Nat.mod_eq_of_lt (by omega), Nat.mod_eq_of_lt (by omega)]
  exact IntWalk.u64_in _ (by omega)
theorem pow_lt_16 {p : Nat} (h : p ≤ 15) : 2 ^ p < 65536 := Nat.lt_of_le_of_lt (Nat.pow_le_pow_right (by omega) h) (by decide)
theorem pow_u64 {p : Nat} (h : p ≤ 15) : IntKind.u64.wrap (2 ^ p) = ((2 ^ p : Nat) : Int) := by
  have := pow_lt_16 h
  rw [show ((2 : Int) ^ p) = ((2 ^ p : Nat) : Int) by simp]
  generalize (2 ^ p : Nat) = q at *
  exact IntWalk.u64_in _ (by omega)
theorem or_pow_u64 {m p : Nat} (hm : m < 65536) (h : p ≤ 15) : bits BinOp.or IntKind.u64 (m : Int) (IntKind.u64.wrap (2 ^ p)) = ((m ||| 2 ^ p : Nat) : Int) := by
  rw [pow_u64 h, bits_or_u64 _ _ hm (pow_lt_16 h)]
end Go.Proofs.YtmeamgeojcbljaaDoor
