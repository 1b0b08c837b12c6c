/- core.Bits: the bits of a small number, rising, as a range over a function hands them over. -/
import Derived.Test.YtmeamgeojcbljaaDoorInfo
import Derived.Test.YtmeamgeojcbljaaDoorRound
import Derived.Test.YtmeamgeojcbljaaDoorMask
import Derived.RangeFuncMany
import Derived.TacticsInMore
import Derived.RegionIn
import Derived.LoopNIn
import Derived.LoopIn
import Derived.Shelf.Abstract
namespace Go.Proofs.YtmeamgeojcbljaaDoor
open Go.RowKit Go.ChangeAt Go.Shelf

/-- The bits of m from i on (g of them are looked at), rising. -/
def bitsFrom (m : Nat) : Nat → Nat → List Int
  | 0, _ => []
  | g + 1, i => if m.testBit i then (i : Int) :: bitsFrom m g (i + 1) else bitsFrom m g (i + 1)
def bitsL (m : Nat) : List Int := bitsFrom m 16 0
theorem bitsFrom_none {m : Nat} : ∀ {g i : Nat}, m / 2 ^ i = 0 → bitsFrom m g i = [] := by
  intro g
  induction g with
  | zero => intro i _; rfl
  | succ g ih =>
    intro i h
    have h1 : m.testBit i = false := by rw [Nat.testBit_eq_decide_div_mod_eq, h]; rfl
    rw [bitsFrom, h1]
    exact ih (by rw [Nat.pow_succ, ← Nat.div_div_eq_div_mul, h])
theorem mem_bitsFrom {m : Nat} {y : Int} : ∀ {g i : Nat}, y ∈ bitsFrom m g i ↔ ∃ k : Nat, y = k ∧ i ≤ k ∧ k < i + g ∧ m.testBit k = true := by
  intro g
  induction g with
  | zero => intro i; simp [bitsFrom]; intro k _ h1 h2; omega
  | succ g ih =>
    intro i
    rw [bitsFrom]
    split
    · rename_i h
      rw [List.mem_cons, ih]
      constructor
      · rintro (rfl | ⟨k, rfl, h1, h2, h3⟩)
        · exact ⟨i, rfl, by omega, by omega, h⟩
        · exact ⟨k, rfl, by omega, by omega, h3⟩
      · rintro ⟨k, rfl, h1, h2, h3⟩
        rcases Nat.eq_or_lt_of_le h1 with rfl | h1
        · exact .inl rfl
        · exact .inr ⟨k, rfl, by omega, by omega, h3⟩
    · rename_i h
      rw [ih]
      constructor
      · rintro ⟨k, rfl, h1, h2, h3⟩
        exact ⟨k, rfl, by omega, by omega, h3⟩
      · rintro ⟨k, rfl, h1, h2, h3⟩
        rcases Nat.eq_or_lt_of_le h1 with rfl | h1
        · exact absurd h3 h
        · exact ⟨k, rfl, by omega, by omega, h3⟩
theorem mem_bitsL {m : Nat} {y : Int} : y ∈ bitsL m ↔ ∃ k : Nat, y = k ∧ k < 16 ∧ m.testBit k = true := by
  unfold bitsL
  rw [mem_bitsFrom]
  constructor
  · rintro ⟨k, h1, _, h2, h3⟩; exact ⟨k, h1, by omega, h3⟩
  · rintro ⟨k, h1, h2, h3⟩; exact ⟨k, h1, by omega, by omega, h3⟩

theorem bits_odd (a : Nat) (ha : a < 9223372036854775808) : bits BinOp.and IntKind.i64 (a : Int) 1 = ((a % 2 : Nat) : Int) := by
  have h : a &&& 1 ≤ 1 := Nat.and_le_right
  show IntKind.i64.wrap (((BitVec.ofInt 64 (a : Int) &&& BitVec.ofInt 64 ((1 : Nat) : Int)).toNat : Nat) : Int) = _
  rw [BitVec.ofInt_natCast, BitVec.ofInt_natCast, BitVec.toNat_and, BitVec.toNat_ofNat, BitVec.toNat_ofNat, Nat.mod_eq_of_lt (by omega), Nat.mod_eq_of_lt (by omega), Nat.and_one_is_mod]
  exact IntWalk.i64_in _ (by omega)
theorem shr_div (m k : Nat) : ((m : Int) / 2 ^ k) = ((m / 2 ^ k : Nat) : Int) := by
  rw [Int.natCast_ediv, Int.natCast_pow]; rfl
theorem shr_one {m k : Nat} (hm : m < 65536) : bits BinOp.and IntKind.i64 ((m : Int) / 2 ^ k) 1 = if m.testBit k then 1 else 0 := by
  have : m / 2 ^ k ≤ m := Nat.div_le_self _ _
  rw [shr_div, bits_odd _ (by omega), Nat.testBit_eq_decide_div_mod_eq]
  by_cases h : m / 2 ^ k % 2 = 1
  · simp [h]
  · have : m / 2 ^ k % 2 = 0 := by omega
    simp [this]
theorem big_none {m k : Nat} (hm : m < 65536) (hk : 16 ≤ k) : m / 2 ^ k = 0 := Nat.div_eq_of_lt (Nat.lt_of_lt_of_le hm (Nat.pow_le_pow_right (n := 2) (by omega) hk))

set_option maxHeartbeats 1000000 in
theorem bits_any (m : Int) (w : World) : Calls Tryd.prog 64 #[.int .i64 m] w fun e w' =>
    e = .returned (.func (.func 99) #[] #[.pointer (some ⟨w.heap.size, 0, none⟩)]) ∧ w' = w.alloc (.cells #[.int .i64 m] 3) := by
  go_enter Tryd.func64, Tryd.ntmps64
  go_wp2
  go_ret
  exact ⟨rfl, rfl⟩

set_option maxRecDepth 100000 in
set_option maxHeartbeats 2000000 in
theorem bits_seq (n B m : Nat) (hm : m < 65536) (w : World) (hB : B < w.heap.size) (hc : w.cell? ⟨B, 0, none⟩ = some (.int .i64 m)) :
    SeqB Fence.wide n Tryd.prog 99 #[.pointer (some ⟨B, 0, none⟩)] (fun x : Int => #[.int .i64 x]) (KeepsIt B) (fun xs => xs = bitsL m) (fun ps x => ∃ rest, bitsL m = ps ++ x :: rest) w := by
  intro l J W hW hJ hY h0
  have hc' : W.cell? ⟨B, 0, none⟩ = some (.int .i64 m) := (hW.cell (p := ⟨B, 0, none⟩) hB).trans hc
  clear hc
  refine callsIn_of_wp Tryd.func99 rfl trivial ?_ rfl
  simp only [Tryd.ntmps99, List.size_toArray, List.length_cons, List.length_nil, Nat.reduceAdd, Nat.reduceSub, Array.replicate_succ, Array.replicate_zero, List.push_toArray, List.append_toArray, List.nil_append, List.cons_append]
  gi_wp2
  gi_loopw [3] (fun i wr => ∃ (k : Nat) (ps : List Int), i = .int .i64 k ∧ k ≤ 16 ∧ bitsL m = ps ++ bitsFrom m (16 - k) k ∧ J ps wr ∧ wr.cell? ⟨B, 0, none⟩ = some (.int .i64 m))
    (fun i _ => 16 - (intOf i).toNat)
  case atStart =>
    exact ⟨0, [], rfl, by omega, rfl, h0, hc'⟩
  case round =>
    obtain ⟨k, ps, rfl, hk, hb, hJs, hcr⟩ := hrel
    by_cases hz : m / 2 ^ k = 0
    · have hz' : (((m : Int) / 2 ^ k) != 0) = false := by rw [shr_div, hz]; rfl
      have hn := bitsFrom_none (g := 16 - k) hz
      gi_wp2
      go_end0
      first
        | (refine ⟨⟨_, rfl⟩, ?_⟩; rw [hb, hn, List.append_nil]; exact hJs)
        | (rw [hb, hn, List.append_nil]; exact hJs)
    · have hz' : (((m : Int) / 2 ^ k) != 0) = true := by rw [shr_div]; simpa using (by omega : ¬ ((m / 2 ^ k : Nat) : Int) = 0)
      have hk' : k < 16 := by
        rcases Nat.lt_or_ge k 16 with h | h
        · exact h
        · exact absurd (big_none hm h) hz
      have hf : bitsFrom m (16 - k) k = if m.testBit k then (k : Int) :: bitsFrom m (16 - (k + 1)) (k + 1) else bitsFrom m (16 - (k + 1)) (k + 1) := by
        rw [show 16 - k = (16 - (k + 1)) + 1 by omega]; rfl
      have hand := shr_one (k := k) hm
      rw [hf] at hb
      by_cases ht : m.testBit k = true
      · rw [if_pos ht] at hb hand
        obtain ⟨fn, tmps, assign, body, hy, hR⟩ := hY ps k wr hJs ⟨_, hb⟩
        have hbH := Lib.hid hb
        clear hb hf
        gi_wp2
        refine ⟨fun h => (by cases h), hR.mono ?_⟩
        rintro e W3 ⟨rfl, hJ3, hk3⟩
        have hcr3 : W3.cell? ⟨B, 0, none⟩ = some (.int .i64 m) := (World.cell?_of_block (hk3.block (cell_lt hcr))).trans hcr
        gi_wp2
        go_roundw
        case rel => exact ⟨k + 1, ps ++ [(k : Int)], by congr 1, by omega, by rw [hbH.out]; simp, hJ3, hcr3⟩
        case measure => simp [intOf]; omega
      · rw [if_neg ht] at hb hand
        have hbH := Lib.hid hb
        clear hb hf
        gi_wp2
        refine ⟨fun _ h => (by cases h), ?_⟩
        gi_wp2
        go_roundw
        case rel => exact ⟨k + 1, ps, by congr 1, by omega, hbH, hJs, hcr⟩
        case measure => simp [intOf]; omega
end Go.Proofs.YtmeamgeojcbljaaDoor
