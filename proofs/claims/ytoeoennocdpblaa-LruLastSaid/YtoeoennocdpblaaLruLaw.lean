/- The walk of the law LruNested: it returns true, for every input. -/
import Derived.Test.YtoeoennocdpblaaLru
import Derived.Test.YtoeoennocdpblaaSame
namespace Go.Proofs.Ytoeoennocdpblaa
open Go.ChangeShapes Go.WideShapes Go.ChangeAt Go.RowKit

theorem lru_any (A : Option Addr) (n c : Nat) (l : List Int) (slots : Int) (w : World) (h : RI w A n l) (hn : n ≤ 9223372036854775807) :
    Calls Try.prog 22 #[.slice A n c, .int .i64 slots] w fun e w' => (∃ x y z, e = .returned (.tuple #[x, y, z])) ∧ Below w.heap.size w w' := by
  by_cases hg : GoodReqs l slots
  · exact (lru_ok A n c l slots w h hg).mono fun e w' ⟨A1, c1, A2, n2, c2, he, _, _, _, hB⟩ => ⟨⟨_, _, _, he⟩, hB⟩
  · exact (lru_no A n c l slots w h hn hg).mono fun e w' ⟨he, hw⟩ => ⟨⟨_, _, _, he⟩, hw ▸ Below.refl _ _⟩

set_option maxHeartbeats 400000 in
theorem lruFact_ok (w : World) : Calls Try.prog 21 #[] w fun e w' => e = .returned (.bool true) ∧ Below w.heap.size w w' := by
  go_enter Try.func21, Try.ntmps21
  go_wp2_with fail
  have h0 := RI.lit w #[.int .i64 1, .int .i64 2, .int .i64 1, .int .i64 3, .int .i64 2] 3 [1, 2, 1, 3, 2] 5 rfl rfl
  have hB0 := (Below.refl w.heap.size w).alloc (Nat.le_refl _) (.cells #[.int .i64 1, .int .i64 2, .int .i64 1, .int .i64 3, .int .i64 2] 3)
  refine (lru_ok _ _ _ _ _ _ h0 (by simp [GoodReqs, AllIn])).mono ?_; rintro e w1 ⟨A1, c1, A2, n2, c2, rfl, R1, R2, hn2, hB1⟩
  have hB01 := hB0.trans (hB1.mono hB0.size)
  have e1 : (lruRun (Int.toNat 2) [1, 2, 1, 3, 2]).1 = [false, false, true, false, false] := by decide
  have e2 : (lruRun (Int.toNat 2) [1, 2, 1, 3, 2]).2 = [2, 3] := by decide
  rw [e1] at R1
  rw [e2] at R2
  clear e1 e2
  have hw1 := hB01.size
  have M1 : Hid (eqB [false, false, true, false, false] [false, false, true, false, false] = true) := by simp [Hid, eqB]
  have M2 : Hid (eqI [2, 3] [2, 3] = true) := by simp [Hid, eqI]
  go_wp2_with fail
  have h1 := RB.lit w1 #[.bool false, .bool false, .bool true, .bool false, .bool false] 4 [false, false, true, false, false] 5 rfl rfl
  have hB2 := hB01.alloc hw1 (.cells #[.bool false, .bool false, .bool true, .bool false, .bool false] 4)
  have R2' := R2.below ((Below.refl w1.heap.size w1).alloc (Nat.le_refl _) (.cells #[.bool false, .bool false, .bool true, .bool false, .bool false] 4))
  refine (bools_any _ _ _ _ _ _ _ _ _ ((Row.readsB R1).below ((Below.refl w1.heap.size w1).alloc (Nat.le_refl _) _)) h1 (by omega) (by omega)).mono ?_; rintro e w' ⟨rfl, d, rfl⟩
  rw [M1.out]
  have hB3 := belowN hB2 d
  have R3 := R2'.drewN d
  generalize (w1.alloc (.cells #[.bool false, .bool false, .bool true, .bool false, .bool false] 4)).drewN d = w2 at *
  have hw2 := hB3.size
  go_wp2_with fail
  have h2 := RI.lit w2 #[.int .i64 2, .int .i64 3] 3 [2, 3] 2 rfl rfl
  refine (ints_any _ _ _ _ _ _ _ _ _ ((Row.reads R3).below ((Below.refl w2.heap.size w2).alloc (Nat.le_refl _) _)) h2 (by omega) (by omega)).mono ?_; rintro e w' ⟨rfl, d, rfl⟩
  rw [M2.out]
  go_wp2
  go_ret
  exact ⟨rfl, belowN (hB3.alloc hw2 _) _⟩

theorem Row.cap {w : World} {base : Nat} {e : TypeId} {A : Option Addr} {n c : Nat} {xs : List Value} (h : Row w base e (.slice A n c) n xs) : n ≤ c := by
  obtain ⟨A', c', hcc, hcap, _⟩ := h.form
  injection hcc with _ _ h3; omega
theorem Row.lenI {w : World} {base : Nat} {e : TypeId} {v : Value} {n : Nat} {l : List Int} (h : Row w base e v n (l.map (Value.int .i64))) : l.length = n := by have := h.len; simpa using this
theorem Row.lenB {w : World} {base : Nat} {e : TypeId} {v : Value} {n : Nat} {l : List Bool} (h : Row w base e v n (l.map Value.bool)) : l.length = n := by have := h.len; simpa using this

set_option maxHeartbeats 1000000 in
theorem law_LruNested (A : Option Addr) (n c : Nat) (l : List Int) (slots : Int) (w : World) (h : RI w A n l) (hn : n ≤ 9223372036854775807) :
    Calls Try.prog 6 #[.slice A n c, .int .i64 slots] w fun e w' => e = .returned (.bool true) ∧ Below w.heap.size w w' := by
  by_cases hg : GoodReqs l slots
  · obtain ⟨s, rfl⟩ : ∃ s : Nat, slots = ((s + 1 : Nat) : Int) := ⟨slots.toNat - 1, by have := hg.2.2.1; omega⟩
    have HL := Lib.hid h.len
    have HG := Lib.hid hg
    have hn4 : n ≤ 40 := by have := HL.out; have := hg.1; omega
    have hs2 : s ≤ 7 := by have := hg.2.2.2; omega
    clear hn
    by_cases h7 : s = 7
    · have HN := Lib.hid (show ¬ GoodReqs l (((s + 1 : Nat) : Int) + 1) from fun hh => by have := hh.2.2.2; omega)
      clear hg h7
      go_enter Try.func6, Try.ntmps6
      go_wp2_with fail
      refine (lruFact_ok _).mono ?_; rintro e w0 ⟨rfl, hB0⟩
      go_wp2_with fail
      refine (lru_ok _ _ _ _ _ _ (h.below hB0) HG.out).mono ?_; rintro e w1 ⟨A1, c1, A2, n2, c2, rfl, R1, R2, hn2, hB1⟩
      have hB01 : Below w.heap.size w w1 := hB0.trans (hB1.mono hB0.size)
      go_wp2_with fail
      refine (lru_no _ _ _ _ _ _ ((h.below hB0).below hB1) (by omega) HN.out).mono ?_; rintro e w' ⟨rfl, rfl⟩
      go_wp2
      go_ret
      exact ⟨rfl, hB01⟩
    · have HG2 := Lib.hid (show GoodReqs l (((s + 1 : Nat) : Int) + 1) from ⟨hg.1, hg.2.1, by omega, by omega⟩)
      clear hg h7
      go_enter Try.func6, Try.ntmps6
      go_wp2_with fail
      refine (lruFact_ok _).mono ?_; rintro e w0 ⟨rfl, hB0⟩
      go_wp2_with fail
      refine (lru_ok _ _ _ _ _ _ (h.below hB0) HG.out).mono ?_; rintro e w1 ⟨A1, c1, A2, n2, c2, rfl, R1, R2, hn2, hB1⟩
      have hB01 : Below w.heap.size w w1 := hB0.trans (hB1.mono hB0.size)
      go_wp2_with fail
      refine (lru_ok _ _ _ _ _ _ ((h.below hB0).below hB1) HG2.out).mono ?_; rintro e w2 ⟨A3, c3, A4, n4, c4, rfl, R3, R4, hn4', hB2⟩
      have hB02 : Below w.heap.size w w2 := hB01.trans (hB2.mono hB01.size)
      rw [show (((s + 1 : Nat) : Int)).toNat = s + 1 by omega] at R1 R2
      rw [show ((((s + 1 : Nat) : Int) + 1)).toNat = s + 2 by omega] at R3 R4
      have R1' := R1.below hB2
      have R2' := R2.below hB2
      have hlen := lru_nested_len s l
      rw [R2.lenI, R4.lenI] at hlen
      have hcap := R4.cap
      have hcap2 : n2 ≤ c4 := by omega
      have HH := Lib.hid (show eqI (lruRun (s + 1) l).2 ((lruRun (s + 2) l).2.take n2) = true by
        have := lru_nested_held s l; rw [R2.lenI] at this; rw [← this]; simp [eqI])
      have HAT := Lib.hid (lru_nested_at s l)
      go_wp2_with fail
      refine (ints_any _ _ _ _ _ _ _ _ _ (Row.reads R2') ((Row.reads R4).take hlen) (by omega) (by omega)).mono ?_; rintro e w' ⟨rfl, d, rfl⟩
      rw [HH.out]
      have hB3 := belowN hB02 d
      go_wp2
      go_loop [12] (fun i => ∃ k : Nat, k ≤ n ∧ i = .int .i64 k) (fun i => n - (intOf i).toNat)
      case atStart => exact ⟨0, by omega, by go_num⟩
      case round =>
        obtain ⟨k, hk, rfl⟩ := hrel
        by_cases hlt : k < n
        · obtain ⟨ad1, y1, rfl, HY1, hc1⟩ := ((Row.readsB R1').drewN d).at_ hlt
          obtain ⟨ad3, y3, rfl, HY3, hc3⟩ := ((Row.readsB R3).drewN d).at_ hlt
          have HI := Lib.hid (show y1 = true → y3 = true from fun e => by
            subst e
            have h1 := HAT.out k HY1.out
            have h3 := HY3.out
            rw [h1] at h3; injection h3 with h3; exact h3.symm)
          cases y1
          · go_wp2
            go_round
            case rel => exact ⟨k + 1, by omega, by go_num⟩
            case measure => simp [intOf]; omega
          · obtain rfl : y3 = true := HI.out rfl
            go_wp2
            go_round
            case rel => exact ⟨k + 1, by omega, by go_num⟩
            case measure => simp [intOf]; omega
        · go_wp2
          go_ret
          exact ⟨rfl, hB3⟩
  · have HG := Lib.hid hg
    clear hg
    go_enter Try.func6, Try.ntmps6
    go_wp2_with fail
    refine (lruFact_ok _).mono ?_; rintro e w0 ⟨rfl, hB0⟩
    go_wp2_with fail
    refine (lru_no _ _ _ _ _ _ (h.below hB0) hn HG.out).mono ?_; rintro e w1 ⟨rfl, rfl⟩
    go_wp2_with fail
    refine (lru_any _ _ _ _ _ _ (h.below hB0) hn).mono ?_; rintro e w2 ⟨⟨x, y, z, rfl⟩, hB2⟩
    go_wp2
    go_ret
    exact ⟨rfl, hB0.trans (hB2.mono hB0.size)⟩
end Go.Proofs.Ytoeoennocdpblaa
