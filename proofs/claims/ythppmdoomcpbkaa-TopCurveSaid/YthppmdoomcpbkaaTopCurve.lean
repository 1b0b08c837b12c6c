/- The walk of the law TopCurve: it returns true, for every input. -/
import Derived.Test.YthppmdoomcpbkaaOpt
import Derived.Test.YthppmdoomcpbkaaWays
import Derived.Test.YthppmdoomcpbkaaStack
import Derived.Test.YthppmdoomcpbkaaStackLaws
import Derived.Test.YthppmdoomcpbkaaFlush
import Derived.Test.YthppmdoomcpbkaaSame
import Derived.IntWalk
namespace Go.Proofs.Ythppmdoomcpbkaa
open Go.ChangeShapes Go.WideShapes Go.ChangeAt Go.RowKit

theorem lru_le_flush (s : Nat) (hs : 1 ≤ s) (l : List Int) : missN (lruRun s l).1 ≤ missN (flushRun s l).1 := by
  have key : ∀ k, k ≤ l.length → missN ((lruRun s l).1.take k) ≤ missN ((flushRun s l).1.take k) := by
    intro k
    induction k with
    | zero => intro _; simp [missN]
    | succ k ih =>
      intro hk
      have h1 := List.getElem?_eq_getElem (show k < (lruRun s l).1.length by rw [lru_len]; omega)
      have h2 := List.getElem?_eq_getElem (show k < (flushRun s l).1.length by rw [flush_len]; omega)
      rw [missN_succ h1, missN_succ h2]
      have h3 := flush_lru_at s hs l k
      have := ih (by omega)
      cases hb : (flushRun s l).1[k]'(by rw [flush_len]; omega)
      · split <;> simp <;> omega
      · rw [h2, hb] at h3
        have h4 := h3 rfl
        rw [h1] at h4
        injection h4 with h4
        rw [h4]; simp; omega
  have := key l.length (Nat.le_refl _)
  rwa [List.take_of_length_le (by rw [lru_len]; exact Nat.le_refl _), List.take_of_length_le (by rw [flush_len]; exact Nat.le_refl _)] at this

theorem inT_q (n : Int) (w : World) (h1 : 1 ≤ n) (h2 : n ≤ 8) :
    Calls Try.prog 10 #[.int .i64 n, .int .i64 1, .int .i64 8] w fun e w' => e = .returned (.bool true) ∧ w' = w := by
  go_enter Try.func10, Try.ntmps10
  go_wp2
  go_ret
  exact ⟨rfl, rfl⟩

set_option maxRecDepth 100000 in
set_option maxHeartbeats 8000000 in
theorem law_TopCurve (A : Option Addr) (n c : Nat) (l : List Int) (slots : Int) (w : World) (h : RI w A n l) (hnc : n ≤ c) (hn : n ≤ 9223372036854775807) :
    Calls Try.prog 3 #[.slice A n c, .int .i64 slots] w fun e w' => e = .returned (.bool true) ∧ Below w.heap.size w w' := by
  have h0 := RI.lit w #[.int .i64 1, .int .i64 2, .int .i64 1] 3 [1, 2, 1] 3 rfl rfl
  have hB0 := (Below.refl w.heap.size w).alloc (Nat.le_refl _) (.cells #[.int .i64 1, .int .i64 2, .int .i64 1] 3)
  have e2 : curveL (depthRun [1, 2, 1]).1 = [3, 2, 2, 2, 2, 2, 2, 2] := by decide
  have E2 := Lib.hid e2
  clear e2
  have hz0 := hB0.size
  by_cases hg : GoodReqs l slots
  · obtain ⟨s, rfl⟩ : ∃ s : Nat, slots = s := ⟨slots.toNat, by have := hg.2.2.1; omega⟩
    have HL := Lib.hid h.len
    have HG := Lib.hid hg
    have HG1 : Hid (GoodReqs l 1) := Lib.hid ⟨hg.1, hg.2.1, by omega, by omega⟩
    have hn4 : n ≤ 40 := by have := HL.out; have := hg.1; omega
    have s1 := hg.2.2.1
    have s2 := hg.2.2.2
    have hs1 : 1 ≤ s := by omega
    have hs2 : s ≤ 8 := by omega
    have Q := Lib.hid (show missN (optF s [] l).1 ≤ missN (lruRun s l).1 ∧ missN (lruRun s l).1 ≤ missN (flushRun s l).1 ∧ someN l ≤ missN (optF s [] l).1 from ⟨opt_le 0 s hs1 l, lru_le_flush s hs1 l, optN_some hs1 l⟩)
    clear hg hn
    go_enter Try.func3, Try.ntmps3
    go_wp2_with fail
    refine (curve_ok _ _ _ _ _ h0 (by simp [GoodReqs, AllIn])).mono ?_; rintro e w1 ⟨A1, c1, rfl, R1, hc1, hB1⟩
    rw [E2.out] at R1
    have hB01 := hB0.trans (hB1.mono hB0.size)
    obtain ⟨ad, y0, rfl, HY0, hc0⟩ := (Row.reads R1).at_ (show 0 < 8 by omega)
    obtain ⟨ad', y1, had, HY1, hcc1⟩ := (Row.reads R1).at_ (show 1 < 8 by omega)
    injection had with had
    subst had
    have hy0 : y0 = 3 := by have := HY0.out; simpa using this.symm
    have hy1 : y1 = 2 := by have := HY1.out; simpa using this.symm
    subst hy0 hy1
    rw [show ad.add 0 = ad from by simp [Addr.add]] at hc0
    rw [show ad.add 1 = ⟨ad.block, ad.off + 1, none⟩ from add_succ ad 0] at hcc1
    clear R1 HY0 HY1
    go_wp2_with fail
    refine (curve_ok _ _ _ _ _ (h.below hB01) HG1.out).mono ?_; rintro e w2 ⟨A2, c2, rfl, R2, hc2, hB2⟩
    have hB02 := hB01.trans (hB2.mono hB01.size)
    clear hc0 hcc1
    go_wp2_with fail
    refine (opt_ok _ _ _ _ _ _ (h.below hB02) hnc HG.out).mono ?_; rintro e w3 ⟨A3, c3, A4, n4, c4, A5, n5, c5, rfl, R3, R4, R5, hn4', hn5, hB3⟩
    have hB03 : Below w.heap.size w w3 := hB02.trans (hB3.mono hB02.size)
    go_wp2_with fail
    refine (flush_ok _ _ _ _ _ _ (h.below hB03) HG.out).mono ?_; rintro e w4 ⟨A7, c7, A8, n8, c8, rfl, R7, R8, hn8, hB4⟩
    have hB04 : Below w.heap.size w w4 := hB03.trans (hB4.mono hB03.size)
    rw [Int.toNat_natCast] at R3 R7
    have RC := Lib.hid (Row.reads ((R2.below hB3).below hB4))
    have RA := Lib.hid (Row.readsB (R3.below hB4))
    have RB := Lib.hid (Row.readsB R7)
    have RL := Lib.hid (h.below hB04)
    clear R2 R3 R4 R5 R7 R8
    obtain ⟨adc, x, rfl, HX, hcx⟩ := RC.out.at_ (k := s - 1) (by omega)
    have hx : x = ((missN (lruRun s l).1 : Nat) : Int) := by
      have := HX.out
      rw [curve_at _ (s - 1) (by omega)] at this
      injection this with this
      rw [← this, miss_curve s hs1 l]
    subst hx
    have hMA := fun e => misses_any _ _ c3 _ _ (RA.out.drewN e) (by omega)
    have hMB := fun e => misses_any _ _ c7 _ _ (RB.out.drewN e) (by omega)
    have hS := fun e => some_any _ _ c _ _ (RL.out.drewN e) (by omega)
    obtain ⟨q1, q2, q3⟩ := Q.out
    clear Q
    generalize missN (optF s [] l).1 = a at *
    generalize missN (lruRun s l).1 = b at *
    generalize missN (flushRun s l).1 = cc at *
    generalize someN l = m at *
    have HMA := Lib.hid hMA
    have HMB := Lib.hid hMB
    have HS := Lib.hid hS
    clear hMA hMB hS HX
    have g1 : (a : Int) ≤ b := by omega
    have g2 : (b : Int) ≤ cc := by omega
    have g3 : (m : Int) ≤ a := by omega
    have e3 : s - 1 < 8 := by omega
    have e5 : IntKind.i64.wrap ((s : Int) - 1) = ((s - 1 : Nat) : Int) := by rw [show (s : Int) - 1 = ((s - 1 : Nat) : Int) by omega]; exact IntWalk.i64_in _ (by omega)
    go_wp2
    go_quiet (first
      | (go_at_call 10; exact Calls.quiet_of_same (inT_q _ _ s1 s2))
      | (go_at_call_of 11 (Value.slice A3 n c3); exact Calls.quiet_of_same ((HMA.out _).mono fun _ _ ⟨x1, x2⟩ => ⟨x1, x2.symm⟩))
      | (go_at_call_of 11 (Value.slice A7 n c7); exact Calls.quiet_of_same ((HMB.out _).mono fun _ _ ⟨x1, x2⟩ => ⟨x1, x2.symm⟩))
      | (go_at_call 12; exact Calls.quiet_of (HS.out _)))
    go_wp2
    go_ret
    exact ⟨rfl, belowN hB04 _⟩
  · have HG := Lib.hid hg
    have HC : Hid (∀ w1, RI w1 A n l → Calls Try.prog 7 #[.slice A n c] w1 fun e w' => (∃ x q, e = .returned (.tuple #[x, q]) ∧ (q = .nilIface ∨ ∃ v, q = .iface 59 v)) ∧ Below w1.heap.size w1 w') := Lib.hid (fun w1 h1 => by
      by_cases hg : GoodReqs l 1
      · exact (curve_ok A n c l w1 h1 hg).mono fun e w' ⟨A1, c1, he, _, _, hB⟩ => ⟨⟨_, _, he, .inl rfl⟩, hB⟩
      · exact (curve_no A n c l w1 h1 hn hg).mono fun e w' ⟨he, hw⟩ => ⟨⟨_, _, he, .inr ⟨_, rfl⟩⟩, hw ▸ Below.refl _ _⟩)
    clear hg
    go_enter Try.func3, Try.ntmps3
    go_wp2_with fail
    refine (curve_ok _ _ _ _ _ h0 (by simp [GoodReqs, AllIn])).mono ?_; rintro e w1 ⟨A1, c1, rfl, R1, hc1, hB1⟩
    rw [E2.out] at R1
    have hB01 := hB0.trans (hB1.mono hB0.size)
    obtain ⟨ad, y0, rfl, HY0, hc0⟩ := (Row.reads R1).at_ (show 0 < 8 by omega)
    obtain ⟨ad', y1, had, HY1, hcc1⟩ := (Row.reads R1).at_ (show 1 < 8 by omega)
    injection had with had
    subst had
    have hy0 : y0 = 3 := by have := HY0.out; simpa using this.symm
    have hy1 : y1 = 2 := by have := HY1.out; simpa using this.symm
    subst hy0 hy1
    rw [show ad.add 0 = ad from by simp [Addr.add]] at hc0
    rw [show ad.add 1 = ⟨ad.block, ad.off + 1, none⟩ from add_succ ad 0] at hcc1
    clear R1 HY0 HY1
    go_wp2_with fail
    refine (HC.out _ (h.below hB01)).mono ?_; rintro e w2 ⟨⟨x, q, rfl, hq⟩, hB2⟩
    have hB02 := hB01.trans (hB2.mono hB01.size)
    clear hc0 hcc1
    go_wp2_with fail
    refine (opt_no _ _ _ _ _ _ (h.below hB02) hn HG.out).mono ?_; rintro e w3 ⟨rfl, hB3⟩
    have hB03 : Below w.heap.size w w3 := hB02.trans (hB3.mono hB02.size)
    go_wp2_with fail
    refine (flush_no _ _ _ _ _ _ (h.below hB03) hn HG.out).mono ?_; rintro e w' ⟨rfl, rfl⟩
    rcases hq with rfl | ⟨v, rfl⟩
    · go_wp2
      go_ret
      exact ⟨rfl, hB03⟩
    · go_wp2
      go_ret
      exact ⟨rfl, hB03⟩
end Go.Proofs.Ythppmdoomcpbkaa
