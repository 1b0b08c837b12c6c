/- The walks of the laws on servers: they return true, for every input. -/
import Derived.Test.YtibefbboilpfmaaServeDbl
import Derived.Test.YtibefbboilpfmaaServeLst
import Derived.Test.YtibefbboilpfmaaServeLaws
import Derived.Test.YtibefbboilpfmaaRefPages
import Derived.Test.YtibefbboilpfmaaSame
import Derived.IntWalk
namespace Go.Proofs.Ytibefbboilpfmaa
open Go.ChangeShapes Go.WideShapes Go.ChangeAt Go.RowKit

theorem abs_any (a b : Int) (w : World) (ha : 0 ≤ a ∧ a ≤ 12) (hb : 0 ≤ b ∧ b ≤ 12) :
    Calls Try.prog 11 #[.int .i64 a, .int .i64 b] w fun e w' => e = .returned (.int .i64 (absI a b)) ∧ w = w' := by
  have e1 : wrap64 (a - b) = a - b := IntWalk.wrap64_in _ (by omega)
  have e2 : wrap64 (b - a) = b - a := IntWalk.wrap64_in _ (by omega)
  obtain ⟨v, hv⟩ : ∃ v, absI a b = v := ⟨_, rfl⟩
  have hm : max (a - b) (b - a) = v := hv
  rw [hv]
  clear hv
  by_cases hab : b < a
  · obtain rfl : v = a - b := by omega
    clear hm
    go_enter Try.func11, Try.ntmps11
    go_wp2
    go_ret
    exact ⟨rfl, rfl⟩
  · obtain rfl : v = b - a := by omega
    clear hm
    go_enter Try.func11, Try.ntmps11
    go_wp2
    go_ret
    exact ⟨rfl, rfl⟩
theorem sin_ok (n lo hi : Int) (w : World) (h1 : lo ≤ n) (h2 : n ≤ hi) :
    Calls Try.prog 12 #[.int .i64 n, .int .i64 lo, .int .i64 hi] w fun e w' => e = .returned (.bool true) ∧ w = w' := by
  go_enter Try.func12, Try.ntmps12
  go_wp2
  go_ret
  exact ⟨rfl, rfl⟩
theorem sin_no (n lo hi : Int) (w : World) (h : n < lo ∨ hi < n) :
    Calls Try.prog 12 #[.int .i64 n, .int .i64 lo, .int .i64 hi] w fun e w' => e = .returned (.bool false) ∧ w = w' := by
  by_cases h1 : lo ≤ n
  · have h2 : ¬ n ≤ hi := by omega
    clear h
    go_enter Try.func12, Try.ntmps12
    go_wp2
    go_ret
    exact ⟨rfl, rfl⟩
  · clear h
    go_enter Try.func12, Try.ntmps12
    go_wp2
    go_ret
    exact ⟨rfl, rfl⟩

theorem fact_d : runS dstep [0, 10] [4] = (8, [4, 6]) := by
  have h1 : sortI [0, 10] = [0, 10] := sortI_of (List.Perm.refl _) (by simp)
  have h2 : dstep [0, 10] 4 = (8, [4, 6]) := by decide
  have h3 : sortI [4, 6] = [4, 6] := sortI_of (List.Perm.refl _) (by simp)
  show (0 + (dstep (sortI [0, 10]) 4).1, sortI (dstep (sortI [0, 10]) 4).2) = _
  rw [h1, h2, h3]; rfl
theorem fact_l {v : Int} (h : Best (NxS 2) [0, 10] [4] v) : v = 4 := by
  obtain ⟨⟨k', k1, d1, d2, ⟨i, hi, rfl, rfl⟩, ⟨rfl, rfl⟩, rfl⟩, h2⟩ := h
  have h3 := h2 _ _ ⟨_, _, _, ⟨0, by omega, rfl, rfl⟩, ⟨rfl, rfl⟩, rfl⟩
  have e0 : absI (([0, 10] : List Int).getD 0 0) 4 = 4 := by decide
  have e1 : absI (([0, 10] : List Int).getD 1 0) 4 = 6 := by decide
  rw [e0] at h3
  rcases (show i = 0 ∨ i = 1 by omega) with e | e <;> subst e <;> omega

set_option maxHeartbeats 1000000 in
theorem serveFact_ok (w : World) : Calls Try.prog 8 #[] w fun e w' => e = .returned (.bool true) ∧ Below w.heap.size w w' := by
  have hgood : GoodS [0, 10] [4] := by simp [GoodS, AllIn]
  have hl : ∀ w : World, RI ((w.alloc (.cells #[.int .i64 0, .int .i64 10] 3)).alloc (.cells #[.int .i64 4] 3)) (some ⟨w.heap.size, 0, none⟩) 2 [0, 10] := fun w =>
    (RI.lit w #[.int .i64 0, .int .i64 10] 3 [0, 10] 2 rfl rfl).below ((Below.refl _ _).alloc (Nat.le_refl _) _)
  have hl2 : ∀ w : World, RI ((w.alloc (.cells #[.int .i64 0, .int .i64 10] 3)).alloc (.cells #[.int .i64 4] 3)) (some ⟨w.heap.size + 1, 0, none⟩) 1 [4] := fun w => by
    have := RI.lit (w.alloc (.cells #[.int .i64 0, .int .i64 10] 3)) #[.int .i64 4] 3 [4] 1 rfl rfl
    rwa [World.size_alloc] at this
  have hb : ∀ w : World, Below w.heap.size w ((w.alloc (.cells #[.int .i64 0, .int .i64 10] 3)).alloc (.cells #[.int .i64 4] 3)) := fun w =>
    ((Below.refl _ w).alloc (Nat.le_refl _) _).alloc (by simp) _
  go_enter Try.func8, Try.ntmps8
  go_wp2_with fail
  refine (double_ok _ _ _ _ _ _ _ _ _ (hl w) (hl2 w) hgood).mono ?_; rintro e w1 ⟨A1, c1, rfl, R1, hB1⟩
  rw [fact_d] at R1 ⊢
  have hB01 := (hb w).trans (hB1.mono (by simp; omega))
  have R1' := R1.below ((hb w1).mono (Nat.le_refl _))
  have hw1 : w.heap.size ≤ w1.heap.size := hB01.size
  go_wp2_with fail
  refine (sleast_ok _ _ _ _ _ _ _ _ _ (hl w1) (hl2 w1) hgood).mono ?_; rintro e w2 ⟨v, rfl, hv, hB2⟩
  obtain rfl := fact_l (best_pad rfl hv)
  have hB02 := (hB01.trans ((hb w1).mono hw1)).trans (hB2.mono (by simp; omega))
  have R2 := R1'.below hB2
  have hw2 := hB02.size
  have M2 : Hid (eqI [4, 6] [4, 6] = true) := by simp [Hid, eqI]
  clear hv
  go_wp2_with fail
  have h2 := RI.lit w2 #[.int .i64 4, .int .i64 6] 3 [4, 6] 2 rfl rfl
  refine (ints_any _ _ _ _ _ _ _ _ _ ((Row.reads R2).below ((Below.refl w2.heap.size w2).alloc (Nat.le_refl _) _)) h2 (by omega) (by omega)).mono ?_; rintro e w' ⟨rfl, d, rfl⟩
  rw [show eqI _ [4, 6] = true from M2.out]
  go_wp2
  go_ret
  exact ⟨rfl, belowN (hB02.alloc hw2 _) _⟩

set_option maxRecDepth 100000 in
set_option maxHeartbeats 2000000 in
theorem law_ServeThere (A Ac : Option Addr) (n c m cc : Nat) (s a : List Int) (w : World) (hs : RI w A n s) (hc : RI w Ac m a) (hn : n ≤ 9223372036854775807) (hm : m ≤ 9223372036854775807) :
    Calls Try.prog 6 #[.slice A n c, .slice Ac m cc] w fun e w' => e = .returned (.bool true) ∧ Below w.heap.size w w' := by
  have HL := Lib.hid hs.len
  have HM := Lib.hid hc.len
  go_enter Try.func6, Try.ntmps6
  go_wp2_with fail
  refine (serveFact_ok _).mono ?_; rintro e w0 ⟨rfl, hB0⟩
  have hs0 := hs.below hB0
  have hc0 := hc.below hB0
  by_cases hg : GoodS s a
  · have HG := Lib.hid hg
    have hn0 : 0 < n := by
      have h0 := hs.len
      rcases Nat.eq_zero_or_pos n with e | e
      · exact absurd (List.eq_nil_of_length_eq_zero (by omega)) hg.1
      · exact e
    have hn3 : n ≤ 3 := by have := hs.len; have := hg.2.1; omega
    have hm20 : m ≤ 20 := by have := hc.len; have := hg.2.2.1; omega
    have HON := Lib.hid (show onL n s from ⟨hs.len, hg.2.2.2.1⟩)
    clear hg
    go_wp2_with fail
    refine (double_ok _ _ _ _ _ _ _ _ _ hs0 hc0 HG.out).mono ?_; rintro e w1 ⟨A1, c1, rfl, R1, hB1⟩
    have hB01 := hB0.trans (hB1.mono hB0.size)
    go_wp2_with fail
    refine (near_ok _ _ _ _ _ _ _ _ _ (hs.below hB01) (hc.below hB01) HG.out).mono ?_; rintro e w2 ⟨A2, c2, rfl, R2, hB2⟩
    have hB02 := hB01.trans (hB2.mono hB01.size)
    have P1 := (Row.reads R1).below hB2
    have P2 := Row.reads R2
    have HD := Lib.hid (runS_in' (f := dstep) (fun s x => dstep_in) HON.out a HG.out.2.2.2.2)
    have HN := Lib.hid (runS_in' (f := nstep) (fun s x => nstep_in) HON.out a HG.out.2.2.2.2)
    have hA1 : Hid (AllIn (runS dstep s a).2 0 12) := Lib.hid (fun y hy => HD.out.2.2.2 y hy)
    have hA2 : Hid (AllIn (runS nstep s a).2 0 12) := Lib.hid (fun y hy => HN.out.2.2.2 y hy)
    clear R1 R2 hs0 hc0
    go_wp2_with fail
    refine (rall_ok _ _ _ _ _ _ _ P1 (by omega) hA1.out).mono ?_; rintro e w' ⟨rfl, rfl⟩
    go_wp2_with fail
    refine (rall_ok _ _ _ _ _ _ _ P2 (by omega) hA2.out).mono ?_; rintro e w' ⟨rfl, rfl⟩
    rcases Nat.eq_zero_or_pos m with hm0 | hm0
    · subst hm0
      go_wp2
      go_ret
      exact ⟨rfl, hB02⟩
    · obtain ⟨r1, hr1⟩ : ∃ r1, m - 1 = r1 := ⟨_, rfl⟩
      obtain ⟨ad, x, rfl, hx, hcx⟩ := (hc.below hB02).at_ (show r1 < m by omega)
      have hmz : ¬ (m : Int) = 0 := by omega
      have hxl : a[a.length - 1]? = some x := by rw [HM.out, hr1]; exact hx.out
      have T1 := Lib.hid ((hasB_iff _ _).2 (there_end (f := dstep) (fun q x hq => dstep_there hq x) hn0 (fun s x => dstep_in) HON.out HG.out.2.2.2.2 hxl))
      have T2 := Lib.hid ((hasB_iff _ _).2 (there_end (f := nstep) (fun q x hq => nstep_there hq x) hn0 (fun s x => nstep_in) HON.out HG.out.2.2.2.2 hxl))
      have hz1 : ((m : Int) - 1) = r1 := by omega
      have hr9 : r1 ≤ 19 := by omega
      have hrn : r1 < m := by omega
      have hw1 : IntKind.i64.wrap (r1 : Int) = r1 := IntWalk.i64_in _ (by omega)
      clear hr1 hxl
      go_wp2_with fail
      refine (has_q _ _ _ _ _ _ P1 (by omega)).mono ?_; rintro e w' ⟨rfl, rfl⟩
      rw [T1.out]
      go_wp2_with fail
      refine (has_q _ _ _ _ _ _ P2 (by omega)).mono ?_; rintro e w' ⟨rfl, rfl⟩
      rw [T2.out]
      go_wp2
      go_ret
      exact ⟨rfl, hB02⟩
  · have HG := Lib.hid hg
    clear hg
    go_wp2_with fail
    refine (double_no _ _ _ _ _ _ _ _ _ hs0 hc0 hn hm HG.out).mono ?_; rintro e w1 ⟨rfl, rfl⟩
    go_wp2_with fail
    refine (near_no _ _ _ _ _ _ _ _ _ hs0 hc0 hn hm HG.out).mono ?_; rintro e w1 ⟨rfl, rfl⟩
    go_wp2
    go_ret
    exact ⟨rfl, hB0⟩
end Go.Proofs.Ytibefbboilpfmaa
