/- The walk of the law TopWindow: it returns true, for every input. -/
import Derived.Test.YtdhbglkfhfimkaaWset
import Derived.Test.YtdhbglkfhfimkaaLru
import Derived.Test.YtdhbglkfhfimkaaLastPlain
import Derived.Test.YtdhbglkfhfimkaaSame
namespace Go.Proofs.Ytdhbglkfhfimkaa
open Go.ChangeShapes Go.WideShapes Go.ChangeAt Go.RowKit

/-- What was asked for among the last v requests is among the v pages that were asked for last. -/
theorem window_in {l : List Int} {v : Nat} {y : Int} (h : y ∈ lastW l v) : y ∈ (recL l).take v := by
  unfold lastW at h
  have h1 : y ∈ l.reverse.take v := by
    rw [List.take_reverse]; exact List.mem_reverse.2 h
  obtain ⟨r, hp⟩ := dd_prefix (l.reverse.take v) (l.reverse.drop v)
  rw [List.take_append_drop, ← recL_dd] at hp
  rw [hp]
  have h2 : (dd (l.reverse.take v)).length ≤ v := by have := someN_le (l.reverse.take v); rw [List.length_take] at this; unfold someN at this; omega
  rw [List.take_append, List.take_of_length_le h2]
  exact List.mem_append_left _ ((mem_dd _ _).2 h1)
theorem window_lru (l : List Int) (v : Nat) (hv : 1 ≤ v) : ∀ k, k ≤ l.length → missN ((lruRun v l).1.take k) ≤ missW l v k := by
  intro k
  induction k with
  | zero => intro _; simp [missN]
  | succ k ih =>
    intro hk
    have hy := List.getElem?_eq_getElem (show k < l.length by omega)
    obtain ⟨t, rfl⟩ : ∃ t, v = t + 1 := ⟨v - 1, by omega⟩
    have hb := lru_at t l k _ hy
    rw [missN_succ hb]
    have h1 := ih (by omega)
    have e : missW l (t + 1) (k + 1) = missW l (t + 1) k + if hasB (lastW (l.take k) (t + 1)) l[k] then 0 else 1 := by
      show missW l (t + 1) k + (if hasB (lastW (l.take k) (t + 1)) (l.getD k 0) then 0 else 1) = _
      rw [show l.getD k 0 = l[k] by rw [List.getD_eq_getElem?_getD, hy]; rfl]
    rw [e]
    cases hw : hasB (lastW (l.take k) (t + 1)) l[k]
    · simp; split <;> omega
    · rw [(hasB_iff _ _).2 (window_in ((hasB_iff _ _).1 hw))]; simp; exact h1

set_option maxHeartbeats 1000000 in
theorem law_TopWindow (A : Option Addr) (n c : Nat) (l : List Int) (v : Int) (w : World) (h : RI w A n l) (hnc : n ≤ c) (hn : n ≤ 9223372036854775807) :
    Calls Try.prog 4 #[.slice A n c, .int .i64 v] w fun e w' => e = .returned (.bool true) ∧ Below w.heap.size w w' := by
  have h0 := RI.lit w #[.int .i64 1, .int .i64 1] 3 [1, 1] 2 rfl rfl
  have hB0 := (Below.refl w.heap.size w).alloc (Nat.le_refl _) (.cells #[.int .i64 1, .int .i64 1] 3)
  have e3 : missW [1, 1] (Int.toNat 1) 2 = 1 := by decide
  have e4 : sumW [1, 1] (Int.toNat 1) 2 = 2 := by decide
  have E3 := Lib.hid e3
  have E4 := Lib.hid e4
  clear e3 e4
  have hw := h.below hB0
  by_cases hg : GoodW l v
  · obtain ⟨u, rfl⟩ : ∃ u : Nat, v = u := ⟨v.toNat, by have := hg.2.1; omega⟩
    have HL := Lib.hid h.len
    have HG := Lib.hid hg
    have hn4 : n ≤ 40 := by have := HL.out; have := hg.1.1; omega
    have hu1 : 1 ≤ u := by have := hg.2.1; omega
    clear hn hg
    by_cases hg2 : GoodReqs l (u : Int)
    · have HG2 := Lib.hid hg2
      clear hg2
      have q1 : missN (lruRun u l).1 ≤ missW l u n := by
        have := window_lru l u hu1 n (by have := HL.out; omega)
        rwa [List.take_of_length_le (by rw [lru_len]; have := HL.out; omega)] at this
      have q2 := missW_le l u n
      go_enter Try.func4, Try.ntmps4
      go_wp2_with fail
      refine (miss_ok _ _ _ _ _ _ h0 (by omega) (by simp [GoodW, GoodReqs, AllIn])).mono ?_; rintro e w' ⟨rfl, rfl⟩
      rw [E3.out, E4.out]
      go_wp2_with fail
      refine (miss_ok _ _ _ _ _ _ hw hnc HG.out).mono ?_; rintro e w' ⟨rfl, rfl⟩
      rw [Int.toNat_natCast]
      generalize (w.alloc (.cells #[.int .i64 1, .int .i64 1] 3)) = w1 at *
      go_wp2_with fail
      refine (lru_ok _ _ _ _ _ _ hw HG2.out).mono ?_; rintro e w2 ⟨A1, c1, A2, n2, c2, rfl, R1, R2, hn2, hB2⟩
      rw [Int.toNat_natCast] at R1
      have RH := Lib.hid (Row.readsB R1)
      have hB02 := hB0.trans (hB2.mono hB0.size)
      clear R1 R2
      go_wp2_with fail
      refine (misses_any _ _ _ _ _ RH.out (by omega)).mono ?_; rintro e w' ⟨rfl, rfl⟩
      generalize missN (lruRun u l).1 = a at *
      generalize missW l u n = b at *
      go_wp2
      go_ret
      exact ⟨rfl, hB02⟩
    · have HG2 := Lib.hid hg2
      clear hg2
      go_enter Try.func4, Try.ntmps4
      go_wp2_with fail
      refine (miss_ok _ _ _ _ _ _ h0 (by omega) (by simp [GoodW, GoodReqs, AllIn])).mono ?_; rintro e w' ⟨rfl, rfl⟩
      rw [E3.out, E4.out]
      go_wp2_with fail
      refine (miss_ok _ _ _ _ _ _ hw hnc HG.out).mono ?_; rintro e w' ⟨rfl, rfl⟩
      rw [Int.toNat_natCast]
      go_wp2_with fail
      refine (lru_no _ _ _ _ _ _ hw (by omega) HG2.out).mono ?_; rintro e w2 ⟨rfl, rfl⟩
      go_wp2
      go_ret
      exact ⟨rfl, hB0⟩
  · have HG := Lib.hid hg
    clear hg
    have HA : Hid (∀ w1, RI w1 A n l → Calls Try.prog 14 #[.slice A n c, .int .i64 v] w1 fun e w' => (∃ x y z, e = .returned (.tuple #[x, y, z])) ∧ Below w1.heap.size w1 w') := Lib.hid (fun w1 h1 => by
      by_cases hg : GoodReqs l v
      · exact (lru_ok A n c l v w1 h1 hg).mono fun e w' ⟨A1, c1, A2, n2, c2, he, _, _, _, hB⟩ => ⟨⟨_, _, _, he⟩, hB⟩
      · exact (lru_no A n c l v w1 h1 hn hg).mono fun e w' ⟨he, hw⟩ => ⟨⟨_, _, _, he⟩, hw ▸ Below.refl _ _⟩)
    go_enter Try.func4, Try.ntmps4
    go_wp2_with fail
    refine (miss_ok _ _ _ _ _ _ h0 (by omega) (by simp [GoodW, GoodReqs, AllIn])).mono ?_; rintro e w' ⟨rfl, rfl⟩
    rw [E3.out, E4.out]
    go_wp2_with fail
    refine (miss_no _ _ _ _ _ _ hw hn HG.out).mono ?_; rintro e w' ⟨rfl, rfl⟩
    go_wp2_with fail
    refine (HA.out _ hw).mono ?_; rintro e w2 ⟨⟨x, y, z, rfl⟩, hB2⟩
    go_wp2
    go_ret
    exact ⟨rfl, hB0.trans (hB2.mono hB0.size)⟩
end Go.Proofs.Ytdhbglkfhfimkaa
