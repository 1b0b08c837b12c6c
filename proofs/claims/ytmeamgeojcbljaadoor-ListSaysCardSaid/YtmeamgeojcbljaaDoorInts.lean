/- The walks of the functions that only read a slice of integers: Has, slices.Index, slices.Contains, core.All, core.Reqs: what each returns, for every input. -/
import Derived.Test.YtmeamgeojcbljaaDoorRows
import Derived.Test.YtmeamgeojcbljaaDoorWords
import Derived.Test.YtmeamgeojcbljaaDoorLists
import Derived.Outline
namespace Go.Proofs.YtmeamgeojcbljaaDoor
open Go.ChangeShapes Go.WideShapes Go.ChangeAt Go.RowKit

theorem has_any (A : Option Addr) (n c : Nat) (l : List Int) (x : Int) (w : World) (h : RI w A n l) (hn : n ≤ 9223372036854775807) :
    Calls Tryd.prog 21 #[.slice A n c, .int .i64 x] w fun e w' => e = .returned (.bool (hasB l x)) ∧ w = w' := by
  have HL := Lib.hid h.len
  go_enter Tryd.func21, Tryd.ntmps21
  go_wp2
  go_loop [5] (fun i => ∃ k : Nat, k ≤ n ∧ i = .int .i64 k ∧ Hid (x ∉ l.take k)) (fun i => n - (intOf i).toNat)
  case atStart => exact ⟨0, by omega, by go_num, by simp [Hid]⟩
  case round =>
    obtain ⟨k, hk, rfl, hx⟩ := hrel
    by_cases hlt : k < n
    · obtain ⟨ad, y, rfl, HY, hc⟩ := h.at_ hlt
      by_cases he : y = x
      · subst he
        have HE := Lib.hid ((hasB_iff l y).2 (mem_of_at HY.out))
        go_wp2
        go_ret
        rw [HE.out]
        exact ⟨rfl, rfl⟩
      · have HE := Lib.hid (not_mem_take_succ hx.out HY.out he)
        go_wp2
        go_round
        case rel => exact ⟨k + 1, by omega, by go_num, HE⟩
        case measure => simp [intOf]; omega
    · have HE := Lib.hid ((hasB_false l x).2 (by have := hx.out; rw [List.take_of_length_le (by have := HL.out; omega)] at this; exact this))
      go_wp2
      go_ret
      rw [HE.out]
      exact ⟨rfl, rfl⟩

theorem has_q (A : Option Addr) (n c : Nat) (l : List Int) (x : Int) (w : World) (h : RI w A n l) (hn : n ≤ 9223372036854775807) :
    Calls Tryd.prog 21 #[.slice A n c, .int .i64 x] w fun e w' => e = .returned (.bool (hasB l x)) ∧ w' = w :=
  (has_any A n c l x w h hn).mono fun _ _ ⟨h1, h2⟩ => ⟨h1, h2.symm⟩

theorem index_any (A : Option Addr) (n c : Nat) (l : List Int) (x : Int) (w : World) (h : RI w A n l) (hn : n ≤ 9223372036854775807) :
    Calls Tryd.prog 80 #[.slice A n c, .int .i64 x] w fun e w' => e = .returned (.int .i64 (ixI l x)) ∧ w = w' := by
  have HL := Lib.hid h.len
  go_enter Tryd.func80, Tryd.ntmps80
  go_wp2
  go_loop [5, 8] (fun _ i => ∃ k : Nat, k ≤ n ∧ i = .int .i64 k ∧ Hid (x ∉ l.take k)) (fun _ i => n - (intOf i).toNat)
  case atStart => exact ⟨0, by omega, by go_num, by simp [Hid]⟩
  case round =>
    obtain ⟨k, hk, rfl, hx⟩ := hrel
    by_cases hlt : k < n
    · obtain ⟨ad, y, rfl, HY, hc⟩ := h.at_ hlt
      by_cases he : x = y
      · subst he
        have HE := Lib.hid (show ixI l x = k by rw [ixI_mem (mem_of_at HY.out), idxOf_at hx.out HY.out])
        go_wp2
        go_ret
        rw [HE.out]
        exact ⟨rfl, rfl⟩
      · have HE := Lib.hid (not_mem_take_succ hx.out HY.out (fun h => he h.symm))
        go_wp2
        go_round
        case rel => exact ⟨k + 1, by omega, by go_num, HE⟩
        case measure => simp [intOf]; omega
    · have HE := Lib.hid (ixI_not (l := l) (x := x) (by have := hx.out; rw [List.take_of_length_le (by have := HL.out; omega)] at this; exact this))
      go_wp2
      go_ret
      rw [HE.out]
      exact ⟨rfl, rfl⟩

theorem within_ok (n lo hi : Int) (w : World) (h1 : lo ≤ n) (h2 : n ≤ hi) :
    Calls Tryd.prog 49 #[.int .i64 n, .int .i64 lo, .int .i64 hi] w fun e w' => e = .returned (.bool true) ∧ w = w' := by
  go_enter Tryd.func49, Tryd.ntmps49
  go_wp2
  go_ret
  exact ⟨rfl, rfl⟩

theorem within_no (n lo hi : Int) (w : World) (h : n < lo ∨ hi < n) :
    Calls Tryd.prog 49 #[.int .i64 n, .int .i64 lo, .int .i64 hi] w fun e w' => e = .returned (.bool false) ∧ w = w' := by
  by_cases h1 : lo ≤ n
  · have h2 : ¬ n ≤ hi := by omega
    clear h
    go_enter Tryd.func49, Tryd.ntmps49
    go_wp2
    go_ret
    exact ⟨rfl, rfl⟩
  · clear h
    go_enter Tryd.func49, Tryd.ntmps49
    go_wp2
    go_ret
    exact ⟨rfl, rfl⟩

/-- All numbers of a list lie between two bounds. -/
theorem all_any (A : Option Addr) (n c : Nat) (l : List Int) (lo hi : Int) (w : World) (h : RI w A n l) (hn : n ≤ 9223372036854775807) :
    Calls Tryd.prog 48 #[.slice A n c, .int .i64 lo, .int .i64 hi] w fun e w' => ((e = .returned (.bool true) ∧ AllIn l lo hi) ∨ (e = .returned (.bool false) ∧ ¬ AllIn l lo hi)) ∧ w = w' := by
  have HL := Lib.hid h.len
  go_enter Tryd.func48, Tryd.ntmps48
  go_wp2
  go_loop [8, 11] (fun _ i => ∃ k : Nat, k ≤ n ∧ i = .int .i64 k ∧ Hid (AllIn (l.take k) lo hi)) (fun _ i => n - (intOf i).toNat)
  case atStart => exact ⟨0, by omega, by go_num, by simp [Hid, AllIn]⟩
  case round =>
    obtain ⟨k, hk, rfl, hx⟩ := hrel
    by_cases hlt : k < n
    · obtain ⟨ad, y, rfl, HY, hc⟩ := h.at_ hlt
      by_cases he : lo ≤ y ∧ y ≤ hi
      · have HE := Lib.hid (AllIn.take_succ hx.out HY.out he)
        obtain ⟨he1, he2⟩ := he
        go_wp2_with fail
        refine (within_ok _ _ _ _ he1 he2).mono ?_; rintro e w' ⟨rfl, rfl⟩
        go_wp2
        go_round
        case rel => exact ⟨k + 1, by omega, by go_num, HE⟩
        case measure => simp [intOf]; omega
      · have he1 : y < lo ∨ hi < y := by omega
        have HN := Lib.hid (show ¬ AllIn l lo hi from fun h => he (h _ (mem_of_at HY.out)))
        have HE := Lib.hid he1
        clear he he1
        go_wp2_with fail
        refine (within_no _ _ _ _ HE.out).mono ?_; rintro e w' ⟨rfl, rfl⟩
        go_wp2
        go_ret
        exact ⟨.inr ⟨rfl, HN.out⟩, rfl⟩
    · have HE := Lib.hid (show AllIn l lo hi by have := hx.out; rw [List.take_of_length_le (by have := HL.out; omega)] at this; exact this)
      go_wp2
      go_ret
      exact ⟨.inl ⟨rfl, HE.out⟩, rfl⟩

theorem all_ok (A : Option Addr) (n c : Nat) (l : List Int) (lo hi : Int) (w : World) (h : RI w A n l) (hn : n ≤ 9223372036854775807) (ha : AllIn l lo hi) :
    Calls Tryd.prog 48 #[.slice A n c, .int .i64 lo, .int .i64 hi] w fun e w' => e = .returned (.bool true) ∧ w = w' :=
  (all_any A n c l lo hi w h hn).mono fun e w' ⟨h1, h2⟩ => ⟨by rcases h1 with h1 | h1; exact h1.1; exact absurd ha h1.2, h2⟩
theorem all_no (A : Option Addr) (n c : Nat) (l : List Int) (lo hi : Int) (w : World) (h : RI w A n l) (hn : n ≤ 9223372036854775807) (ha : ¬ AllIn l lo hi) :
    Calls Tryd.prog 48 #[.slice A n c, .int .i64 lo, .int .i64 hi] w fun e w' => e = .returned (.bool false) ∧ w = w' :=
  (all_any A n c l lo hi w h hn).mono fun e w' ⟨h1, h2⟩ => ⟨by rcases h1 with h1 | h1; exact absurd h1.2 ha; exact h1.1, h2⟩

/-- Requests that are pages, few enough, and slots in bounds. -/
theorem reqs_ok (A : Option Addr) (n c : Nat) (l : List Int) (slots : Int) (w : World) (h : RI w A n l) (hg : GoodReqs l slots) :
    Calls Tryd.prog 53 #[.slice A n c, .int .i64 slots] w fun e w' => e = .returned .nilIface ∧ w = w' := by
  obtain ⟨g1, g2, g3, g4⟩ := hg
  have hn : n ≤ 40 := by have := h.len; omega
  have H2 := Lib.hid g2
  clear g2 g1
  go_enter Tryd.func53, Tryd.ntmps53
  go_wp2_with fail
  refine (all_ok _ _ _ _ _ _ _ h (by omega) H2.out).mono ?_; rintro e w' ⟨rfl, rfl⟩
  go_wp2_with fail
  refine (within_ok _ _ _ _ g3 g4).mono ?_; rintro e w' ⟨rfl, rfl⟩
  go_wp2
  go_ret
  exact ⟨rfl, rfl⟩

theorem reqs_full (A : Option Addr) (n c : Nat) (l : List Int) (slots : Int) (w : World) (h : RI w A n l) (hn : n ≤ 9223372036854775807) (hg : 40 < l.length) :
    Calls Tryd.prog 53 #[.slice A n c, .int .i64 slots] w fun e w' => e = .returned (.iface 65 (.int .i64 4)) ∧ w = w' := by
  have hn2 : 40 < n := by have := h.len; omega
  clear hg
  go_enter Tryd.func53, Tryd.ntmps53
  go_wp2
  go_ret
  exact ⟨rfl, rfl⟩

theorem reqs_range (A : Option Addr) (n c : Nat) (l : List Int) (slots : Int) (w : World) (h : RI w A n l) (hg : l.length ≤ 40) (hb : ¬ (AllIn l 0 15 ∧ 1 ≤ slots ∧ slots ≤ 8)) :
    Calls Tryd.prog 53 #[.slice A n c, .int .i64 slots] w fun e w' => e = .returned (.iface 65 (.int .i64 1)) ∧ w = w' := by
  have hn : n ≤ 40 := by have := h.len; omega
  clear hg
  by_cases ha : AllIn l 0 15
  · have hs : slots < 1 ∨ 8 < slots := by
      by_cases h1 : 1 ≤ slots
      · by_cases h2 : slots ≤ 8
        · exact absurd ⟨ha, h1, h2⟩ hb
        · omega
      · omega
    have H2 := Lib.hid ha
    have H3 := Lib.hid hs
    clear ha hs hb
    go_enter Tryd.func53, Tryd.ntmps53
    go_wp2_with fail
    refine (all_ok _ _ _ _ _ _ _ h (by omega) H2.out).mono ?_; rintro e w' ⟨rfl, rfl⟩
    go_wp2_with fail
    refine (within_no _ _ _ _ H3.out).mono ?_; rintro e w' ⟨rfl, rfl⟩
    go_wp2
    go_ret
    exact ⟨rfl, rfl⟩
  · have H2 := Lib.hid ha
    clear ha hb
    go_enter Tryd.func53, Tryd.ntmps53
    go_wp2_with fail
    refine (all_no _ _ _ _ _ _ _ h (by omega) H2.out).mono ?_; rintro e w' ⟨rfl, rfl⟩
    go_wp2
    go_ret
    exact ⟨rfl, rfl⟩

/-- The number of the error that requests and slots meet: 0, 4 or 1. -/
theorem reqs_no (A : Option Addr) (n c : Nat) (l : List Int) (slots : Int) (w : World) (h : RI w A n l) (hn : n ≤ 9223372036854775807) (hg : ¬ GoodReqs l slots) :
    Calls Tryd.prog 53 #[.slice A n c, .int .i64 slots] w fun e w' => e = .returned (.iface 65 (.int .i64 (reqsE l slots))) ∧ w = w' := by
  by_cases h4 : 40 < l.length
  · rw [show reqsE l slots = 4 by unfold reqsE; rw [if_pos h4]]
    exact reqs_full A n c l slots w h hn h4
  · have h1 : ¬ (AllIn l 0 15 ∧ 1 ≤ slots ∧ slots ≤ 8) := fun hh => hg ⟨by omega, hh⟩
    rw [show reqsE l slots = 1 by unfold reqsE; rw [if_neg h4, if_neg h1]]
    exact reqs_range A n c l slots w h (by omega) h1
end Go.Proofs.YtmeamgeojcbljaaDoor
