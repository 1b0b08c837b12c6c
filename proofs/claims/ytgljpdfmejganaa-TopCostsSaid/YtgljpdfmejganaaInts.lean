/- The walks of the functions that only read a slice of integers: Has, slices.Index, slices.Contains, core.All, core.Reqs: what each returns, for every input. -/
import Derived.Test.YtgljpdfmejganaaRows
import Derived.Test.YtgljpdfmejganaaWords
import Derived.Test.YtgljpdfmejganaaLists
import Derived.Outline
namespace Go.Proofs.Ytgljpdfmejganaa
open Go.ChangeShapes Go.WideShapes Go.ChangeAt Go.RowKit

theorem index_any (A : Option Addr) (n c : Nat) (l : List Int) (x : Int) (w : World) (h : RI w A n l) (hn : n ≤ 9223372036854775807) :
    Calls Try.prog 47 #[.slice A n c, .int .i64 x] w fun e w' => e = .returned (.int .i64 (ixI l x)) ∧ w = w' := by
  have HL := Lib.hid h.len
  go_enter Try.func47, Try.ntmps47
  go_wp2
  go_loop [5, 8] (fun _ i => ∃ k : Nat, k ≤ n ∧ i = .int .i64 k ∧ Hid (x ∉ l.take k)) (fun _ i => n - (intOf i).toNat)
  case atStart => exact ⟨0, by omega, by go_num, by simp [Hid]⟩
  case round =>
    obtain ⟨k, hk, rfl, hx⟩ := hrel
    by_cases hlt : k < n
    · obtain ⟨ad, y, rfl, HY, hc⟩ := h.at_ hlt
      by_cases he : x = y
      · subst he
        have HE := Lib.hid (show ixI l x = k by rw [ixI_mem (mem_of_at HY.out), idxOf_at hx.out HY.out])
        go_wp2
        go_ret
        rw [HE.out]
        exact ⟨rfl, rfl⟩
      · have HE := Lib.hid (not_mem_take_succ hx.out HY.out (fun h => he h.symm))
        go_wp2
        go_round
        case rel => exact ⟨k + 1, by omega, by go_num, HE⟩
        case measure => simp [intOf]; omega
    · have HE := Lib.hid (ixI_not (l := l) (x := x) (by have := hx.out; rw [List.take_of_length_le (by have := HL.out; omega)] at this; exact this))
      go_wp2
      go_ret
      rw [HE.out]
      exact ⟨rfl, rfl⟩

theorem contains_any (A : Option Addr) (n c : Nat) (l : List Int) (x : Int) (w : World) (h : RI w A n l) (hn : n ≤ 9223372036854775807) :
    Calls Try.prog 28 #[.slice A n c, .int .i64 x] w fun e w' => e = .returned (.bool (hasB l x)) ∧ w = w' := by
  by_cases hm : x ∈ l
  · have HE := Lib.hid (ixI_mem hm)
    have HB := Lib.hid ((hasB_iff l x).2 hm)
    clear hm
    go_enter Try.func28, Try.ntmps28
    go_wp2_with fail
    refine (index_any _ _ _ _ _ _ h hn).mono ?_; rintro e w' ⟨rfl, rfl⟩
    rw [HE.out]
    go_wp2
    go_ret
    rw [HB.out]
    exact ⟨rfl, rfl⟩
  · have HE := Lib.hid (ixI_not hm)
    have HB := Lib.hid ((hasB_false l x).2 hm)
    clear hm
    go_enter Try.func28, Try.ntmps28
    go_wp2_with fail
    refine (index_any _ _ _ _ _ _ h hn).mono ?_; rintro e w' ⟨rfl, rfl⟩
    rw [HE.out]
    go_wp2
    go_ret
    rw [HB.out]
    exact ⟨rfl, rfl⟩

theorem within_ok (n lo hi : Int) (w : World) (h1 : lo ≤ n) (h2 : n ≤ hi) :
    Calls Try.prog 64 #[.int .i64 n, .int .i64 lo, .int .i64 hi] w fun e w' => e = .returned (.bool true) ∧ w = w' := by
  go_enter Try.func64, Try.ntmps64
  go_wp2
  go_ret
  exact ⟨rfl, rfl⟩

theorem within_no (n lo hi : Int) (w : World) (h : n < lo ∨ hi < n) :
    Calls Try.prog 64 #[.int .i64 n, .int .i64 lo, .int .i64 hi] w fun e w' => e = .returned (.bool false) ∧ w = w' := by
  by_cases h1 : lo ≤ n
  · have h2 : ¬ n ≤ hi := by omega
    clear h
    go_enter Try.func64, Try.ntmps64
    go_wp2
    go_ret
    exact ⟨rfl, rfl⟩
  · clear h
    go_enter Try.func64, Try.ntmps64
    go_wp2
    go_ret
    exact ⟨rfl, rfl⟩

/-- All numbers of a list lie between two bounds. -/
theorem all_any (A : Option Addr) (n c : Nat) (l : List Int) (lo hi : Int) (w : World) (h : RI w A n l) (hn : n ≤ 9223372036854775807) :
    Calls Try.prog 63 #[.slice A n c, .int .i64 lo, .int .i64 hi] w fun e w' => ((e = .returned (.bool true) ∧ AllIn l lo hi) ∨ (e = .returned (.bool false) ∧ ¬ AllIn l lo hi)) ∧ w = w' := by
  have HL := Lib.hid h.len
  go_enter Try.func63, Try.ntmps63
  go_wp2
  go_loop [8, 11] (fun _ i => ∃ k : Nat, k ≤ n ∧ i = .int .i64 k ∧ Hid (AllIn (l.take k) lo hi)) (fun _ i => n - (intOf i).toNat)
  case atStart => exact ⟨0, by omega, by go_num, by simp [Hid, AllIn]⟩
  case round =>
    obtain ⟨k, hk, rfl, hx⟩ := hrel
    by_cases hlt : k < n
    · obtain ⟨ad, y, rfl, HY, hc⟩ := h.at_ hlt
      by_cases he : lo ≤ y ∧ y ≤ hi
      · have HE := Lib.hid (AllIn.take_succ hx.out HY.out he)
        obtain ⟨he1, he2⟩ := he
        go_wp2_with fail
        refine (within_ok _ _ _ _ he1 he2).mono ?_; rintro e w' ⟨rfl, rfl⟩
        go_wp2
        go_round
        case rel => exact ⟨k + 1, by omega, by go_num, HE⟩
        case measure => simp [intOf]; omega
      · have he1 : y < lo ∨ hi < y := by omega
        have HN := Lib.hid (show ¬ AllIn l lo hi from fun h => he (h _ (mem_of_at HY.out)))
        have HE := Lib.hid he1
        clear he he1
        go_wp2_with fail
        refine (within_no _ _ _ _ HE.out).mono ?_; rintro e w' ⟨rfl, rfl⟩
        go_wp2
        go_ret
        exact ⟨.inr ⟨rfl, HN.out⟩, rfl⟩
    · have HE := Lib.hid (show AllIn l lo hi by have := hx.out; rw [List.take_of_length_le (by have := HL.out; omega)] at this; exact this)
      go_wp2
      go_ret
      exact ⟨.inl ⟨rfl, HE.out⟩, rfl⟩

theorem all_ok (A : Option Addr) (n c : Nat) (l : List Int) (lo hi : Int) (w : World) (h : RI w A n l) (hn : n ≤ 9223372036854775807) (ha : AllIn l lo hi) :
    Calls Try.prog 63 #[.slice A n c, .int .i64 lo, .int .i64 hi] w fun e w' => e = .returned (.bool true) ∧ w = w' :=
  (all_any A n c l lo hi w h hn).mono fun e w' ⟨h1, h2⟩ => ⟨by rcases h1 with h1 | h1; exact h1.1; exact absurd ha h1.2, h2⟩
theorem all_no (A : Option Addr) (n c : Nat) (l : List Int) (lo hi : Int) (w : World) (h : RI w A n l) (hn : n ≤ 9223372036854775807) (ha : ¬ AllIn l lo hi) :
    Calls Try.prog 63 #[.slice A n c, .int .i64 lo, .int .i64 hi] w fun e w' => e = .returned (.bool false) ∧ w = w' :=
  (all_any A n c l lo hi w h hn).mono fun e w' ⟨h1, h2⟩ => ⟨by rcases h1 with h1 | h1; exact absurd h1.2 ha; exact h1.1, h2⟩

/-- Requests that are pages, few enough, and slots in bounds. -/
theorem reqs_ok (A : Option Addr) (n c : Nat) (l : List Int) (slots : Int) (w : World) (h : RI w A n l) (hg : GoodReqs l slots) :
    Calls Try.prog 27 #[.slice A n c, .int .i64 slots] w fun e w' => e = .returned .nilIface ∧ w = w' := by
  obtain ⟨g1, g2, g3, g4⟩ := hg
  have hn : n ≤ 40 := by have := h.len; omega
  have H2 := Lib.hid g2
  clear g2 g1
  go_enter Try.func27, Try.ntmps27
  go_wp2_with fail
  refine (all_ok _ _ _ _ _ _ _ h (by omega) H2.out).mono ?_; rintro e w' ⟨rfl, rfl⟩
  go_wp2_with fail
  refine (within_ok _ _ _ _ g3 g4).mono ?_; rintro e w' ⟨rfl, rfl⟩
  go_wp2
  go_ret
  exact ⟨rfl, rfl⟩

theorem reqs_full (A : Option Addr) (n c : Nat) (l : List Int) (slots : Int) (w : World) (h : RI w A n l) (hn : n ≤ 9223372036854775807) (hg : 40 < l.length) :
    Calls Try.prog 27 #[.slice A n c, .int .i64 slots] w fun e w' => e = .returned (.iface 108 (.int .i64 4)) ∧ w = w' := by
  have hn2 : 40 < n := by have := h.len; omega
  clear hg
  go_enter Try.func27, Try.ntmps27
  go_wp2
  go_ret
  exact ⟨rfl, rfl⟩

theorem reqs_range (A : Option Addr) (n c : Nat) (l : List Int) (slots : Int) (w : World) (h : RI w A n l) (hg : l.length ≤ 40) (hb : ¬ (AllIn l 0 15 ∧ 1 ≤ slots ∧ slots ≤ 8)) :
    Calls Try.prog 27 #[.slice A n c, .int .i64 slots] w fun e w' => e = .returned (.iface 108 (.int .i64 1)) ∧ w = w' := by
  have hn : n ≤ 40 := by have := h.len; omega
  clear hg
  by_cases ha : AllIn l 0 15
  · have hs : slots < 1 ∨ 8 < slots := by
      by_cases h1 : 1 ≤ slots
      · by_cases h2 : slots ≤ 8
        · exact absurd ⟨ha, h1, h2⟩ hb
        · omega
      · omega
    have H2 := Lib.hid ha
    have H3 := Lib.hid hs
    clear ha hs hb
    go_enter Try.func27, Try.ntmps27
    go_wp2_with fail
    refine (all_ok _ _ _ _ _ _ _ h (by omega) H2.out).mono ?_; rintro e w' ⟨rfl, rfl⟩
    go_wp2_with fail
    refine (within_no _ _ _ _ H3.out).mono ?_; rintro e w' ⟨rfl, rfl⟩
    go_wp2
    go_ret
    exact ⟨rfl, rfl⟩
  · have H2 := Lib.hid ha
    clear ha hb
    go_enter Try.func27, Try.ntmps27
    go_wp2_with fail
    refine (all_no _ _ _ _ _ _ _ h (by omega) H2.out).mono ?_; rintro e w' ⟨rfl, rfl⟩
    go_wp2
    go_ret
    exact ⟨rfl, rfl⟩

/-- The number of the error that requests and slots meet: 0, 4 or 1. -/
theorem reqs_no (A : Option Addr) (n c : Nat) (l : List Int) (slots : Int) (w : World) (h : RI w A n l) (hn : n ≤ 9223372036854775807) (hg : ¬ GoodReqs l slots) :
    Calls Try.prog 27 #[.slice A n c, .int .i64 slots] w fun e w' => e = .returned (.iface 108 (.int .i64 (reqsE l slots))) ∧ w = w' := by
  by_cases h4 : 40 < l.length
  · rw [show reqsE l slots = 4 by unfold reqsE; rw [if_pos h4]]
    exact reqs_full A n c l slots w h hn h4
  · have h1 : ¬ (AllIn l 0 15 ∧ 1 ≤ slots ∧ slots ≤ 8) := fun hh => hg ⟨by omega, hh⟩
    rw [show reqsE l slots = 1 by unfold reqsE; rw [if_neg h4, if_neg h1]]
    exact reqs_range A n c l slots w h (by omega) h1
end Go.Proofs.Ytgljpdfmejganaa
