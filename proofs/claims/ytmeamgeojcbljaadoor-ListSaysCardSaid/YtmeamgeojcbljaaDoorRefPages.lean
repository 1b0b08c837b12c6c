/- The walks of larderwickref1.in, .All and .Pages: what is wrong with requests and slots. -/
import Derived.Test.YtmeamgeojcbljaaDoorInts
import Derived.Outline
namespace Go.Proofs.YtmeamgeojcbljaaDoor
open Go.ChangeShapes Go.WideShapes Go.ChangeAt Go.RowKit

theorem RI.cellAt {w : World} {ad : Addr} {n : Nat} {l : List Int} {k : Nat} {y : Int} (h : RI w (some ad) n l) (hy : l[k]? = some y) : w.cell? (ad.add k) = some (.int .i64 y) := by
  have hk : k < n := by have := (List.getElem?_eq_some_iff.1 hy).1; have := h.1; omega
  obtain ⟨ad', e, hc⟩ := h.2 (by omega)
  injection e with e
  subst e
  exact hc k y hy
theorem RI.cell0 {w : World} {ad : Addr} {n : Nat} {l : List Int} {y : Int} (h : RI w (some ad) n l) (hy : l[0]? = some y) : w.cell? ad = some (.int .i64 y) := by
  have := h.cellAt hy
  rwa [show ad.add 0 = ad from by simp [Addr.add]] at this
theorem rin_ok (n lo hi : Int) (w : World) (h1 : lo ≤ n) (h2 : n ≤ hi) :
    Calls Tryd.prog 46 #[.int .i64 n, .int .i64 lo, .int .i64 hi] w fun e w' => e = .returned (.bool true) ∧ w = w' := by
  go_enter Tryd.func46, Tryd.ntmps46
  go_wp2
  go_ret
  exact ⟨rfl, rfl⟩
theorem rin_no (n lo hi : Int) (w : World) (h : n < lo ∨ hi < n) :
    Calls Tryd.prog 46 #[.int .i64 n, .int .i64 lo, .int .i64 hi] w fun e w' => e = .returned (.bool false) ∧ w = w' := by
  by_cases h1 : lo ≤ n
  · have h2 : ¬ n ≤ hi := by omega
    clear h
    go_enter Tryd.func46, Tryd.ntmps46
    go_wp2
    go_ret
    exact ⟨rfl, rfl⟩
  · clear h
    go_enter Tryd.func46, Tryd.ntmps46
    go_wp2
    go_ret
    exact ⟨rfl, rfl⟩
theorem rall_any (A : Option Addr) (n c : Nat) (l : List Int) (lo hi : Int) (w : World) (h : RI w A n l) (hn : n ≤ 9223372036854775807) :
    Calls Tryd.prog 45 #[.slice A n c, .int .i64 lo, .int .i64 hi] w fun e w' => ((e = .returned (.bool true) ∧ AllIn l lo hi) ∨ (e = .returned (.bool false) ∧ ¬ AllIn l lo hi)) ∧ w = w' := by
  have HL := Lib.hid h.len
  go_enter Tryd.func45, Tryd.ntmps45
  go_wp2
  go_loop [7] (fun i => ∃ k : Nat, k ≤ n ∧ i = .int .i64 k ∧ Hid (AllIn (l.take k) lo hi)) (fun i => n - (intOf i).toNat)
  case atStart => exact ⟨0, by omega, by go_num, by simp [Hid, AllIn]⟩
  case round =>
    obtain ⟨k, hk, rfl, hx⟩ := hrel
    by_cases hlt : k < n
    · obtain ⟨ad, y, rfl, HY, hc⟩ := h.at_ hlt
      by_cases he : lo ≤ y ∧ y ≤ hi
      · have HE := Lib.hid (AllIn.take_succ hx.out HY.out he)
        obtain ⟨he1, he2⟩ := he
        go_wp2_with fail
        refine (rin_ok _ _ _ _ he1 he2).mono ?_; rintro e w' ⟨rfl, rfl⟩
        go_wp2
        go_round
        case rel => exact ⟨k + 1, by omega, by go_num, HE⟩
        case measure => simp [intOf]; omega
      · have he1 : y < lo ∨ hi < y := by omega
        have HN := Lib.hid (show ¬ AllIn l lo hi from fun h => he (h _ (mem_of_at HY.out)))
        have HE := Lib.hid he1
        clear he he1
        go_wp2_with fail
        refine (rin_no _ _ _ _ HE.out).mono ?_; rintro e w' ⟨rfl, rfl⟩
        go_wp2
        go_ret
        exact ⟨.inr ⟨rfl, HN.out⟩, rfl⟩
    · have HE := Lib.hid (show AllIn l lo hi by have := hx.out; rw [List.take_of_length_le (by have := HL.out; omega)] at this; exact this)
      go_wp2
      go_ret
      exact ⟨.inl ⟨rfl, HE.out⟩, rfl⟩
theorem rall_ok (A : Option Addr) (n c : Nat) (l : List Int) (lo hi : Int) (w : World) (h : RI w A n l) (hn : n ≤ 9223372036854775807) (ha : AllIn l lo hi) :
    Calls Tryd.prog 45 #[.slice A n c, .int .i64 lo, .int .i64 hi] w fun e w' => e = .returned (.bool true) ∧ w = w' :=
  (rall_any A n c l lo hi w h hn).mono fun e w' ⟨h1, h2⟩ => ⟨by rcases h1 with h1 | h1; exact h1.1; exact absurd ha h1.2, h2⟩
theorem rall_no (A : Option Addr) (n c : Nat) (l : List Int) (lo hi : Int) (w : World) (h : RI w A n l) (hn : n ≤ 9223372036854775807) (ha : ¬ AllIn l lo hi) :
    Calls Tryd.prog 45 #[.slice A n c, .int .i64 lo, .int .i64 hi] w fun e w' => e = .returned (.bool false) ∧ w = w' :=
  (rall_any A n c l lo hi w h hn).mono fun e w' ⟨h1, h2⟩ => ⟨by rcases h1 with h1 | h1; exact absurd h1.2 ha; exact h1.1, h2⟩

theorem pages_ok (A : Option Addr) (n c : Nat) (l : List Int) (slots : Int) (w : World) (h : RI w A n l) (hg : GoodReqs l slots) :
    Calls Tryd.prog 16 #[.slice A n c, .int .i64 slots] w fun e w' => e = .returned (.int .i64 0) ∧ w = w' := by
  obtain ⟨g1, g2, g3, g4⟩ := hg
  have hn : n ≤ 40 := by have := h.len; omega
  have H2 := Lib.hid g2
  clear g2 g1
  go_enter Tryd.func16, Tryd.ntmps16
  go_wp2_with fail
  refine (rall_ok _ _ _ _ _ _ _ h (by omega) H2.out).mono ?_; rintro e w' ⟨rfl, rfl⟩
  go_wp2_with fail
  refine (rin_ok _ _ _ _ g3 g4).mono ?_; rintro e w' ⟨rfl, rfl⟩
  go_wp2
  go_ret
  exact ⟨rfl, rfl⟩
theorem pages_no (A : Option Addr) (n c : Nat) (l : List Int) (slots : Int) (w : World) (h : RI w A n l) (hn : n ≤ 9223372036854775807) (hg : ¬ GoodReqs l slots) :
    Calls Tryd.prog 16 #[.slice A n c, .int .i64 slots] w fun e w' => e = .returned (.int .i64 (reqsE l slots)) ∧ w = w' := by
  by_cases h4 : 40 < l.length
  · rw [show reqsE l slots = 4 by unfold reqsE; rw [if_pos h4]]
    have hn2 : 40 < n := by have := h.len; omega
    clear hg h4
    go_enter Tryd.func16, Tryd.ntmps16
    go_wp2
    go_ret
    exact ⟨rfl, rfl⟩
  · have h1 : ¬ (AllIn l 0 15 ∧ 1 ≤ slots ∧ slots ≤ 8) := fun hh => hg ⟨by omega, hh⟩
    rw [show reqsE l slots = 1 by unfold reqsE; rw [if_neg h4, if_neg h1]]
    have hn : n ≤ 40 := by have := h.len; omega
    by_cases ha : AllIn l 0 15
    · have hs : slots < 1 ∨ 8 < slots := by
        by_cases h1' : 1 ≤ slots
        · by_cases h2 : slots ≤ 8
          · exact absurd ⟨ha, h1', h2⟩ h1
          · omega
        · omega
      have H2 := Lib.hid ha
      have H3 := Lib.hid hs
      clear ha hs h1 hg h4
      go_enter Tryd.func16, Tryd.ntmps16
      go_wp2_with fail
      refine (rall_ok _ _ _ _ _ _ _ h (by omega) H2.out).mono ?_; rintro e w' ⟨rfl, rfl⟩
      go_wp2_with fail
      refine (rin_no _ _ _ _ H3.out).mono ?_; rintro e w' ⟨rfl, rfl⟩
      go_wp2
      go_ret
      exact ⟨rfl, rfl⟩
    · have H2 := Lib.hid ha
      clear ha h1 hg h4
      go_enter Tryd.func16, Tryd.ntmps16
      go_wp2_with fail
      refine (rall_no _ _ _ _ _ _ _ h (by omega) H2.out).mono ?_; rintro e w' ⟨rfl, rfl⟩
      go_wp2
      go_ret
      exact ⟨rfl, rfl⟩
theorem reqsE_ne (l : List Int) (slots : Int) (hg : ¬ GoodReqs l slots) : ((reqsE l slots : Int) == 0) = false := by
  unfold reqsE
  by_cases h4 : 40 < l.length
  · rw [if_pos h4]; rfl
  · have h1 : ¬ (AllIn l 0 15 ∧ 1 ≤ slots ∧ slots ≤ 8) := fun hh => hg ⟨by omega, hh⟩
    rw [if_neg h4, if_neg h1]; rfl
end Go.Proofs.YtmeamgeojcbljaaDoor
