/- The walks of package acks: what each call returns, for every input. -/
import Derived.Test.YtmeamgeojcbljaaDoorInts
import Derived.Test.YtmeamgeojcbljaaDoorInfo
import Derived.Test.YtmeamgeojcbljaaDoorAckPlain
import Derived.Deep.QuietTactic
import Derived.BigQuiet
import Derived.IntWalk
import Derived.Outline
namespace Go.Proofs.YtmeamgeojcbljaaDoor
open Go.ChangeShapes Go.WideShapes Go.ChangeAt Go.RowKit

set_option maxHeartbeats 400000 in
theorem late_any (A : Option Addr) (n c : Nat) (l : List Int) (T : Int) (w : World) (h : RI w A n l) (hn : n ≤ 100) (ha : AllIn l 0 1000000) (hT : 0 ≤ T) (hT2 : T ≤ 1000000) :
    Calls Tryd.prog 52 #[.slice A n c, .int .i64 T] w fun e w' => e = .returned (.int .i64 (lateI l T)) ∧ w = w' := by
  have HL := Lib.hid h.len
  have HA := Lib.hid ha
  clear ha
  go_enter Tryd.func52, Tryd.ntmps52
  go_wp2
  go_loop [5, 7, 10] (fun s _ i => ∃ k : Nat, ∃ q : Int, k ≤ n ∧ i = .int .i64 k ∧ s = .int .i64 q ∧ 0 ≤ q ∧ q ≤ k * 1000000 ∧ Hid (q = lateI (l.take k) T)) (fun _ _ i => n - (intOf i).toNat)
  case atStart => exact ⟨0, 0, by omega, by go_num, rfl, by omega, by omega, by simp [Hid, lateI_nil]⟩
  case round =>
    obtain ⟨k, q, hk, rfl, rfl, hq0, hq, HQ⟩ := hrel
    by_cases hlt : k < n
    · obtain ⟨ad, y, rfl, HY, hc⟩ := h.at_ hlt
      obtain ⟨y0, y1⟩ := HA.out y (mem_of_at HY.out)
      have HS := Lib.hid (lateI_take_succ (T := T) HY.out)
      by_cases hTy : 0 < T - y
      · go_wp2
        go_round
        case rel => exact ⟨k + 1, q + (T - y), by omega, by go_num, by go_num, by omega, by omega, Lib.hid (by rw [HS.out, ← HQ.out]; omega)⟩
        case measure => simp [intOf]; omega
      · have hTy2 : T - y ≤ 0 := by omega
        go_wp2
        go_round
        case rel => exact ⟨k + 1, q, by omega, by go_num, by go_num, by omega, by omega, Lib.hid (by rw [HS.out, ← HQ.out]; omega)⟩
        case measure => simp [intOf]; omega
    · have HE := Lib.hid (show q = lateI l T by have := HQ.out; rwa [List.take_of_length_le (by have := HL.out; omega)] at this)
      go_wp2
      go_ret
      rw [HE.out]
      exact ⟨rfl, rfl⟩

def GoodA (l : List Int) (p : Int) : Prop := (l.length ≤ 20 ∧ AllIn l 0 1000 ∧ 1 ≤ p ∧ p ≤ 20) ∧ Rise l
noncomputable def ackE (l : List Int) (p : Int) : Int := open Classical in if 20 < l.length then 4 else if AllIn l 0 1000 ∧ 1 ≤ p ∧ p ≤ 20 then (if Rise l then 0 else 6) else 1
def QuietRet (w : World) (v : Value) (e : Ending) (w' : World) : Prop := e = .returned v ∧ ∃ d, w' = w.drewN d

theorem acheck_full (A : Option Addr) (n c : Nat) (l : List Int) (p : Int) (w : World) (h : RI w A n l) (hn : n ≤ 9223372036854775807) (hg : 20 < l.length) :
    Calls Tryd.prog 10 #[.slice A n c, .int .i64 p] w fun e w' => e = .returned (.iface 65 (.int .i64 4)) ∧ w = w' := by
  have hn2 : 20 < n := by have := h.len; omega
  clear hg
  go_enter Tryd.func10, Tryd.ntmps10
  go_wp2
  go_ret
  exact ⟨rfl, rfl⟩

theorem acheck_range (A : Option Addr) (n c : Nat) (l : List Int) (p : Int) (w : World) (h : RI w A n l) (hg : l.length ≤ 20) (hb : ¬ (AllIn l 0 1000 ∧ 1 ≤ p ∧ p ≤ 20)) :
    Calls Tryd.prog 10 #[.slice A n c, .int .i64 p] w fun e w' => e = .returned (.iface 65 (.int .i64 1)) ∧ w = w' := by
  have hn : n ≤ 20 := by have := h.len; omega
  clear hg
  by_cases ha : AllIn l 0 1000
  · have hs : p < 1 ∨ 20 < p := by
      by_cases h1 : 1 ≤ p
      · by_cases h2 : p ≤ 20
        · exact absurd ⟨ha, h1, h2⟩ hb
        · omega
      · omega
    have H2 := Lib.hid ha
    have H3 := Lib.hid hs
    clear ha hs hb
    go_enter Tryd.func10, Tryd.ntmps10
    go_wp2_with fail
    refine (all_ok _ _ _ _ _ _ _ h (by omega) H2.out).mono ?_; rintro e w' ⟨rfl, rfl⟩
    go_wp2_with fail
    refine (within_no _ _ _ _ H3.out).mono ?_; rintro e w' ⟨rfl, rfl⟩
    go_wp2
    go_ret
    exact ⟨rfl, rfl⟩
  · have H2 := Lib.hid ha
    clear ha hb
    go_enter Tryd.func10, Tryd.ntmps10
    go_wp2_with fail
    refine (all_no _ _ _ _ _ _ _ h (by omega) H2.out).mono ?_; rintro e w' ⟨rfl, rfl⟩
    go_wp2
    go_ret
    exact ⟨rfl, rfl⟩

def RiseTold (w : World) (l : List Int) (e : Ending) (w' : World) : Prop :=
  ((e = .returned .nilIface ∧ Rise l) ∨ (e = .returned (.iface 65 (.int .i64 6)) ∧ ¬ Rise l)) ∧ ∃ d, w' = w.drewN d
theorem Rise.take_succ {l : List Int} {k : Nat} {x y : Int} (h : Rise (l.take (k + 1))) (hx : l[k]? = some x) (hy : l[k + 1]? = some y) (hxy : x ≤ y) : Rise (l.take (k + 1 + 1)) := by
  intro i a b ha hb
  rw [List.getElem?_take] at ha hb
  split at ha
  · split at hb
    · by_cases hi : i = k
      · subst hi
        rw [hx] at ha; rw [hy] at hb
        injection ha with ha; injection hb with hb
        omega
      · exact h i a b (by rw [List.getElem?_take, if_pos (by omega)]; exact ha) (by rw [List.getElem?_take, if_pos (by omega)]; exact hb)
    · cases hb
  · cases ha

set_option maxHeartbeats 400000 in
theorem acheck_rise (A : Option Addr) (n c : Nat) (l : List Int) (p : Int) (w : World) (h : RI w A n l) (hg : l.length ≤ 20 ∧ AllIn l 0 1000 ∧ 1 ≤ p ∧ p ≤ 20) :
    Calls Tryd.prog 10 #[.slice A n c, .int .i64 p] w (RiseTold w l) := by
  obtain ⟨g1, g2, g3, g4⟩ := hg
  have HL := Lib.hid h.len
  have hn : n ≤ 20 := by have := h.len; omega
  have H2 := Lib.hid g2
  clear g2 g1
  go_enter Tryd.func10, Tryd.ntmps10
  go_wp2_with fail
  refine (all_ok _ _ _ _ _ _ _ h (by omega) H2.out).mono ?_; rintro e w' ⟨rfl, rfl⟩
  go_wp2_with fail
  refine (within_ok _ _ _ _ g3 g4).mono ?_; rintro e w' ⟨rfl, rfl⟩
  go_wp2
  go_loopw [5, 21] (fun _ i wr => ∃ k d : Nat, k ≤ n ∧ i = .int .i64 k ∧ wr = w.drewN d ∧ Hid (Rise (l.take k))) (fun _ i _ => n - (intOf i).toNat)
  case atStart => exact ⟨0, 0, by omega, by go_num, rfl, Lib.hid (by intro i x y hx; simp at hx)⟩
  case round =>
    obtain ⟨k, d, hk, rfl, rfl, HR⟩ := hrel
    by_cases hlt : k < n
    · rcases k with _ | k
      · obtain ⟨ad, y, rfl, HY, hc⟩ := h.at_ hlt
        go_wp2
        go_quiet (fail)
        go_wp2
        go_roundw
        case rel => exact ⟨1, _, by omega, by go_num, rfl, Lib.hid (by
          intro i a b ha hb
          rw [List.getElem?_take] at hb
          split at hb
          · omega
          · cases hb)⟩
        case measure => simp [intOf]; omega
      · obtain ⟨ad, y, rfl, HY, hc⟩ := h.at_ hlt
        obtain ⟨ad', x, hA, HX, hc'⟩ := h.at_ (show k < n by omega)
        injection hA with hA
        subst hA
        have hk0 : (0 : Int) < (k : Int) + 1 := by omega
        by_cases hxy : x ≤ y
        · have hxy' : ¬ y < x := by omega
          have HS := Lib.hid (Rise.take_succ HR.out HX.out HY.out hxy)
          have hlt' : (k : Int) + 1 < n := by omega
          go_wp2
          have e0 : (0 : Int) ≤ (k : Int) + 1 := by omega
          have e1 : ((k : Int) + 1).toNat = k + 1 := by omega
          have e2 : IntKind.i64.wrap ((k : Int) + 1 - 1) = k := by rw [show (k : Int) + 1 - 1 = k by omega]; exact IntWalk.i64_in _ (by omega)
          rw [add_succ] at hc
          go_quiet (fail)
          clear e0 e1 e2
          go_wp2
          go_roundw
          case rel => exact ⟨k + 1 + 1, _, by omega, by go_num, rfl, HS⟩
          case measure => simp [intOf]; omega
        · have hxy' : y < x := by omega
          have HN := Lib.hid (show ¬ Rise l from fun hh => hxy (hh k x y HX.out HY.out))
          have hlt' : (k : Int) + 1 < n := by omega
          go_wp2
          have e0 : (0 : Int) ≤ (k : Int) + 1 := by omega
          have e1 : ((k : Int) + 1).toNat = k + 1 := by omega
          have e2 : IntKind.i64.wrap ((k : Int) + 1 - 1) = k := by rw [show (k : Int) + 1 - 1 = k by omega]; exact IntWalk.i64_in _ (by omega)
          rw [add_succ] at hc
          go_quiet (fail)
          clear e0 e1 e2
          go_wp2
          go_ret
          exact ⟨.inr ⟨rfl, HN.out⟩, _, rfl⟩
    · have HE := Lib.hid (show Rise l by have := HR.out; rw [List.take_of_length_le (by have := HL.out; omega)] at this; exact this)
      go_wp2
      go_ret
      exact ⟨.inl ⟨rfl, HE.out⟩, _, rfl⟩

theorem acheck_ok (A : Option Addr) (n c : Nat) (l : List Int) (p : Int) (w : World) (h : RI w A n l) (hg : GoodA l p) :
    Calls Tryd.prog 10 #[.slice A n c, .int .i64 p] w (QuietRet w .nilIface) :=
  (acheck_rise A n c l p w h hg.1).mono fun e w' ⟨h1, h2⟩ => ⟨by rcases h1 with h1 | h1; exact h1.1; exact absurd hg.2 h1.2, h2⟩
theorem acheck_no (A : Option Addr) (n c : Nat) (l : List Int) (p : Int) (w : World) (h : RI w A n l) (hn : n ≤ 9223372036854775807) (hg : ¬ GoodA l p) :
    Calls Tryd.prog 10 #[.slice A n c, .int .i64 p] w (QuietRet w (.iface 65 (.int .i64 (ackE l p)))) := by
  by_cases h4 : 20 < l.length
  · rw [show ackE l p = 4 by unfold ackE; rw [if_pos h4]]
    exact (acheck_full A n c l p w h hn h4).mono fun e w' ⟨h1, h2⟩ => ⟨h1, 0, h2.symm⟩
  · by_cases h1 : AllIn l 0 1000 ∧ 1 ≤ p ∧ p ≤ 20
    · have hr : ¬ Rise l := fun hh => hg ⟨⟨by omega, h1⟩, hh⟩
      rw [show ackE l p = 6 by unfold ackE; rw [if_neg h4, if_pos h1, if_neg hr]]
      exact (acheck_rise A n c l p w h ⟨by omega, h1⟩).mono fun e w' ⟨h1, h2⟩ => ⟨by rcases h1 with h1 | h1; exact absurd h1.2 hr; exact h1.1, h2⟩
    · rw [show ackE l p = 1 by unfold ackE; rw [if_neg h4, if_neg h1]]
      exact (acheck_range A n c l p w h (by omega) h1).mono fun e w' ⟨h1, h2⟩ => ⟨h1, 0, h2.symm⟩
end Go.Proofs.YtmeamgeojcbljaaDoor
