/- The walks of larderwickref1.Set and of the law WsetWhole, for every input. -/
import Derived.Test.YtjonbbmgjiegcaaWsetLaw
import Derived.Test.YtjonbbmgjiegcaaWsetWholePlain
namespace Go.Proofs.Ytjonbbmgjiegcaa
open Go.ChangeShapes Go.WideShapes Go.ChangeAt Go.RowKit

theorem setN_take_succ {l : List Int} {k : Nat} {y : Int} (h : l[k]? = some y) : setN (l.take (k + 1)) = setN (l.take k) + 2 ^ y.toNat := by
  rw [take_succ_of h, setN_snoc]

set_option maxHeartbeats 1000000 in
theorem setF_any (A : Option Addr) (n c : Nat) (l : List Int) (w : World) (h : RI w A n l) (hn : n ≤ 40) (ha : AllIn l 0 15) :
    Calls Try.prog 11 #[.slice A n c] w fun e w' => e = .returned (.int .i64 ((setN l : Nat) : Int)) ∧ w' = w := by
  have HL := Lib.hid h.len
  have HA := Lib.hid ha
  clear ha
  go_enter Try.func11, Try.ntmps11
  go_wp2
  go_loop [3, 4, 5, 6] (fun s i _ _ => ∃ k q : Nat, k ≤ n ∧ i = .int .i64 k ∧ s = .int .i64 (q : Nat) ∧ q ≤ k * 32768 ∧ Hid (q = setN (l.take k))) (fun _ i _ _ => n - (intOf i).toNat)
  case atStart => exact ⟨0, 0, by omega, by go_num, by go_num, by omega, by simp [Hid, setN]⟩
  case round =>
    obtain ⟨k, q, hk, rfl, rfl, hq, HQ⟩ := hrel
    by_cases hlt : k < n
    · obtain ⟨ad, y, rfl, HY, hc⟩ := h.at_ hlt
      have hy := HA.out y (mem_of_at HY.out)
      obtain ⟨p, rfl⟩ : ∃ p : Nat, y = p := ⟨y.toNat, by omega⟩
      have hp : p ≤ 15 := by omega
      clear hy
      have HS := Lib.hid (setN_take_succ HY.out)
      have hk40 : k ≤ 39 := by omega
      go_wp2
      go_loop [5, 6] (fun x j => ∃ t X : Nat, t ≤ p ∧ j = .int .i64 t ∧ x = .int .i64 (X : Nat) ∧ X ≤ 32768 ∧ Hid (X = 2 ^ t)) (fun _ j => p - (intOf j).toNat)
      case atStart => exact ⟨0, 1, by omega, by go_num, by go_num, by omega, Lib.hid rfl⟩
      case round =>
        obtain ⟨t, X, ht, rfl, rfl, hX, HX⟩ := hrel
        by_cases htp : t < p
        · have hX2 : X * 2 ≤ 32768 := by
            rw [HX.out, ← Nat.pow_succ]; exact Nat.le_trans (Nat.pow_le_pow_right (by omega) (show t + 1 ≤ 15 by omega)) (by decide)
          go_wp2
          go_round
          case rel => exact ⟨t + 1, X * 2, by omega, by go_num, by go_num, hX2, Lib.hid (by rw [HX.out, Nat.pow_succ])⟩
          case measure => simp [intOf]; omega
        · have HT := Lib.hid (show t = p by omega)
          go_wp2
          go_round
          case rel => exact ⟨k + 1, q + X, by omega, by go_num, by go_num, by omega, Lib.hid (by rw [HS.out, HQ.out, HX.out, HT.out, Int.toNat_natCast])⟩
          case measure => simp [intOf]; omega
    · have HE := Lib.hid (show q = setN l by have := HQ.out; rwa [List.take_of_length_le (by have := HL.out; omega)] at this)
      go_wp2
      go_ret
      rw [HE.out]
      exact ⟨rfl, rfl⟩

set_option maxRecDepth 100000 in
set_option maxHeartbeats 4000000 in
theorem law_WsetWhole (A : Option Addr) (n c : Nat) (l : List Int) (w : World) (h : RI w A n l) (hnc : n ≤ c) (hn : n ≤ 9223372036854775807) :
    Calls Try.prog 5 #[.slice A n c] w fun e w' => e = .returned (.bool true) ∧ Below w.heap.size w w' := by
  by_cases hg : GoodW l 40
  · have HL := Lib.hid h.len
    have HG := Lib.hid hg
    have hn4 : n ≤ 40 := by have := HL.out; have := hg.1.1; omega
    clear hn hg
    go_enter Try.func5, Try.ntmps5
    go_wp2_with fail
    refine (wsetFact_ok _).mono ?_; rintro e w0 ⟨rfl, hB0⟩
    have h0 := h.below hB0
    have e1 : missW l (Int.toNat 40) n = someN l := by
      have := missW_whole l 40 n (by have := HL.out; omega) (by omega)
      rw [List.take_of_length_le (by have := HL.out; omega)] at this; exact this
    have hsl := someN_le l
    go_wp2_with fail
    refine (miss_ok _ _ _ _ _ _ h0 hnc HG.out).mono ?_; rintro e w' ⟨rfl, rfl⟩
    rw [e1]
    clear e1
    go_wp2_with fail
    refine (sets_ok _ _ _ _ _ _ h0 hnc HG.out).mono ?_; rintro e w1 ⟨A1, c1, rfl, R1, hB1⟩
    have h1 := h0.below hB1
    have hB01 : Below w.heap.size w w1 := hB0.trans (hB1.mono hB0.size)
    go_wp2_with fail
    refine (some_any _ _ _ _ _ h1 (by omega)).mono ?_; rintro e w' ⟨rfl, d, rfl⟩
    have hB2 := belowN hB01 d
    have h2 : RI (w1.drewN d) A n l := h1.drewN d
    have R2 := Row.drewN R1 d
    clear h0 h1 R1 hB01
    generalize w1.drewN d = w2 at *
    by_cases hn0 : n = 0
    · subst hn0
      go_wp2
      go_ret
      exact ⟨rfl, hB2⟩
    · have g0 : ((n : Int) == 0) = false := by simp; omega
      have hb2 := hB2.size
      go_wp2
      go_loopw [9, 10] (fun v9 i wr => ∃ p : Nat, ∃ A9 n9 c9, p ≤ 16 ∧ i = .int .i64 p ∧ v9 = .slice A9 n9 c9 ∧ n9 ≤ p ∧ Row wr w2.heap.size 3 (.slice A9 n9 c9) n9 ((pagesTo l p).map (Value.int .i64)) ∧ Below w2.heap.size w2 wr) (fun _ i _ => 16 - (intOf i).toNat)
      case atStart => exact ⟨0, none, 0, 0, by omega, by go_num, rfl, by omega, by simpa [pagesTo] using Row.nil_ _ _ _, Below.refl _ _⟩
      case round =>
        obtain ⟨p, A9, n9, c9, hp, rfl, rfl, hn9, R9, hB⟩ := hrel
        have hbs := hB.size
        have hr := h2.below hB
        have R2r := R2.below hB
        by_cases hlt : p < 16
        · have HS := Lib.hid (pagesTo_succ l p)
          cases hb : hasB l (p : Int)
          · rw [hb] at HS
            have HB := Lib.hid hb
            clear hb
            go_wp2_with fail
            refine (has_any _ _ _ _ _ _ hr (by omega)).mono ?_; rintro e w' ⟨rfl, rfl⟩
            rw [HB.out]
            go_wp2
            go_roundw
            case rel => exact ⟨p + 1, A9, n9, c9, by omega, by go_num, rfl, by omega, by rw [HS.out]; simpa using R9, hB⟩
            case measure => simp [intOf]; omega
          · rw [hb] at HS
            have HB := Lib.hid hb
            clear hb
            go_wp2_with fail
            refine (has_any _ _ _ _ _ _ hr (by omega)).mono ?_; rintro e w' ⟨rfl, rfl⟩
            rw [HB.out]
            go_wp2_with (at_builtin; refine wpList_push _ rfl (.tmp 58) (.tmp 60) _ rfl w2.heap.size 3 _ _ Try.underlying22 infoI rfl (by decide) _ _ _ rfl R9 (.int .i64 p) rfl rfl (by omega) hbs ?_; intro v' w3 R9' g9; have FV := Lib.hid R9'.form)
            go_roundw
            case rel =>
              obtain ⟨A', c', hv3, _, _⟩ := FV.out
              refine ⟨p + 1, A', _, c', by omega, by go_num, hv3, by omega, ?_, hB.grown g9 hbs (fun b hb => (R9.lt b hb).1)⟩
              rw [HS.out, if_pos trivial, List.map_append, ← hv3]; exact R9'
            case measure => simp [intOf]; omega
        · have hp16 : p = 16 := by omega
          subst hp16
          obtain ⟨N, rfl⟩ : ∃ N, n = N + 1 := ⟨n - 1, by omega⟩
          obtain ⟨ad1, s0, rfl, HA1, hc1⟩ := (Row.reads R2r).at_ (k := N) (by omega)
          have e1 : s0 = ((mask (lastW (l.take (N + 1)) 40) : Nat) : Int) := by
            have := HA1.out; rw [setsL_at l (Int.toNat 40) (N + 1) N (by omega)] at this; injection this with this; exact this.symm
          have hall : lastW (l.take (N + 1)) 40 = l := by
            have e := HL.out
            rw [List.take_of_length_le (by omega), lastW_more _ _ (by omega)]
          rw [hall] at e1
          have hin : AllIn l 0 15 := HG.out.1.2.1
          have hset : setN (pagesTo l 16) = mask l := by
            rw [setN_pages]
            exact mask_eq_of (pagesTo_in l 16 (by omega)) hin (fun x => by
              rw [mem_pagesTo]; constructor
              · exact fun hh => hh.2.2
              · exact fun hh => by have := hin x hh; exact ⟨by omega, by omega, hh⟩)
          have HSET := Lib.hid hset
          have HPI := Lib.hid (pagesTo_in l 16 (by omega))
          have hM := mask_lt _ hin
          clear hset hall HA1 hin
          generalize mask l = X at *
          subst e1
          have gX : ((X : Int) == (X : Int)) = true := by simp
          go_wp2
          go_quiet ((go_at_call 11; exact Calls.quiet_of_same (setF_any _ _ _ _ _ (RI.drewN (Row.reads R9) _) (by omega) HPI.out)))
          rw [HSET.out]
          go_wp2
          go_ret
          exact ⟨by first | rfl | (show Ending.returned (Value.bool ((X : Int) == (X : Int))) = _; rw [gX]), belowN (hB2.trans (hB.mono hb2)) _⟩
  · have HG := Lib.hid hg
    clear hg
    go_enter Try.func5, Try.ntmps5
    go_wp2_with fail
    refine (wsetFact_ok _).mono ?_; rintro e w0 ⟨rfl, hB0⟩
    have h0 := h.below hB0
    go_wp2_with fail
    refine (miss_no _ _ _ _ _ _ h0 hn HG.out).mono ?_; rintro e w' ⟨rfl, rfl⟩
    go_wp2_with fail
    refine (sets_no _ _ _ _ _ _ h0 hn HG.out).mono ?_; rintro e w1 ⟨rfl, rfl⟩
    go_wp2
    go_ret
    exact ⟨rfl, hB0⟩
end Go.Proofs.Ytjonbbmgjiegcaa
