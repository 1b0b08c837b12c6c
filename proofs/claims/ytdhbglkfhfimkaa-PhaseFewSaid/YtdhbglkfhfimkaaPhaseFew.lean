/- The walk of the law PhaseFew: it returns true, for every input. -/
import Derived.Test.YtdhbglkfhfimkaaParts
import Derived.Test.YtdhbglkfhfimkaaFaults
namespace Go.Proofs.Ytdhbglkfhfimkaa
open Go.ChangeShapes Go.WideShapes Go.ChangeAt Go.RowKit

theorem in1_no (n lo hi : Int) (w : World) (h : n < lo ∨ hi < n) :
    Calls Try.prog 10 #[.int .i64 n, .int .i64 lo, .int .i64 hi] w fun e w' => e = .returned (.bool false) ∧ w = w' := by
  by_cases h1 : lo ≤ n
  · have h2 : ¬ n ≤ hi := by omega
    clear h
    go_enter Try.func10, Try.ntmps10
    go_wp2
    go_ret
    exact ⟨rfl, rfl⟩
  · clear h
    go_enter Try.func10, Try.ntmps10
    go_wp2
    go_ret
    exact ⟨rfl, rfl⟩

theorem good_take {l : List Int} {s : Int} (h : GoodReqs l s) (t : Nat) : GoodReqs (l.take t) s :=
  ⟨by rw [List.length_take]; have := h.1; omega, fun x hx => h.2.1 x (List.mem_of_mem_take hx), h.2.2⟩

set_option maxRecDepth 100000 in
set_option maxHeartbeats 4000000 in
theorem law_PhaseFew (A : Option Addr) (n c : Nat) (l : List Int) (slots kind : Int) (w : World) (h : RI w A n l) (hnc : n ≤ c) (hn : n ≤ 9223372036854775807) :
    Calls Try.prog 7 #[.slice A n c, .int .i64 slots, .int .i64 kind] w fun e w' => e = .returned (.bool true) ∧ Below w.heap.size w w' := by
  by_cases hg : GoodReqs l slots
  · obtain ⟨s, rfl⟩ : ∃ s : Nat, slots = s := ⟨slots.toNat, by have := hg.2.2.1; omega⟩
    have HL := Lib.hid h.len
    have HG := Lib.hid hg
    have hn4 : n ≤ 40 := by have := HL.out; have := hg.1; omega
    have hs1 : 1 ≤ s := by have := hg.2.2.1; omega
    have hs2 : s ≤ 8 := by have := hg.2.2.2; omega
    clear hn hg
    by_cases hkk : 0 ≤ kind ∧ kind ≤ 3
    · obtain ⟨kk0, kk3⟩ := hkk
      obtain ⟨kd, rfl⟩ : ∃ kd : Nat, kind = kd := ⟨kind.toNat, by omega⟩
      have hkd : kd ≤ 3 := by omega
      go_enter Try.func7, Try.ntmps7
      go_wp2_with fail
      refine (phaseFact_ok _).mono ?_; rintro e w0 ⟨rfl, hB0⟩
      go_wp2_with fail
      refine (starts_ok _ _ _ _ _ _ (h.below hB0) HG.out).mono ?_; rintro e w1 ⟨A3, n3, c3, rfl, R3, hn3, hB1⟩
      rw [Int.toNat_natCast] at R3
      have hB01 : Below w.heap.size w w1 := hB0.trans (hB1.mono hB0.size)
      have h1 := (h.below hB0).below hB1
      have hl3 : (startsL s l l.length).length = n3 := by have := R3.len; simpa using this
      have HL3 := Lib.hid hl3
      have HH := Lib.hid (hitsK_len kd s l)
      clear hl3
      go_wp2_with fail
      refine (in1_ok _ _ _ _ kk0 kk3).mono ?_; rintro e w' ⟨rfl, rfl⟩
      go_wp2
      go_loopw [10, 11, 12, 13, 14] (fun v10 i _ _ _ wr => ∃ k was : Nat, k ≤ n3 ∧ i = .int .i64 k ∧ v10 = .int .i64 was ∧ was ≤ 40 ∧ Below w1.heap.size w1 wr ∧ Hid (∀ a : Nat, (startsL s l l.length)[k]? = some (a : Int) → was = missN ((hitsK kd s l).take a))) (fun _ i _ _ _ _ => n3 - (intOf i).toNat)
      case atStart =>
        refine ⟨0, 0, by omega, by go_num, by go_num, by omega, Below.refl _ _, Lib.hid (fun a ha => ?_)⟩
        have hpos : 0 < l.length := by
          by_cases h0 : 0 < l.length
          · exact h0
          · exfalso
            have h00 : l.length = 0 := by omega
            rw [h00] at ha
            simp [startsL] at ha
        rw [starts_first s l hpos] at ha
        injection ha with ha
        have : a = 0 := by omega
        subst this
        simp [missN]
      case round =>
        obtain ⟨k, was, hk, rfl, rfl, hwas, hB, HW⟩ := hrel
        have h3 := h1.below hB
        have R3r := R3.below hB
        have hBr : Below w.heap.size w wr := hB01.trans (hB.mono hB01.size)
        by_cases hlt : k < n3
        · obtain ⟨ad3, x, rfl, HX, hcx⟩ := (Row.reads R3r).at_ hlt
          by_cases hlt1 : k + 1 < n3
          · obtain ⟨ad3', z, hx3, HZ, hcz⟩ := (Row.reads R3r).at_ hlt1
            injection hx3 with hx3
            subst hx3
            rw [add_succ] at hcz
            obtain ⟨a, b, rfl, rfl, hab, hbn, f1, f2⟩ := few_two kd s l hs1 k x z HX.out HZ.out
            rw [HL.out] at hbn
            have hwa := HW.out a HX.out
            rw [← hwa] at f1 f2
            have HB2 : Hid (∀ a' : Nat, (startsL s l l.length)[k + 1]? = some (a' : Int) → missN ((hitsK kd s l).take b) = missN ((hitsK kd s l).take a')) := Lib.hid (fun a' ha' => by
              rw [HZ.out] at ha'; injection ha' with ha'
              have : b = a' := by omega
              rw [this])
            have hq40 : missN ((hitsK kd s l).take b) ≤ 40 := by have := missN_le ((hitsK kd s l).take b); rw [List.length_take] at this; omega
            have HF : Hid (∀ w, RI w A b (l.take b) → Calls Try.prog 19 #[.int .i64 ((kd : Nat) : Int), .slice A b c, .int .i64 (s : Int)] w fun e w' => FaultRes w w' e (missN ((hitsK kd s l).take b))) := Lib.hid (fun w hw => by
              have := faults_ok kd hkd A b c (l.take b) s w hw (good_take HG.out b)
              rwa [hitsK_take kd s hs1 l b (by have := HL.out; omega)] at this)
            have HT := Lib.hid (h3.take (k := b) (by omega))
            clear hwa
            generalize missN ((hitsK kd s l).take b) = q at *
            have i2 : (b : Int) ≤ c := by omega
            have i3 : (k : Int) + 1 < n3 := by omega
            have i4 : b ≤ c := by omega
            have i0 : (0 : Int) ≤ b := by omega
            go_wp2_with fail
            refine (HF.out _ HT.out).mono ?_; rintro e w4 ⟨rfl, hB4⟩
            go_wp2
            go_roundw
            case rel => exact ⟨k + 1, q, by omega, by go_num, rfl, hq40, hB.trans (hB4.mono hB.size), HB2⟩
            case measure => simp [intOf]; omega
          · obtain ⟨a, rfl, han, f1, f2⟩ := few_last kd s l hs1 k x HX.out (by have := HL3.out; omega)
            rw [HL.out] at han
            have hwa := HW.out a HX.out
            rw [← hwa, HL.out] at f1 f2
            have HB2 : Hid (∀ a' : Nat, (startsL s l l.length)[k + 1]? = some (a' : Int) → missN ((hitsK kd s l).take n) = missN ((hitsK kd s l).take a')) := Lib.hid (fun a' ha' => by
              have := (List.getElem?_eq_some_iff.1 ha').1
              have := HL3.out
              omega)
            have hq40 : missN ((hitsK kd s l).take n) ≤ 40 := by have := missN_le ((hitsK kd s l).take n); rw [List.length_take] at this; omega
            have HF : Hid (∀ w, RI w A n (l.take n) → Calls Try.prog 19 #[.int .i64 ((kd : Nat) : Int), .slice A n c, .int .i64 (s : Int)] w fun e w' => FaultRes w w' e (missN ((hitsK kd s l).take n))) := Lib.hid (fun w hw => by
              have := faults_ok kd hkd A n c (l.take n) s w hw (good_take HG.out n)
              rwa [hitsK_take kd s hs1 l n (by have := HL.out; omega)] at this)
            have HT := Lib.hid (h3.take (k := n) (by omega))
            clear hwa
            generalize missN ((hitsK kd s l).take n) = q at *
            have i2 : (n : Int) ≤ c := by omega
            have i3 : ¬ (k : Int) + 1 < n3 := by omega
            have i0 : (0 : Int) ≤ n := by omega
            go_wp2_with fail
            refine (HF.out _ HT.out).mono ?_; rintro e w4 ⟨rfl, hB4⟩
            go_wp2
            go_roundw
            case rel => exact ⟨k + 1, q, by omega, by go_num, rfl, hq40, hB.trans (hB4.mono hB.size), HB2⟩
            case measure => simp [intOf]; omega
        · go_wp2
          go_ret
          exact ⟨rfl, hBr⟩
    · have hk2 : kind < 0 ∨ 3 < kind := by omega
      have HK := Lib.hid hk2
      clear hkk hk2
      go_enter Try.func7, Try.ntmps7
      go_wp2_with fail
      refine (phaseFact_ok _).mono ?_; rintro e w0 ⟨rfl, hB0⟩
      go_wp2_with fail
      refine (starts_ok _ _ _ _ _ _ (h.below hB0) HG.out).mono ?_; rintro e w1 ⟨A3, n3, c3, rfl, R3, hn3, hB1⟩
      go_wp2_with fail
      refine (in1_no _ _ _ _ HK.out).mono ?_; rintro e w' ⟨rfl, rfl⟩
      go_wp2
      go_ret
      exact ⟨rfl, hB0.trans (hB1.mono hB0.size)⟩
  · have HG := Lib.hid hg
    clear hg
    go_enter Try.func7, Try.ntmps7
    go_wp2_with fail
    refine (phaseFact_ok _).mono ?_; rintro e w0 ⟨rfl, hB0⟩
    go_wp2_with fail
    refine (starts_no _ _ _ _ _ _ (h.below hB0) hn HG.out).mono ?_; rintro e w1 ⟨rfl, rfl⟩
    go_wp2
    go_ret
    exact ⟨rfl, hB0⟩
end Go.Proofs.Ytdhbglkfhfimkaa
