/- The walk of the law AckLater: it returns true, for every input. -/
import Derived.Test.YtckjbcdkmbaejaaAckLaw
namespace Go.Proofs.Ytckjbcdkmbaejaa
open Go.ChangeShapes Go.WideShapes Go.ChangeAt Go.RowKit

/-- How far the list of later times has come. -/
def LaterInv (w wr : World) (l : List Int) (b : Int) (k : Nat) (v8 : Value) : Prop :=
  Row wr w.heap.size 3 v8 k (((l.take k).map (· + b)).map (Value.int .i64)) ∧ Below w.heap.size w wr ∧ AllIn (l.take k) 0 1000

theorem map_at {l : List Int} {b y : Int} {k : Nat} (h : l[k]? = some y) : (l.map (· + b))[k]? = some (y + b) := by rw [List.getElem?_map, h]; rfl

set_option maxRecDepth 100000 in
set_option maxHeartbeats 4000000 in
theorem law_AckLater (A : Option Addr) (n c : Nat) (l : List Int) (p b : Int) (w : World) (h : RI w A n l) (hnc : n ≤ c) (hn : n ≤ 9223372036854775807) :
    Calls Try.prog 5 #[.slice A n c, .int .i64 p, .int .i64 b] w fun e w' => e = .returned (.bool true) ∧ Below w.heap.size w w' := by
  have HL := Lib.hid h.len
  by_cases hb : 0 ≤ b ∧ b ≤ 1000
  · obtain ⟨b0, b1⟩ := hb
    go_enter Try.func5, Try.ntmps5
    go_wp2_with fail
    refine (ackFact_ok _).mono ?_; rintro e w0 ⟨rfl, hB0⟩
    go_wp2_with fail
    refine (lin_ok _ _ _ _ b0 b1).mono ?_; rintro e w' ⟨rfl, rfl⟩
    have hbw0 := hB0.size
    go_wp2
    go_loopw [8, 9] (fun v8 i wr => ∃ k : Nat, k ≤ n ∧ k ≤ 21 ∧ i = .int .i64 k ∧ LaterInv w wr l b k v8) (fun _ i _ => n - (intOf i).toNat)
    case atStart => exact ⟨0, by omega, by omega, by go_num, Row.nil_ _ _ _, hB0, by simp [AllIn]⟩
    case round =>
      obtain ⟨k, hk, hk21, rfl, R8, hB, hI⟩ := hrel
      have HI := Lib.hid hI
      clear hI
      have hbs := hB.size
      by_cases hlt : k < n ∧ k < 21
      · obtain ⟨hlt, hl21⟩ := hlt
        obtain ⟨ad, y, rfl, HY, hc⟩ := (h.below hB).at_ hlt
        by_cases hy : 0 ≤ y ∧ y ≤ 1000
        · have HS := Lib.hid (HI.out.take_succ HY.out hy)
          obtain ⟨y0, y1⟩ := hy
          have HT := Lib.hid (take_succ_of HY.out)
          go_wp2_with fail
          refine (lin_ok _ _ _ _ y0 y1).mono ?_; rintro e w' ⟨rfl, rfl⟩
          go_wp2_with (at_builtin; refine wpList_push _ rfl (.tmp 43) (.tmp 50) _ rfl w.heap.size 3 _ _ Try.underlying22 infoI rfl (by decide) _ _ _ rfl R8 (.int .i64 (y + b)) rfl rfl (by omega) hbs ?_; intro v' w1 R8' g8)
          go_roundw
          case rel =>
            refine ⟨k + 1, by omega, by omega, by go_num, ?_, hB.grown g8 hbs (fun b hb => (R8.lt b hb).1), HS.out⟩
            rw [HT.out, List.map_append, List.map_append]; exact R8'
          case measure => simp [intOf]; omega
        · have hy2 : y < 0 ∨ 1000 < y := by omega
          have HY2 := Lib.hid hy2
          clear hy hy2
          go_wp2_with fail
          refine (lin_no _ _ _ _ HY2.out).mono ?_; rintro e w' ⟨rfl, rfl⟩
          go_wp2
          go_ret
          exact ⟨rfl, hB⟩
      · obtain ⟨A8, c8, hv8, hc8, _⟩ := R8.form
        subst hv8
        have hM := Lib.hid (Row.reads R8)
        clear R8
        have hr := h.below hB
        by_cases hg : GoodA l p
        · have hkn : k = n := by have := hg.1.1; have := HL.out; omega
          have HG := Lib.hid hg
          clear hg
          have hn20 : n ≤ 20 := by have := HG.out.1.1; have := HL.out; omega
          subst hkn
          have HE : Hid ((l.take k) = l) := Lib.hid (List.take_of_length_le (by have := HL.out; omega))
          have hM2 : Hid (RI wr A8 k (l.map (· + b))) := Lib.hid (by have := hM.out; rwa [HE.out] at this)
          clear hM
          by_cases hg2 : GoodA (l.map (· + b)) p
          · have HG2 := Lib.hid hg2
            clear hg2
            go_wp2_with fail
            refine (arun_ok _ _ _ _ _ _ hr hnc HG.out).mono ?_; rintro e w1 ⟨A1, m1, c1, o1, s1, rfl, R1, hm1, s10, s11, hA1, hO1, hB1⟩
            have hB01 := hB.trans (hB1.mono hbs)
            have hr1 := hM2.out.below hB1
            have HA1 := Lib.hid hA1
            have HO1 := Lib.hid hO1
            clear hA1 hO1
            go_wp2_with fail
            refine (arun_ok _ _ _ _ _ _ hr1 hc8 HG2.out).mono ?_; rintro e w2 ⟨A2, m2, c2, o2, s2, rfl, R2, hm2, s20, s21, hA2, _, hB2⟩
            obtain ⟨rfl, rfl⟩ := ackRun_shift HA1.out hA2 rfl
            clear hA2
            have hB02 := hB01.trans (hB2.mono hB01.size)
            have R1' := R1.below hB2
            obtain rfl : m2 = m1 := by have a1 := R2.len; have a2 := R1.len; simp at a1 a2; omega
            have hr2 := (h.below hB02)
            go_wp2_with fail
            refine (aleast_ok _ _ _ _ _ _ hr2 hnc HG.out).mono ?_; rintro e w3 ⟨B1, k1, rfl, hk1, hI1, hBl1, _, _, hB3⟩
            have HI1 := Lib.hid hI1
            have HBl1 := Lib.hid hBl1
            have HK1 := Lib.hid hk1
            clear hI1 hBl1 hk1
            have hB03 := hB02.trans (hB3.mono hB02.size)
            have hr3 := (hM2.out.below hB1).below hB2 |>.below hB3
            go_wp2_with fail
            refine (aleast_ok _ _ _ _ _ _ hr3 hc8 HG2.out).mono ?_; rintro e w4 ⟨B2, k2, rfl, hk2, hI2, hBl2, _, _, hB4⟩
            have hkk : k2 = k1 := by
              rw [hk2, HK1.out, List.length_map]
              exact best_shift HI1.out HBl1.out hI2 (by rw [hBl2, List.length_map])
            subst hkk
            clear hk2 hI2 hBl2
            have hB04 := hB03.trans (hB4.mono hB03.size)
            have RA := Lib.hid (((Row.reads R1').below hB3).below hB4)
            have RB' := Lib.hid (((Row.reads R2).below hB3).below hB4)
            clear R1 R1' R2
            have gs : ((s2 : Int) != s2) = false := by simp
            have gk : ((k2 : Int) != k2) = false := by simp
            go_wp2
            clear gs gk
            go_loopw [20] (fun i wj => ∃ q : Nat, q ≤ m2 ∧ i = .int .i64 q ∧ ∃ d, wj = w4.drewN d) (fun i _ => m2 - (intOf i).toNat)
            case atStart => exact ⟨0, by omega, by go_num, 0, rfl⟩
            case round =>
              obtain ⟨q, hq, rfl, d, rfl⟩ := hrel
              by_cases hlq : q < m2
              · obtain ⟨ad1, x, rfl, HX, hcx⟩ := RA.out.at_ hlq
                obtain ⟨ad2, z, rfl, HZ, hcz⟩ := RB'.out.at_ hlq
                obtain ⟨x0, x1⟩ := HO1.out x (mem_of_at HX.out)
                have hzx : z = x + b := by have := HZ.out; rw [map_at HX.out] at this; injection this with this; exact this.symm
                subst hzx
                go_wp2
                have e0 : IntKind.i64.wrap (x + b) = x + b := IntWalk.i64_in _ (by omega)
                have e1 : ((x + b) != (x + b)) = false := by simp
                go_quiet (fail)
                clear e0 e1
                go_wp2
                go_roundw
                case rel => exact ⟨q + 1, by omega, by go_num, _, rfl⟩
                case measure => simp [intOf]; omega
              · go_wp2
                go_ret
                exact ⟨rfl, belowN hB04 _⟩
          · have HG2 := Lib.hid hg2
            clear hg2
            go_wp2_with fail
            refine (arun_ok _ _ _ _ _ _ hr hnc HG.out).mono ?_; rintro e w1 ⟨A1, m1, c1, o1, s1, rfl, R1, hm1, s10, s11, hA1, hO1, hB1⟩
            clear hA1 hO1
            have hB01 := hB.trans (hB1.mono hbs)
            have hr1 := hM2.out.below hB1
            go_wp2_with fail
            refine (arun_no _ _ _ _ _ _ hr1 (by omega) HG2.out).mono ?_; rintro e w2 ⟨rfl, d2, rfl⟩
            have hB02 := belowN hB01 d2
            have hr2 := h.below hB02
            have hr3 := hr1.drewN d2
            generalize w1.drewN d2 = w2 at *
            go_wp2_with fail
            refine (aleast_any _ _ _ _ _ _ hr2 hnc (by omega)).mono ?_; rintro e w3 ⟨⟨x1, x2, rfl⟩, hB3⟩
            have hB03 := hB02.trans (hB3.mono hB02.size)
            have hr4 := hr3.below hB3
            go_wp2_with fail
            refine (aleast_any _ _ _ _ _ _ hr4 hc8 (by omega)).mono ?_; rintro e w4 ⟨⟨y1, y2, rfl⟩, hB4⟩
            go_wp2
            go_ret
            exact ⟨rfl, hB03.trans (hB4.mono hB03.size)⟩
        · have HG := Lib.hid hg
          clear hg
          by_cases hkn : k < n
          all_goals
            have h21 : k < n → ¬ k < 21 := fun a b => hlt ⟨a, b⟩
            try have h21' := h21 hkn
            clear h21
            go_wp2_with fail
            refine (arun_no _ _ _ _ _ _ hr hn HG.out).mono ?_; rintro e w1 ⟨rfl, d1, rfl⟩
            have hB01 := belowN hB d1
            have hr1 := hM.out.drewN d1
            generalize wr.drewN d1 = w1 at *
            go_wp2_with fail
            refine (arun_any _ _ _ _ _ _ hr1 hc8 (by omega)).mono ?_; rintro e w2 ⟨⟨x1, x2, x3, rfl⟩, hB2⟩
            have hB02 := hB01.trans (hB2.mono hB01.size)
            have hr2 := h.below hB02
            have hr3 := hr1.below hB2
            go_wp2_with fail
            refine (aleast_any _ _ _ _ _ _ hr2 hnc hn).mono ?_; rintro e w3 ⟨⟨y1, y2, rfl⟩, hB3⟩
            have hB03 := hB02.trans (hB3.mono hB02.size)
            have hr4 := hr3.below hB3
            go_wp2_with fail
            refine (aleast_any _ _ _ _ _ _ hr4 hc8 (by omega)).mono ?_; rintro e w4 ⟨⟨z1, z2, rfl⟩, hB4⟩
            go_wp2
            go_ret
            exact ⟨rfl, hB03.trans (hB4.mono hB03.size)⟩
  · have hb2 : b < 0 ∨ 1000 < b := by omega
    have HB2 := Lib.hid hb2
    clear hb hb2
    go_enter Try.func5, Try.ntmps5
    go_wp2_with fail
    refine (ackFact_ok _).mono ?_; rintro e w0 ⟨rfl, hB0⟩
    go_wp2_with fail
    refine (lin_no _ _ _ _ HB2.out).mono ?_; rintro e w' ⟨rfl, rfl⟩
    go_wp2
    go_ret
    exact ⟨rfl, hB0⟩
end Go.Proofs.Ytckjbcdkmbaejaa
