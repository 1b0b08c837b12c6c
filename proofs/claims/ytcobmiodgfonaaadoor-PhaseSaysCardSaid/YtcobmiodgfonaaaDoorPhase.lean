/- The walk of phase.Starts: what it returns, for every input. -/
import Derived.Test.YtcobmiodgfonaaaDoorInts
import Derived.Test.YtcobmiodgfonaaaDoorInfo
import Derived.Test.YtcobmiodgfonaaaDoorOnes
import Derived.Test.YtcobmiodgfonaaaDoorPhasePlain
import Derived.Outline
namespace Go.Proofs.YtcobmiodgfonaaaDoor
open Go.ChangeShapes Go.WideShapes Go.ChangeAt Go.RowKit

/-- A row and no error, in new memory. -/
def Res1 (w w' : World) (e : Ending) (l : List Int) : Prop :=
  ∃ A1 n1 c1, e = .returned (.tuple #[.slice A1 n1 c1, .nilIface]) ∧ Row w' w.heap.size 3 (.slice A1 n1 c1) n1 (l.map (Value.int .i64)) ∧ n1 ≤ 1048576 ∧ Below w.heap.size w w'

theorem starts_no (A : Option Addr) (n c : Nat) (l : List Int) (slots : Int) (w : World) (h : RI w A n l) (hn : n ≤ 9223372036854775807) (hg : ¬ GoodReqs l slots) :
    Calls Tryd.prog 22 #[.slice A n c, .int .i64 slots] w fun e w' =>
      e = .returned (.tuple #[.slice none 0 0, .iface 57 (.int .i64 (reqsE l slots))]) ∧ w = w' := by
  have HG := Lib.hid hg
  clear hg
  go_enter Tryd.func22, Tryd.ntmps22
  go_wp2_with fail
  refine (reqs_no _ _ _ _ _ _ h hn HG.out).mono ?_; rintro e w' ⟨rfl, rfl⟩
  go_wp2
  go_ret2
  exact ⟨rfl, rfl⟩

def PhaseInv (s n : Nat) (l : List Int) (B : Nat) (w wr : World) (A7 : Option Addr) (n7 c7 k m : Nat) : Prop :=
  m = mask (phSet s (l.take k)) ∧ Row wr B 3 (.slice A7 n7 c7) n7 ((startsL s l k).map (Value.int .i64)) ∧ Below w.heap.size w wr

set_option maxHeartbeats 1000000 in
theorem starts_ok (A : Option Addr) (n c : Nat) (l : List Int) (slots : Int) (w : World) (h : RI w A n l) (hg : GoodReqs l slots) :
    Calls Tryd.prog 22 #[.slice A n c, .int .i64 slots] w fun e w' => Res1 w w' e (startsL slots.toNat l l.length) := by
  obtain ⟨s, rfl⟩ : ∃ s : Nat, slots = s := ⟨slots.toNat, by have := hg.2.2.1; omega⟩
  have HL := Lib.hid h.len
  have HG := Lib.hid hg
  have hn : n ≤ 40 := by have := HL.out; have := hg.1; omega
  have hs1 : 1 ≤ s := by have := hg.2.2.1; omega
  have hs2 : s ≤ 8 := by have := hg.2.2.2; omega
  clear hg
  go_enter Tryd.func22, Tryd.ntmps22
  go_wp2_with fail
  refine (reqs_ok _ _ _ _ _ _ h HG.out).mono ?_; rintro e w' ⟨rfl, rfl⟩
  go_wp2
  go_loopw [7, 8, 9, 10, 11, 20] (fun v7 v8 _ _ _ i wr => ∃ k : Nat, ∃ A7 n7 c7 m, k ≤ n ∧ i = .int .i64 k ∧ v7 = .slice A7 n7 c7 ∧ v8 = .int .u64 (m : Nat) ∧ Hid (PhaseInv s n l w.heap.size w wr A7 n7 c7 k m)) (fun _ _ _ _ _ i _ => n - (intOf i).toNat)
  case atStart => exact ⟨0, none, 0, 0, 0, by omega, by go_num, rfl, rfl, Lib.hid ⟨rfl, Row.nil_ _ _ _, Below.refl _ _⟩⟩
  case round =>
    obtain ⟨k, A7, n7, c7, m, hk, rfl, rfl, rfl, HI⟩ := hrel
    have hB := HI.out.2.2
    have hbs := hB.size
    have R7 := HI.out.2.1
    have HM := Lib.hid HI.out.1
    by_cases hlt : k < n
    · obtain ⟨ad, y, rfl, HY, hc⟩ := (h.below hB).at_ hlt
      have hy := HG.out.2.1 y (mem_of_at HY.out)
      obtain ⟨p, rfl⟩ : ∃ p : Nat, y = p := ⟨y.toNat, by omega⟩
      have hp : p ≤ 15 := by omega
      clear hy
      have hm : m < 65536 := by rw [HM.out]; exact mask_lt _ (phSet_in s l k HG.out.2.1)
      have hl7 : (startsL s l k).length = n7 := by have := R7.len; simpa using this
      have hle7 : n7 ≤ k := by have := starts_le s l k; omega
      have HL7 := Lib.hid hl7
      clear hl7
      have HW := Lib.hid (pow_u64 hp)
      have HO := Lib.hid (or_pow_u64 hm hp)
      by_cases hk0 : k = 0
      · have hn0 : n7 = 0 := by omega
        have HST := Lib.hid (step_start s l k p hs1 HY.out (.inl hk0))
        clear hk0
        subst hn0
        go_wp2_with (at_builtin; refine wpList_push _ rfl (.tmp 38) (.tmp 40) _ rfl w.heap.size 3 _ _ Tryd.underlying22 infoI rfl (by decide) _ _ _ rfl R7 (.int .i64 k) rfl rfl (by omega) hbs ?_; intro v' w1 R7' g7; have HV7 := Lib.hid R7'.form)
        go_roundw
        case rel =>
          obtain ⟨A', c', hv3, _, _⟩ := HV7.out
          refine ⟨k + 1, A', _, c', 2 ^ p, by omega, by go_num, hv3, by rw [HW.out], Lib.hid ⟨?_, ?_, hB.grown g7 hbs (fun b hb => (R7.lt b hb).1)⟩⟩
          · rw [HST.out.2]; simp [mask]
          · rw [HST.out.1, ← hv3, List.map_append]; exact R7'
        case measure => simp [intOf]; omega
      · have hn0 : 0 < n7 := by have := starts_pos s l k (by omega); have := HL7.out; omega
        have hlen0 : ((n7 : Int) == 0) = false := by simp; omega
        by_cases hst : ((p : Int) ∉ phSet s (l.take k) ∧ (phSet s (l.take k)).length = s)
        · have HST := Lib.hid (step_start s l k p hs1 HY.out (.inr hst))
          have HP := Lib.hid (show pc 16 (m ||| 2 ^ p) = s + 1 by
            have h1 := phSet_in s l k HG.out.2.1
            have h2 := mask_with _ h1 (p : Int) (by omega) (by omega)
            rw [if_neg hst.1, mask_pc _ h1 (phSet_nodup s _), hst.2, Int.toNat_natCast] at h2
            rw [HM.out]; exact h2)
          clear hst hk0
          have hor : m ||| 2 ^ p < 65536 := Nat.or_lt_two_pow (n := 16) hm (pow_lt_16 hp)
          go_wp2_with fail
          rw [HO.out]
          refine (ones_any _ hor _).mono ?_; rintro e w' ⟨rfl, rfl⟩
          rw [HP.out]
          go_wp2_with (at_builtin; refine wpList_push _ rfl (.tmp 38) (.tmp 40) _ rfl w.heap.size 3 _ _ Tryd.underlying22 infoI rfl (by decide) _ _ _ rfl R7 (.int .i64 k) rfl rfl (by omega) hbs ?_; intro v' w1 R7' g7; have HV7 := Lib.hid R7'.form)
          go_roundw
          case rel =>
            obtain ⟨A', c', hv3, _, _⟩ := HV7.out
            refine ⟨k + 1, A', _, c', 2 ^ p, by omega, by go_num, hv3, by rw [HW.out], Lib.hid ⟨?_, ?_, hB.grown g7 hbs (fun b hb => (R7.lt b hb).1)⟩⟩
            · rw [HST.out.2]; simp [mask]
            · rw [HST.out.1, ← hv3, List.map_append]; exact R7'
          case measure => simp [intOf]; omega
        · have hn := (Classical.not_and_iff_not_or_not.1 hst)
          have hn' : (p : Int) ∈ phSet s (l.take k) ∨ (phSet s (l.take k)).length ≠ s := hn.imp (fun h => Classical.not_not.1 h) id
          have HST := Lib.hid (step_in s l k p HY.out hk0 hn')
          have HP := Lib.hid (show pc 16 (m ||| 2 ^ p) ≤ s by
            have h1 := phSet_in s l k HG.out.2.1
            have h2 := mask_with _ h1 (p : Int) (by omega) (by omega)
            rw [mask_pc _ h1 (phSet_nodup s _), Int.toNat_natCast] at h2
            have h3 := phSet_le s hs1 (l.take k)
            rw [HM.out, h2]
            rcases hn' with h4 | h4
            · rw [if_pos h4]; omega
            · split <;> omega)
          have HMK := Lib.hid (show m ||| 2 ^ p = mask (phSet s (l.take (k + 1))) by
            have h1 := phSet_in s l k HG.out.2.1
            rw [HST.out.2, HM.out]
            split
            · rename_i hin
              have := mask_same _ h1 (p : Int) (by omega) hin
              rwa [Int.toNat_natCast] at this
            · rw [mask_snoc, Int.toNat_natCast])
          clear hst hk0 hn hn'
          have hor : m ||| 2 ^ p < 65536 := Nat.or_lt_two_pow (n := 16) hm (pow_lt_16 hp)
          go_wp2_with fail
          rw [HO.out]
          refine (ones_any _ hor _).mono ?_; rintro e w' ⟨rfl, rfl⟩
          obtain ⟨q, hq⟩ : ∃ q, pc 16 (m ||| 2 ^ p) = q := ⟨_, rfl⟩
          have hqs : q ≤ s := by rw [← hq]; exact HP.out
          rw [hq]
          clear hq
          go_wp2
          go_roundw
          case rel =>
            refine ⟨k + 1, A7, n7, c7, m ||| 2 ^ p, by omega, by go_num, rfl, rfl, Lib.hid ⟨HMK.out, ?_, hB⟩⟩
            rw [HST.out.1]; exact R7
          case measure => simp [intOf]; omega
    · have HE := Lib.hid (show k = n by omega)
      have hl7 : (startsL s l k).length = n7 := by have := R7.len; simpa using this
      have hle7 : n7 ≤ k := by have := starts_le s l k; omega
      clear hl7
      go_wp2
      go_ret2
      have e1 := HE.out
      have e2 := HL.out
      rw [Int.toNat_natCast, e2, ← e1]
      exact ⟨A7, n7, c7, rfl, R7, by omega, hB⟩
end Go.Proofs.YtcobmiodgfonaaaDoor
