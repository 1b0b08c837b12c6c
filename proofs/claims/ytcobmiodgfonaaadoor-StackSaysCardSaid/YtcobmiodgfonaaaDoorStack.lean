/- The walks of package stack: what each call returns, for every input. -/
import Derived.Test.YtcobmiodgfonaaaDoorInts
import Derived.Test.YtcobmiodgfonaaaDoorInsert
import Derived.Test.YtcobmiodgfonaaaDoorStackPlain
import Derived.Outline
import Derived.Deep.OwnRows
namespace Go.Proofs.YtcobmiodgfonaaaDoor
open Go.ChangeShapes Go.WideShapes Go.ChangeAt Go.RowKit Go.Deep

theorem depths_no (A : Option Addr) (n c : Nat) (l : List Int) (w : World) (h : RI w A n l) (hn : n ≤ 9223372036854775807) (hg : ¬ GoodReqs l 1) :
    Calls Tryd.prog 26 #[.slice A n c] w fun e w' => e = .returned (.tuple #[.slice none 0 0, .iface 57 (.int .i64 (reqsE l 1))]) ∧ w = w' := by
  have HG := Lib.hid hg
  clear hg
  go_enter Tryd.func26, Tryd.ntmps26
  go_wp2_with fail
  refine (reqs_no _ _ _ _ _ _ h hn HG.out).mono ?_; rintro e w' ⟨rfl, rfl⟩
  go_wp2
  go_ret2
  exact ⟨rfl, rfl⟩

/-- A row of integers and no error, in new memory. -/
def ResI (w w' : World) (e : Ending) (n : Nat) (out : List Int) : Prop :=
  ∃ A1 c1, e = .returned (.tuple #[.slice A1 n c1, .nilIface]) ∧ Row w' w.heap.size 3 (.slice A1 n c1) n (out.map (Value.int .i64)) ∧ n ≤ c1 ∧ Below w.heap.size w w'

def DepthInv (l : List Int) (w wr : World) (v6 : Value) (A5 : Option Addr) (n5 c5 k : Nat) : Prop :=
  ∃ out pile, depthRun (l.take k) = (out, pile) ∧ Row wr w.heap.size 3 v6 k (out.map (Value.int .i64)) ∧ Row wr w.heap.size 3 (.slice A5 n5 c5) n5 (pile.map (Value.int .i64)) ∧ n5 ≤ k ∧
    Apart v6.ownBlock (Value.slice A5 n5 c5).ownBlock ∧ Below w.heap.size w wr

set_option maxHeartbeats 2000000 in
theorem depths_ok (A : Option Addr) (n c : Nat) (l : List Int) (w : World) (h : RI w A n l) (hg : GoodReqs l 1) :
    Calls Tryd.prog 26 #[.slice A n c] w fun e w' => ResI w w' e n (depthRun l).1 := by
  have HL := Lib.hid h.len
  have HG := Lib.hid hg
  have hn : n ≤ 40 := by have := HL.out; have := hg.1; omega
  clear hg
  go_enter Tryd.func26, Tryd.ntmps26
  go_wp2_with fail
  refine (reqs_ok _ _ _ _ _ _ h HG.out).mono ?_; rintro e w' ⟨rfl, rfl⟩
  go_wp2
  go_loopw [5, 6, 8, 9, 17] (fun v5 v6 _ _ i wr => ∃ k : Nat, ∃ A5 n5 c5, k ≤ n ∧ i = .int .i64 k ∧ v5 = .slice A5 n5 c5 ∧ DepthInv l w wr v6 A5 n5 c5 k) (fun _ _ _ _ i _ => n - (intOf i).toNat)
  case atStart => exact ⟨0, none, 0, 0, by omega, by go_num, rfl, [], [], rfl, Row.nil_ _ _ _, Row.nil_ _ _ _, by omega, .inl rfl, Below.refl _ _⟩
  case round =>
    obtain ⟨k, A5, n5, c5, hk, rfl, rfl, out, pile, HF, R6, R5, hn5, hap, hB⟩ := hrel
    have HF' := Lib.hid HF
    have HAP := Lib.hid hap
    clear HF hap
    have hbs := hB.size
    by_cases hlt : k < n
    · obtain ⟨ad, y, rfl, HY, hc⟩ := (h.below hB).at_ hlt
      have HN : Hid (depthRun (l.take (k + 1)) = (out ++ [ixI pile y + 1], y :: pile.erase y)) := Lib.hid (by rw [depth_take_succ HY.out, HF'.out]; rfl)
      have hl5 : pile.length = n5 := by have := R5.len; simpa using this
      by_cases hm : y ∈ pile
      · have HX := Lib.hid (ixI_mem hm)
        have HE : Hid (pile.take (pile.idxOf y) ++ pile.drop (pile.idxOf y + 1) = pile.erase y) := Lib.hid (del_idx hm)
        have hi : pile.idxOf y < n5 := by rw [← hl5]; exact List.idxOf_lt_length_of_mem hm
        rw [HX.out] at HN
        generalize pile.idxOf y = i at *
        clear hm hl5
        go_wp2_with fail
        refine (index_any _ _ _ _ _ _ (Row.reads R5) (by omega)).mono ?_; rintro e w' ⟨rfl, rfl⟩
        rw [HX.out]
        go_wp2_with (at_builtin; refine wpList_push_at _ rfl (.tmp 24) (.tmp 27) _ rfl w.heap.size 3 _ _ Tryd.underlying22 infoI rfl (by decide) _ _ _ rfl R6 (.int .i64 ((i : Int) + 1)) rfl rfl (by omega) hbs ?_; intro v' w1 R6' g6 far6)
        have R5' := R5.apart g6 HAP.out.symm
        have HA1 := Lib.hid ((HAP.out.symm.far far6 (fun b hb => (R5.lt b hb).2)).symm)
        have hB1 := hB.grown g6 hbs (fun b hb => (R6.lt b hb).1)
        have hbs1 := hB1.size
        refine (delete_one _ _ _ _ pile i _ R5' hi).mono ?_; rintro e w2 ⟨v2, rfl, R5a, g5, hv2⟩
        have R6a := R6'.apart g5 HA1.out
        have HA2 : Hid (Apart v'.ownBlock v2.ownBlock) := Lib.hid (by rw [hv2]; exact HA1.out)
        have hB2 := hB1.grown g5 hbs1 (fun b hb => (R5'.lt b hb).1)
        have hbs2 := hB2.size
        rw [HE.out] at R5a
        obtain ⟨A2, c2, hvv, _, _⟩ := R5a.form
        subst hvv
        clear hv2
        go_wp2_with fail
        refine (insert0_at w.heap.size _ _ _ _ y _ R5a (by omega) hbs2).mono ?_; rintro e w3 ⟨v3, rfl, R5b, g10, far5⟩
        have HV3 := Lib.hid (R5b.form)
        have HA3 := Lib.hid (HA2.out.far far5 (fun b hb => (R6a.lt b hb).2))
        go_wp2
        go_roundw
        case rel =>
          obtain ⟨A', c', hv3, _, _⟩ := HV3.out
          refine ⟨k + 1, A', _, c', by omega, by go_num, hv3, _, _, HN.out, by simpa using R6a.apart g10 HA2.out, ?_, by omega, ?_, hB2.grown g10 hbs2 (fun b hb => (R5a.lt b hb).1)⟩
          · rw [← hv3]; exact R5b
          · rw [← hv3]; exact HA3.out
        case measure => simp [intOf]; omega
      · have HX := Lib.hid (ixI_not hm)
        have HE : Hid (pile.erase y = pile) := Lib.hid (List.erase_of_not_mem hm)
        rw [HX.out, HE.out] at HN
        clear hm
        go_wp2_with fail
        refine (index_any _ _ _ _ _ _ (Row.reads R5) (by omega)).mono ?_; rintro e w' ⟨rfl, rfl⟩
        rw [HX.out]
        go_wp2_with (at_builtin; refine wpList_push_at _ rfl (.tmp 24) (.tmp 27) _ rfl w.heap.size 3 _ _ Tryd.underlying22 infoI rfl (by decide) _ _ _ rfl R6 (.int .i64 0) rfl rfl (by omega) hbs ?_; intro v' w1 R6' g6 far6)
        have R5' := R5.apart g6 HAP.out.symm
        have HA1 := Lib.hid ((HAP.out.symm.far far6 (fun b hb => (R5.lt b hb).2)).symm)
        have hB1 := hB.grown g6 hbs (fun b hb => (R6.lt b hb).1)
        have hbs1 := hB1.size
        refine (insert0_at w.heap.size _ _ _ _ y _ R5' (by omega) hbs1).mono ?_; rintro e w3 ⟨v3, rfl, R5b, g10, far5⟩
        have HV3 := Lib.hid (R5b.form)
        have HA3 := Lib.hid (HA1.out.far far5 (fun b hb => (R6'.lt b hb).2))
        go_wp2
        go_roundw
        case rel =>
          obtain ⟨A', c', hv3, _, _⟩ := HV3.out
          refine ⟨k + 1, A', _, c', by omega, by go_num, hv3, _, _, HN.out, by simpa using R6'.apart g10 HA1.out, ?_, by omega, ?_, hB1.grown g10 hbs1 (fun b hb => (R5'.lt b hb).1)⟩
          · rw [← hv3]; exact R5b
          · rw [← hv3]; exact HA3.out
        case measure => simp [intOf]; omega
    · have HE := Lib.hid (show k = n by omega)
      have F6 := Lib.hid R6.form
      go_wp2
      go_ret2
      have e1 : depthRun l = (out, pile) := by have := HF'.out; rwa [List.take_of_length_le (by have := HL.out; have := HE.out; omega)] at this
      have e2 := HE.out
      obtain ⟨A1, c1, hv6, hc1, _⟩ := F6.out
      rw [e1]
      refine ⟨A1, c1, ?_, ?_, by omega, hB⟩
      · rw [← e2, ← hv6]; rfl
      · rw [← e2, ← hv6]; exact R6

theorem curve_no (A : Option Addr) (n c : Nat) (l : List Int) (w : World) (h : RI w A n l) (hn : n ≤ 9223372036854775807) (hg : ¬ GoodReqs l 1) :
    Calls Tryd.prog 27 #[.slice A n c] w fun e w' => e = .returned (.tuple #[.slice none 0 0, .iface 57 (.int .i64 (reqsE l 1))]) ∧ w = w' := by
  have HG := Lib.hid hg
  clear hg
  go_enter Tryd.func27, Tryd.ntmps27
  go_wp2_with fail
  refine (depths_no _ _ _ _ _ h hn HG.out).mono ?_; rintro e w' ⟨rfl, rfl⟩
  go_wp2
  go_ret2
  exact ⟨rfl, rfl⟩

theorem make8 (w : World) : (Instr.makeSlice 22 (.int .i64 8) (.int .i64 8)).run Tryd.prog w = .ok (.slice (some ⟨w.heap.size, 0, none⟩) 8 8) (w.alloc (.cells #[.int .i64 0, .int .i64 0, .int .i64 0, .int .i64 0, .int .i64 0, .int .i64 0, .int .i64 0, .int .i64 0] 3)) :=
  (run_make_row' 22 3 (.int .i64 0) 8 Tryd.underlying22 infoI rfl .i64 .i64 8 (by omega) (by omega) w).trans (by
    rw [show madeCells #[Value.int .i64 0] 8 = #[.int .i64 0, .int .i64 0, .int .i64 0, .int .i64 0, .int .i64 0, .int .i64 0, .int .i64 0, .int .i64 0] by kernel_rfl])

def CurveInv (w1 wr : World) (g : Nat) (m : List Int) : Prop := Row wr w1.heap.size 3 (.slice (some ⟨g, 0, none⟩) 8 8) 8 (m.map (Value.int .i64)) ∧ Below w1.heap.size w1 wr

set_option maxHeartbeats 2000000 in
theorem curve_ok (A : Option Addr) (n c : Nat) (l : List Int) (w : World) (h : RI w A n l) (hg : GoodReqs l 1) :
    Calls Tryd.prog 27 #[.slice A n c] w fun e w' => ResI w w' e 8 (curveL (depthRun l).1) := by
  have HL := Lib.hid h.len
  have HG := Lib.hid hg
  have hn : n ≤ 40 := by have := HL.out; have := hg.1; omega
  clear hg
  have hmk := make8
  go_enter Tryd.func27, Tryd.ntmps27
  go_wp2_with fail
  refine (depths_ok _ _ _ _ _ h HG.out).mono ?_; rintro e w1 ⟨A1, c1, rfl, R1, hc1, hB1⟩
  have HD := Lib.hid (Row.reads R1)
  have HDB : Hid (∀ d ∈ (depthRun l).1, 0 ≤ d ∧ d ≤ 40) := Lib.hid (fun d hd => by have := depth_bd l d hd; have := HL.out; omega)
  have HDL := Lib.hid (depth_len l)
  clear R1
  obtain ⟨ds, hds⟩ : ∃ ds, ds = (depthRun l).1 := ⟨_, rfl⟩
  rw [← hds] at HD HDB HDL
  have HDS := Lib.hid hds
  clear hds
  have R0 : Row (w1.alloc (.cells #[.int .i64 0, .int .i64 0, .int .i64 0, .int .i64 0, .int .i64 0, .int .i64 0, .int .i64 0, .int .i64 0] 3)) w1.heap.size 3 (.slice (some ⟨w1.heap.size, 0, none⟩) 8 8) 8 ((curveL (ds.take 0)).map (Value.int .i64)) := by
    have h0 := World.ownsRow_lit (base := w1.heap.size) (e := 3) (size := 1) w1 #[.int .i64 0, .int .i64 0, .int .i64 0, .int .i64 0, .int .i64 0, .int .i64 0, .int .i64 0, .int .i64 0] 8 (Nat.le_refl _) (by simp [maxLen]) rfl
    rw [List.take_zero, curve_nil]; exact h0
  have hBm := (Below.refl w1.heap.size w1).alloc (Nat.le_refl _) (.cells #[.int .i64 0, .int .i64 0, .int .i64 0, .int .i64 0, .int .i64 0, .int .i64 0, .int .i64 0, .int .i64 0] 3)
  go_wp2
  clear hmk
  go_loopw [8, 9, 21, 27] (fun _ _ i _ wr => ∃ j : Nat, j ≤ n ∧ i = .int .i64 j ∧ CurveInv w1 wr w1.heap.size (curveL (ds.take j))) (fun _ _ i _ _ => n - (intOf i).toNat)
  case atStart => exact ⟨0, by omega, by go_num, R0, hBm⟩
  case round =>
    obtain ⟨j, hj, rfl, RJ, hBJ⟩ := hrel
    by_cases hlt : j < n
    · obtain ⟨ad, d, rfl, HDJ, hcd⟩ := (HD.out.below hBJ).at_ hlt
      obtain ⟨d0, d1⟩ := HDB.out d (mem_of_at HDJ.out)
      have RM : Row wr w1.heap.size 3 (.slice (some ⟨w1.heap.size, 0, none⟩) 8 8) 8 ((midL (ds.take j) d 0).map (Value.int .i64)) := by rw [mid_zero]; exact RJ
      have HME := Lib.hid (mid_eight HDJ.out)
      have hcnt : ∀ t, cntD (ds.take j) t ≤ 40 := fun t => by have := cntD_le (ds.take j) t; rw [List.length_take] at this; omega
      have HCN := Lib.hid hcnt
      clear hcnt RJ
      go_wp2
      go_loopw [9, 27] (fun _ i wr => ∃ t : Nat, t ≤ 8 ∧ i = .int .i64 t ∧ CurveInv w1 wr w1.heap.size (midL (ds.take j) d t)) (fun _ i _ => 8 - (intOf i).toNat)
      case atStart => exact ⟨0, by omega, by go_num, RM, hBJ⟩
      case round =>
        obtain ⟨t, ht, rfl, RT, hBT⟩ := hrel
        by_cases ht8 : t < 8
        · have hcn := HCN.out t
          have hcell : wr.cell? ⟨w1.heap.size, t, none⟩ = some (.int .i64 ((cntD (ds.take j) t : Nat) : Int)) := by
            rw [World.ownsRow.cellAt RT t (by omega), List.getElem?_map, mid_self _ _ _ ht8]; rfl
          have hfr := World.ownsRow.frozenAt RT t
          have hst := World.ownsRow.stored RT t (.int .i64 (((cntD (ds.take j) t : Nat) : Int) + 1))
          obtain ⟨hst1, hst2⟩ := hst
          have hi0 : (0 : Int) ≤ (t : Int) := by omega
          by_cases hd0 : d = 0
          · have HY := Lib.hid (mid_yes (ds.take j) d t ht8 (.inl hd0))
            have HST : Hid (Row (wr.setCell ⟨w1.heap.size, t, none⟩ (.int .i64 (((cntD (ds.take j) t : Nat) : Int) + 1))) w1.heap.size 3 (.slice (some ⟨w1.heap.size, 0, none⟩) 8 8) 8 ((midL (ds.take j) d (t + 1)).map (Value.int .i64))) := Lib.hid (by
              rw [HY.out, List.map_set]; exact hst1)
            have HGR := Lib.hid hst2
            clear hst1 hst2
            generalize cntD (ds.take j) t = q at *
            subst hd0
            go_wp2
            go_roundw
            case rel => exact ⟨t + 1, by omega, by go_num, HST.out, hBT.grown HGR.out hBT.size (fun b hb => by injection hb with hb; omega)⟩
            case measure => simp [intOf]; omega
          · by_cases hdk : (t : Int) + 1 < d
            · have HY := Lib.hid (mid_yes (ds.take j) d t ht8 (.inr hdk))
              have HST : Hid (Row (wr.setCell ⟨w1.heap.size, t, none⟩ (.int .i64 (((cntD (ds.take j) t : Nat) : Int) + 1))) w1.heap.size 3 (.slice (some ⟨w1.heap.size, 0, none⟩) 8 8) 8 ((midL (ds.take j) d (t + 1)).map (Value.int .i64))) := Lib.hid (by
                rw [HY.out, List.map_set]; exact hst1)
              have HGR := Lib.hid hst2
              have hdb : ((d : Int) == 0) = false := by simp [hd0]
              clear hst1 hst2
              generalize cntD (ds.take j) t = q at *
              go_wp2
              go_roundw
              case rel => exact ⟨t + 1, by omega, by go_num, HST.out, hBT.grown HGR.out hBT.size (fun b hb => by injection hb with hb; omega)⟩
              case measure => simp [intOf]; omega
            · have HY := Lib.hid (mid_no (ds.take j) d t (by omega))
              have hdb : ((d : Int) == 0) = false := by simp [hd0]
              clear hst1 hst2
              go_wp2
              go_roundw
              case rel => exact ⟨t + 1, by omega, by go_num, by rw [HY.out]; exact RT, hBT⟩
              case measure => simp [intOf]; omega
        · have ht' : t = 8 := by omega
          subst ht'
          go_wp2
          go_roundw
          case rel => exact ⟨j + 1, by omega, by go_num, by rw [← HME.out]; exact RT, hBT⟩
          case measure => simp [intOf]; omega
    · have HE : Hid (ds.take j = ds) := Lib.hid (List.take_of_length_le (by have := HDL.out; have := HL.out; omega))
      rw [HE.out, HDS.out] at RJ
      go_wp2
      go_ret2
      exact ⟨some ⟨w1.heap.size, 0, none⟩, 8, rfl, World.ownsRow.kept (row := none) (w := wr) ⟨RJ.1, RJ.2.imp id fun ⟨g, cap, cur, x1, x2, x3⟩ => ⟨g, cap, cur, x1, Nat.le_trans hB1.size x2, x3⟩⟩ (World.grownBy.refl _ _) (.inr (by simp [Value.ownBlock])), by omega, hB1.trans (hBJ.mono hB1.size)⟩
end Go.Proofs.YtcobmiodgfonaaaDoor
