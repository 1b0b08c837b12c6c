/- The walk of larderwickref1.LeastList: the least that all looking could cost, by a table of rows. -/
import Derived.Test.YtmeamgeojcbljaaDoorRefList3
import Derived.Test.YtmeamgeojcbljaaDoorTables
import Derived.Test.YtmeamgeojcbljaaDoorQuietTail
import Derived.Deep.RegionHeld3
import Derived.Deep.RegionLaw
import Derived.IntWalk
namespace Go.Proofs.YtmeamgeojcbljaaDoor
open Go.ChangeShapes Go.WideShapes Go.ChangeAt Go.RowKit

/-! ### Tables that are filled place by place -/
def Filled (f : Nat → Int) (k : Nat) (T : List Int) : Prop := T.take k = (List.range k).map f
theorem filled_zero (f : Nat → Int) (T : List Int) : Filled f 0 T := rfl
theorem filled_set {f : Nat → Int} {k : Nat} {T : List Int} {v : Int} (h : Filled f k T) (hk : k < T.length) (hv : v = f k) : Filled f (k + 1) (T.set k v) := by
  unfold Filled at *
  rw [take_succ_of (List.getElem?_set_self hk), List.take_set_of_le (Nat.le_refl k), h, List.range_succ, List.map_append, hv]; rfl
theorem filled_all {f : Nat → Int} {N : Nat} {T : List Int} (h : Filled f N T) (hl : T.length = N) : T = (List.range N).map f := by
  unfold Filled at h
  rwa [List.take_of_length_le (by omega)] at h
def fill2 (f : Nat → Int) (k N : Nat) : List Int := (List.range N).map fun s => if s < k then f s else -1
theorem fill2_len (f : Nat → Int) (k N : Nat) : (fill2 f k N).length = N := by simp [fill2]
theorem fill2_at {f : Nat → Int} {k N s : Nat} (h : s < N) : (fill2 f k N)[s]? = some (if s < k then f s else -1) := by
  unfold fill2
  rw [List.getElem?_map, List.getElem?_range h]; rfl
theorem fill2_zero (f : Nat → Int) (N : Nat) : fill2 f 0 N = (List.range N).map fun _ => -1 := by
  unfold fill2
  congr 1
theorem fill2_self {f : Nat → Int} {k N : Nat} (h : k < N) : (fill2 f k N).set k (-1) = fill2 f k N := by
  apply List.ext_getElem?
  intro s
  by_cases e : s = k
  · subst e
    rw [List.getElem?_set_self (by rw [fill2_len]; exact h), fill2_at h, if_neg (by omega)]
  · rw [List.getElem?_set_ne (fun e' => e e'.symm)]
theorem fill2_set {f : Nat → Int} {k N : Nat} (h : k < N) : (fill2 f k N).set k (f k) = fill2 f (k + 1) N := by
  apply List.ext_getElem?
  intro s
  by_cases e : s = k
  · subst e
    rw [List.getElem?_set_self (by rw [fill2_len]; exact h), fill2_at h, if_pos (by omega)]
  · rw [List.getElem?_set_ne (fun e' => e e'.symm)]
    by_cases hs : s < N
    · rw [fill2_at hs, fill2_at hs]
      by_cases h1 : s < k
      · rw [if_pos h1, if_pos (by omega)]
      · rw [if_neg h1, if_neg (by omega)]
    · rw [List.getElem?_eq_none (by rw [fill2_len]; omega), List.getElem?_eq_none (by rw [fill2_len]; omega)]
theorem fill2_all (f : Nat → Int) (N : Nat) : fill2 f N N = (List.range N).map f := by
  unfold fill2
  apply List.map_congr_left
  intro s hs
  rw [if_pos (List.mem_range.1 hs)]
theorem set_at {T : List Int} {k : Nat} {v : Int} (h : k < T.length) : (T.set k v)[k]? = some v := List.getElem?_set_self h
theorem minT_takeL {T : List Int} {k : Nat} {x : Int} (h : T[k]? = some x) : minT (T.take (k + 1)) = if 0 ≤ x then lessI (minT (T.take k)) x else minT (T.take k) := by
  rw [List.take_add_one, h, Option.toList_some, minT_snoc]
theorem still_tlL {P : Program} {id : Nat} {Q : Exit → Act → World → Prop} {a : Act} {w : World} {l : List Oper} (n : Nat) (hm : P.follows .mixedOrders = true) (hB : Region.lexTailB .any l.toArray n = true)
    (h : wpStill P l.toArray w.drew (fun a' => wpList P l.toArray Q (l.drop n) a' w.drew) (l.take n) a) : (Code.region id l.toArray true).wp P Q a w := wp_region_still_tail n hm hB h
def rwR (n k : Nat) : List Int := (rowsR n).getD k []
theorem rwR_mem {n k : Nat} (h : k < (rowsR n).length) : rwR n k ∈ rowsR n := by
  unfold rwR
  rw [List.getD_eq_getElem?_getD, List.getElem?_eq_getElem h]
  exact List.getElem_mem h
/-- What is asked of the rows that the call has made. -/
def RowsAt (n N g : Nat) (w1 W : World) : Prop := Below w1.heap.size w1 W → ∀ k, k < N → ∃ A c, W.cell? ⟨g, k, none⟩ = some (.slice A n c) ∧ RI W A n (rwR n k)

set_option maxRecDepth 100000 in
set_option maxHeartbeats 4000000 in
theorem rllst_ok (n : Nat) (Ac : Option Addr) (m cc : Nat) (a : List Int) (w : World) (hc : RI w Ac m a) (hg : GoodT n a) :
    Calls Tryd.prog 33 #[.int .i64 n, .slice Ac m cc] w fun e w' => e = .returned (.int .i64 (minT (tabR (rowsR n) n a))) ∧ Below w.heap.size w w' := by
  have HG := Lib.hid hg
  have HM := Lib.hid hc.len
  have hn1 : 1 ≤ n := by have := hg.2.1; omega
  have hn4 : n ≤ 4 := by have := hg.2.2.1; omega
  have hm40 : m ≤ 40 := by have := hc.len; have := hg.1; omega
  have HMANY := Lib.hid (rowsR_many n (in04 hn4))
  have HRL := Lib.hid (rowsR_len n (in04 hn4))
  clear hg
  go_enter Tryd.func33, Tryd.ntmps33
  go_wp2_with fail
  refine (rrows_ok n hn4 w).mono ?_; rintro e w1 ⟨A1, N, c1, vs, rfl, hN, R1, V1, hB1⟩
  have hNb : 1 ≤ N ∧ N ≤ 24 := by rw [hN]; exact HMANY.out
  obtain ⟨hN1, hN24⟩ := hNb
  have HN := Lib.hid hN
  obtain ⟨g1, rfl, hg1⟩ : ∃ g1, A1 = some ⟨g1, 0, none⟩ ∧ g1 < w1.heap.size := by
    have hx : ∃ v, vs[0]? = some v := ⟨_, List.getElem?_eq_getElem (by rw [R1.len]; omega)⟩
    obtain ⟨v, hv⟩ := hx
    obtain ⟨g, e, _, hcell⟩ := R1.cellv hv
    exact ⟨g, e, cell_lt hcell⟩
  have HROW : Hid (∀ W, RowsAt n N g1 w1 W) := Lib.hid (fun W hB k hk => by
    have hkl : k < (rowsR n).length := by rw [← hN]; exact hk
    obtain ⟨A, c, h1, h2⟩ := (V1.below hB).2 k (rowsR n)[k] (List.getElem?_eq_getElem hkl)
    have hrl := HRL.out _ (List.getElem_mem hkl)
    rw [hrl] at h1 h2
    obtain ⟨g, e, _, hcell⟩ := (R1.below hB).cellv h1
    cases e
    refine ⟨A, c, hcell, ?_⟩
    have := h2.reads
    unfold rwR
    rw [List.getD_eq_getElem?_getD, List.getElem?_eq_getElem hkl]
    exact this)
  have hB0 := Below.refl w1.heap.size w1
  have hc1 := hc.below hB1
  clear R1 V1 hN
  have hb1 := hB1.size
  obtain ⟨g, hg⟩ : ∃ g, w1.heap.size = g := ⟨_, rfl⟩
  have R0 := TabRow.made w1 N (by omega)
  have hB2 := hB0.alloc (Nat.le_refl _) (.cells (madeCells #[.int .i64 0] N) 3)
  have hmk : ∀ w : World, (Instr.makeSlice 22 (.int .i64 (N : Int)) (.int .i64 (N : Int))).run Tryd.prog w = .ok (.slice (some ⟨w.heap.size, 0, none⟩) N N) (w.alloc (.cells (madeCells #[.int .i64 0] N) 3)) := made_run N (by omega)
  have hmk0 := hmk w1
  rw [hg] at R0 hmk0
  go_wp2
  go_loopw [7] (fun i wr => ∃ (k : Nat) (T : List Int), k ≤ N ∧ i = .int .i64 k ∧ TabRow wr g N T ∧ Hid (Filled (startV (rowsR n) n) k T) ∧ Below w1.heap.size w1 wr) (fun i _ => N - (intOf i).toNat)
  case atStart => exact ⟨0, _, by omega, by go_num, R0, Lib.hid rfl, hB2⟩
  case round =>
    clear R0 hB2
    obtain ⟨W0, hW0⟩ : ∃ W0, W0 = wr := ⟨_, rfl⟩
    subst hW0
    obtain ⟨k, T, hk, rfl, hT, HF, hB⟩ := hrel
    by_cases hlt : k < N
    · obtain ⟨u, hu, hcu⟩ := hT.at_ hlt
      have hfu := hT.frozen k
      obtain ⟨s1, s2⟩ := hT.store k (-1)
      have hB3 := Lib.hid (hB.grown s2 hB.size (fun b hb => by injection hb with hb; omega))
      obtain ⟨W1, hW1⟩ : ∃ W1, W0.setCell ⟨g, k, none⟩ (.int .i64 (-1)) = W1 := ⟨_, rfl⟩
      rw [hW1] at s1 hB3
      obtain ⟨Ar, cr, hcr, hIr⟩ := HROW.out W1 hB3.out k hlt
      have HIr := Lib.hid (hIr.drewN 1)
      clear hIr
      have HLT := Lib.hid hT.1
      have hB3s := hB3.out.size
      obtain ⟨z, hz⟩ : ∃ z, swR (rwR n k) (risingI n) = z := ⟨_, rfl⟩
      have HSV : Hid (startV (rowsR n) n k = if z = 0 then 0 else -1) := Lib.hid (by rw [← hz]; rfl)
      have HZ := Lib.hid hz
      clear hz
      go_wp2
      clear hB hT hcu hfu s2 hu hW1
      go_region_held3 (fun w' => w'.cell? ⟨g1, k, none⟩ = some (.slice Ar n cr)) (first | exact hcr | exact hcr3) (first
        | (go_at_call 66; refine (rcount_ok n _ (by omega)).mono ?_; rintro e w3 ⟨A3, c3, rfl, R3, hB4⟩; have hcr3 := (hB4.cell (cell_lt (w := W1.drew) hcr)).trans hcr)
        | (go_at_call 71; refine (rswaps_ok _ _ _ _ _ _ _ _ _ (HIr.out.below hB4) (Row.reads R3) hn4 hn4).mono ?_; rintro e w4 ⟨rfl, d, rfl⟩))
      have hB5 : Below w1.heap.size w1 (w3.drewN d) := belowN ((belowN hB3.out 1).trans (hB4.mono hB3s)) d
      have hT4 : TabRow w3 g N (T.set k (-1)) := TabRow.below (w := W1.drew) s1 hB4
      have hT5 : TabRow (w3.drewN d) g N (T.set k (-1)) := hT4
      rw [HZ.out]
      clear R3 hB4 hT4 hcr hcr3 s1
      generalize w3.drewN d = W3 at *
      by_cases hz0 : z = 0
      · subst hz0
        obtain ⟨u, hu, hcu⟩ := hT5.at_ hlt
        have hfu := hT5.frozen k
        obtain ⟨s1, s2⟩ := hT5.store k 0
        have hB6 := Lib.hid (hB5.grown s2 hB5.size (fun b hb => by injection hb with hb; omega))
        have HF2 : Hid (Filled (startV (rowsR n) n) (k + 1) ((T.set k (-1)).set k 0)) := Lib.hid (by
          rw [List.set_set]
          exact filled_set HF.out (by rw [HLT.out]; exact hlt) (by rw [HSV.out, if_pos rfl]))
        have S1 := Lib.hid s1
        clear s1 s2 hu
        go_wp2
        go_roundw
        case rel => exact ⟨k + 1, _, by omega, by go_num, S1.out, HF2, hB6.out⟩
        case measure => simp [intOf]; omega
      · have hz1 : ((z : Int) == 0) = false := by simp [hz0]
        have HF2 : Hid (Filled (startV (rowsR n) n) (k + 1) (T.set k (-1))) := Lib.hid (filled_set HF.out (by rw [HLT.out]; exact hlt) (by rw [HSV.out, if_neg hz0]))
        go_wp2
        go_roundw
        case rel => exact ⟨k + 1, _, by omega, by go_num, hT5, HF2, hB5⟩
        case measure => simp [intOf]; omega
    · obtain rfl : N = k := by omega
      have HT0 : Hid (T = tabR (rowsR n) n (a.take 0)) := Lib.hid (by
        show T = startT (rowsR n) n
        unfold startT
        rw [← HN.out]
        exact filled_all HF.out hT.1)
      have hTs := hT
      have hBs := hB
      have hgw : w1.heap.size ≤ g := by omega
      clear hT hB HF hk hlt hmk0 hg
      go_wp2
      go_loopw [6, 8] (fun v6 i wr => ∃ (i0 gg : Nat) (T : List Int), i0 ≤ m ∧ i = .int .i64 i0 ∧ v6 = .slice (some ⟨gg, 0, none⟩) N N ∧ w1.heap.size ≤ gg ∧ TabRow wr gg N T ∧ Hid (T = tabR (rowsR n) n (a.take i0)) ∧ Below w1.heap.size w1 wr) (fun _ i _ => m - (intOf i).toNat)
      case atStart => exact ⟨0, g, T, by omega, by go_num, rfl, hgw, hTs, HT0, hBs⟩
      case round =>
        clear hTs hBs HT0 hgw T
        obtain ⟨W1, hW1⟩ : ∃ W1, W1 = wr := ⟨_, rfl⟩
        subst hW1
        obtain ⟨i0, gg, T, hi0, rfl, rfl, hgw, hT, HT, hB⟩ := hrel
        have hgl := hT.lt (by omega)
        by_cases hlm : i0 < m
        · obtain ⟨adc0, x, hadc0, HX, hcx0⟩ := (hc1.below hB).at_ hlm
          have hxin := HG.out.2.2.2 x (List.mem_of_getElem? HX.out)
          clear hcx0 hadc0 adc0
          have HTS : Hid (∀ v ∈ T, -1 ≤ v ∧ v ≤ 400) := Lib.hid (fun v hv => by
            rw [HT.out] at hv
            have h1 := tab_small hn1 hn4 _ v hv
            have h2 : (a.take i0).length ≤ 40 := by rw [List.length_take]; have := HG.out.1; omega
            omega)
          obtain ⟨X, hX⟩ : ∃ X, W1.heap.size = X := ⟨_, rfl⟩
          have hgX : gg < X := by omega
          have RM := (TabRow.made W1 N (by omega)).below ((Below.refl _ _).alloc (Nat.le_refl _) (.cells (madeCells #[.int .i64 0] N) 3))
          have RT := TabRow.made (W1.alloc (.cells (madeCells #[.int .i64 0] N) 3)) N (by omega)
          have gB : Below W1.heap.size W1 ((W1.alloc (.cells (madeCells #[.int .i64 0] N) 3)).alloc (.cells (madeCells #[.int .i64 0] N) 3)) := ((Below.refl _ W1).alloc (Nat.le_refl _) _).alloc (by rw [World.size_alloc]; omega) _
          have hmk1 := hmk W1
          have hmk2 := hmk (W1.alloc (.cells (madeCells #[.int .i64 0] N) 3))
          rw [World.size_alloc] at hmk2 RT
          rw [hX] at RM RT gB hmk1 hmk2
          go_wp2
          go_loopw [11] (fun i wk => ∃ (k : Nat) (M TH : List Int), k ≤ N ∧ i = .int .i64 k ∧ TabRow wk X N M ∧ TabRow wk (X + 1) N TH ∧ Hid (Filled (midV (rowsR n) T) k M) ∧ Hid (Filled (fun _ => -1) k TH) ∧ Below X W1 wk) (fun i _ => N - (intOf i).toNat)
          case atStart => exact ⟨0, _, _, by omega, by go_num, RM, RT, Lib.hid rfl, Lib.hid rfl, gB⟩
          case round =>
            clear RM RT gB hmk1 hmk2
            obtain ⟨wk, hwk⟩ : ∃ wk, wk = wr := ⟨_, rfl⟩
            subst hwk
            obtain ⟨k, M, TH, hk, rfl, hM, hTH, HFM, HFT, hBk⟩ := hrel
            by_cases hlk : k < N
            · obtain ⟨u1, hu1, hcu1⟩ := hM.at_ hlk
              have hfu1 := hM.frozen k
              obtain ⟨s1, s2⟩ := hM.store k (-1)
              have hYl := hTH.lt (by omega)
              have hTH2 := hTH.kept (s2.block (X + 1) hYl (by intro e; injection e with e; omega))
              have hBk2 := hBk.grown s2 (by have := hBk.size; omega) (fun b hb => by injection hb with hb; omega)
              obtain ⟨wk2, hwk2⟩ : ∃ wk2, wk.setCell ⟨X, k, none⟩ (.int .i64 (-1)) = wk2 := ⟨_, rfl⟩
              rw [hwk2] at s1 hTH2 hBk2
              obtain ⟨u2, hu2, hcu2⟩ := hTH2.at_ hlk
              have hfu2 := hTH2.frozen k
              obtain ⟨s3, s4⟩ := hTH2.store k (-1)
              have hM3 := s1.kept (s4.block X (by have := s1.lt (by omega); omega) (by intro e; injection e with e; omega))
              have hBk3 := hBk2.grown s4 (by have := hBk2.size; omega) (fun b hb => by injection hb with hb; omega)
              obtain ⟨wk3, hwk3⟩ : ∃ wk3, wk2.setCell ⟨X + 1, k, none⟩ (.int .i64 (-1)) = wk3 := ⟨_, rfl⟩
              rw [hwk3] at s3 hM3 hBk3
              have HFT2 : Hid (Filled (fun _ => -1) (k + 1) (TH.set k (-1))) := Lib.hid (filled_set HFT.out (by rw [hTH.1]; exact hlk) rfl)
              have HML := Lib.hid hM.1
              clear s2 s4 hu1 hu2
              go_wp2
              go_loopw [12] (fun i wz => ∃ (j : Nat) (M4 : List Int), j ≤ N ∧ i = .int .i64 j ∧ TabRow wz X N M4 ∧ TabRow wz (X + 1) N (TH.set k (-1)) ∧ Hid (M4 = M.set k (minS j (midC (rowsR n) T k))) ∧ Below X W1 wz) (fun i _ => N - (intOf i).toNat)
              case atStart => exact ⟨0, _, by omega, by go_num, hM3, s3, Lib.hid rfl, hBk3⟩
              case round =>
                clear hM3 s3 hBk3 hM hTH hBk hcu1 hfu1 s1 hTH2 hBk2 hwk2 hcu2 hfu2 hwk3 hYl
                obtain ⟨wz, hwz⟩ : ∃ wz, wz = wr := ⟨_, rfl⟩
                subst hwz
                obtain ⟨j, M4, hj, rfl, hM4, hTH4, HM4, hBz⟩ := hrel
                by_cases hlj : j < N
                · obtain ⟨v, hv, hcv⟩ := (hT.kept (hBz.block gg hgX)).at_ hlj
                  have hvb := HTS.out v (List.mem_of_getElem? hv)
                  have HV := Lib.hid hv
                  have hNs := minS_succ j (midC (rowsR n) T k)
                  obtain ⟨mu, hmu⟩ : ∃ mu, minS j (midC (rowsR n) T k) = mu := ⟨_, rfl⟩
                  rw [hmu] at hNs HM4
                  have HMU := Lib.hid hmu
                  clear hv hmu
                  by_cases hv0 : 0 ≤ v
                  · have hBw : Below w1.heap.size w1 wz := hB.trans (hBz.mono (by have := hB.size; omega))
                    obtain ⟨Aj, cj, hcj, hIj⟩ := HROW.out wz hBw j hlj
                    obtain ⟨Ak, ck, hck, hIk⟩ := HROW.out wz hBw k hlk
                    obtain ⟨z, hz⟩ : ∃ z, swR (rwR n j) (rwR n k) = z := ⟨_, rfl⟩
                    have hz6 : z ≤ 6 := by rw [← hz]; exact rowsR_six n (in4 hn1 hn4) _ (rwR_mem (by rw [← HN.out]; exact hlj)) _ (rwR_mem (by rw [← HN.out]; exact hlk))
                    have hCS := fun d => rswaps_ok Aj Ak n cj n ck (rwR n j) (rwR n k) (wz.drewN d) (hIj.drewN d) (hIk.drewN d) hn4 hn4
                    rw [hz] at hCS
                    have HCS := Lib.hid hCS
                    have hMC : midC (rowsR n) T k j = v + (z : Int) := by
                      unfold midC
                      rw [List.getD_eq_getElem?_getD, HV.out]
                      show (if 0 ≤ v then v + (swR (rwR n j) (rwR n k) : Int) else -1) = _
                      rw [if_pos hv0, hz]
                    rw [hMC, if_pos (by omega)] at hNs
                    obtain ⟨y, hy⟩ : ∃ y, v + (z : Int) = y := ⟨_, rfl⟩
                    rw [hy] at hNs
                    have hyb : 0 ≤ y ∧ y ≤ 406 := by omega
                    have e6 : IntKind.i64.wrap (v + (z : Int)) = y := by rw [hy]; exact IntWalk.i64_in _ (by omega)
                    obtain ⟨r, hr⟩ : ∃ r, lessI mu y = r := ⟨_, rfl⟩
                    have HLS := Lib.hid (fun W => lesser_i mu y W)
                    rw [hr] at HLS hNs
                    have HNS := Lib.hid hNs
                    obtain ⟨u, hu, hcu⟩ := hM4.at_ hlk
                    have hum : u = mu := by
                      rw [HM4.out, set_at (by rw [HML.out]; exact hlk)] at hu
                      injection hu with hu
                      exact hu.symm
                    subst hum
                    have HW6 : Hid (∀ d, (wz.drewN d).frozen? ⟨X, k, none⟩ = false ∧ TabRow ((wz.drewN d).setCell ⟨X, k, none⟩ (.int .i64 r)) X N (M4.set k r) ∧ TabRow ((wz.drewN d).setCell ⟨X, k, none⟩ (.int .i64 r)) (X + 1) N (TH.set k (-1)) ∧ Below X W1 ((wz.drewN d).setCell ⟨X, k, none⟩ (.int .i64 r))) := Lib.hid (fun d => by
                      have q1 : TabRow (wz.drewN d) X N M4 := hM4
                      have q2 : TabRow (wz.drewN d) (X + 1) N (TH.set k (-1)) := hTH4
                      have q3 : Below X W1 (wz.drewN d) := belowN hBz d
                      obtain ⟨s1, s2⟩ := q1.store k r
                      have hYl := q2.lt (by omega)
                      exact ⟨q1.frozen k, s1, q2.kept (s2.block (X + 1) hYl (by intro e; injection e with e; omega)), q3.grown s2 (by have := q3.size; omega) (fun b hb => by injection hb with hb; omega)⟩)
                    have HM42 : Hid (M4.set k r = M.set k (minS (j + 1) (midC (rowsR n) T k))) := Lib.hid (by rw [HM4.out, List.set_set, HNS.out])
                    have hfu := hM4.frozen k
                    clear hr hMC hNs hCS hz hIj hIk hu
                    go_wp2
                    refine wp_region_quiet_tail 22 (by kernel_rfl) (by kernel_rfl) ?_
                    simp only [List.take_succ_cons, List.take_zero, List.drop_succ_cons, List.drop_zero]
                    repeat (go_big_quiet_step (first
                      | (go_at_call 71; exact Calls.quiet_of (HCS.out _))
                      | (go_at_call 51; exact Calls.quiet_of_same (HLS.out _))))
                    refine wpQuiet_nil ?_
                    intro w5 hw5
                    obtain ⟨d, hw5⟩ := hw5
                    subst hw5
                    have HW7 := Lib.hid (HW6.out d)
                    clear hy e6
                    go_wp2
                    go_roundw
                    case rel => exact ⟨j + 1, _, by omega, by go_num, HW7.out.2.1, HW7.out.2.2.1, HM42, HW7.out.2.2.2⟩
                    case measure => simp [intOf]; omega
                  · have hNs2 : Hid (M4 = M.set k (minS (j + 1) (midC (rowsR n) T k))) := Lib.hid (by
                      have hMC : midC (rowsR n) T k j = -1 := by
                        unfold midC
                        rw [List.getD_eq_getElem?_getD, HV.out]
                        exact if_neg hv0
                      rw [hMC, if_neg (by omega)] at hNs
                      rw [hNs]; exact HM4.out)
                    clear hNs
                    go_wp2
                    go_roundw
                    case rel => exact ⟨j + 1, M4, by omega, by go_num, hM4, hTH4, hNs2, hBz⟩
                    case measure => simp [intOf]; omega
                · obtain rfl : N = j := by omega
                  have HFM2 : Hid (Filled (midV (rowsR n) T) (k + 1) M4) := Lib.hid (by
                    rw [HM4.out]
                    refine filled_set HFM.out (by rw [HML.out]; exact hlk) ?_
                    unfold midV
                    rw [← HN.out])
                  go_wp2
                  go_roundw
                  case rel => exact ⟨k + 1, M4, _, by omega, by go_num, hM4, hTH4, HFM2, HFT2, hBz⟩
                  case measure => simp [intOf]; omega
            · obtain rfl : N = k := by omega
              have HMT : Hid (M = midT (rowsR n) T) := Lib.hid (by
                unfold midT
                rw [← HN.out]
                exact filled_all HFM.out hM.1)
              have HTH0 : Hid (TH = fill2 (thenV (rowsR n) M x) 0 N) := Lib.hid (by
                rw [fill2_zero]
                exact filled_all HFT.out hTH.1)
              have HMS : Hid (∀ v ∈ M, -1 ≤ v ∧ v ≤ 406) := Lib.hid (fun v hv => by
                rw [HMT.out] at hv
                obtain ⟨k, hk, rfl⟩ := List.mem_map.1 hv
                have hk := List.mem_range.1 hk
                refine minS_le (by omega) fun s hs => ?_
                unfold midC
                split
                · have h6 := rowsR_six n (in4 hn1 hn4) _ (List.getElem_mem hs) _ (List.getElem_mem hk)
                  have hTl := hT.1
                  have hsT : s < T.length := by rw [hTl, HN.out]; exact hs
                  have := HTS.out _ (List.getElem_mem hsT)
                  rw [List.getD_eq_getElem?_getD, List.getD_eq_getElem?_getD (l := rowsR n), List.getD_eq_getElem?_getD (l := rowsR n), List.getElem?_eq_getElem hsT, List.getElem?_eq_getElem hs, List.getElem?_eq_getElem hk]
                  simp only [Option.getD_some]
                  omega
                · omega)
              have hMs := hM
              have hTHs := hTH
              have hBs := hBk
              clear hM hTH hBk HFM HFT
              go_wp2
              go_loopw [13] (fun i wk => ∃ (k : Nat) (TH : List Int), k ≤ N ∧ i = .int .i64 k ∧ TabRow wk X N M ∧ TabRow wk (X + 1) N TH ∧ Hid (TH = fill2 (thenV (rowsR n) M x) k N) ∧ Below X W1 wk) (fun i _ => N - (intOf i).toNat)
              case atStart => exact ⟨0, TH, by omega, by go_num, hMs, hTHs, HTH0, hBs⟩
              case round =>
                clear hMs hTHs HTH0 hBs TH
                obtain ⟨wk5, hwk5⟩ : ∃ wk5, wk5 = wr := ⟨_, rfl⟩
                subst hwk5
                obtain ⟨k, TH, hk, rfl, hM5, hTH5, HTH5, hB5⟩ := hrel
                by_cases hlk : k < N
                · have HTH6 : Hid (TH = (fill2 (thenV (rowsR n) M x) k N).set k (minS 0 (thenC (rowsR n) M x k))) := Lib.hid (by rw [minS_zero, fill2_self hlk]; exact HTH5.out)
                  have hMs := hM5
                  have hTHs := hTH5
                  have hBs := hB5
                  clear hM5 hTH5 hB5 HTH5
                  go_wp2
                  go_loopw [14] (fun i wz => ∃ (j : Nat) (TH6 : List Int), j ≤ N ∧ i = .int .i64 j ∧ TabRow wz X N M ∧ TabRow wz (X + 1) N TH6 ∧ Hid (TH6 = (fill2 (thenV (rowsR n) M x) k N).set k (minS j (thenC (rowsR n) M x k))) ∧ Below X W1 wz) (fun i _ => N - (intOf i).toNat)
                  case atStart => exact ⟨0, TH, by omega, by go_num, hMs, hTHs, HTH6, hBs⟩
                  case round =>
                    clear hMs hTHs HTH6 hBs TH
                    obtain ⟨wz, hwz⟩ : ∃ wz, wz = wr := ⟨_, rfl⟩
                    subst hwz
                    obtain ⟨j, TH, hj, rfl, hM6, hTH6, HTH6, hB6⟩ := hrel
                    by_cases hlj : j < N
                    · have hBw : Below w1.heap.size w1 wz := hB.trans (hB6.mono (by have := hB.size; omega))
                      have hsz : X ≤ wz.heap.size := by have := hB6.size; omega
                      obtain ⟨Aj, cj, hcj, hIj⟩ := HROW.out wz hBw j hlj
                      obtain ⟨Ak, ck, hck, hIk⟩ := HROW.out wz hBw k hlk
                      obtain ⟨adc, x', rfl, HX', hcx⟩ := (hc1.below hBw).at_ hlm
                      obtain rfl : x' = x := by have := HX'.out.symm.trans HX.out; injection this
                      have hmj := rwR_mem (n := n) (k := j) (by rw [← HN.out]; exact hlj)
                      have hmk' := rwR_mem (n := n) (k := k) (by rw [← HN.out]; exact hlk)
                      obtain ⟨p, hp⟩ : ∃ p : Nat, x' = p := ⟨x'.toNat, by omega⟩
                      have hxj : x' ∈ rwR n j := by rw [hp]; exact rowsR_has n (in4 hn1 hn4) _ hmj p (List.mem_range.2 (by omega))
                      have hxk : x' ∈ rwR n k := by rw [hp]; exact rowsR_has n (in4 hn1 hn4) _ hmk' p (List.mem_range.2 (by omega))
                      clear hp p
                      have hlen := HRL.out _ hmj
                      have hix := ixI_mem hxj
                      have hil := List.idxOf_lt_length_iff.2 hxj
                      have HFW := Lib.hid (rforward_ok Aj Ak n cj ck (rwR n j) (rwR n k) x' wz.drew (hIj.drewN 1) (hIk.drewN 1) hn4 hxj hxk)
                      have HIj := Lib.hid (hIj.drewN 1)
                      have hNs := minS_succ j (thenC (rowsR n) M x' k)
                      have hTC : thenC (rowsR n) M x' k j = if fwdR (rwR n j) (rwR n k) x' = true then M.getD j 0 + ixI (rwR n j) x' + 1 else -1 := rfl
                      obtain ⟨mu, hmu⟩ : ∃ mu, minS j (thenC (rowsR n) M x' k) = mu := ⟨_, rfl⟩
                      obtain ⟨b, hb⟩ : ∃ b, fwdR (rwR n j) (rwR n k) x' = b := ⟨_, rfl⟩
                      obtain ⟨ix, hixx⟩ : ∃ ix, ixI (rwR n j) x' = ix := ⟨_, rfl⟩
                      have hixb : 0 ≤ ix ∧ ix ≤ 3 := by rw [← hixx, hix]; omega
                      rw [hmu] at hNs HTH6
                      rw [hb] at hTC HFW
                      rw [hixx] at hTC
                      have HIX := Lib.hid hixx
                      clear hmu hb hmj hmk' hxj hxk hlen hix hil hixx hIj hIk
                      have e0 : (0 : Int) ≤ (j : Int) := by omega
                      have e1 : (j : Int) < (N : Int) := by omega
                      have e2 : (0 : Int) ≤ (k : Int) := by omega
                      have e3 : (k : Int) < (N : Int) := by omega
                      have e4 : (0 : Int) ≤ (i0 : Int) := by omega
                      have e5 : (i0 : Int) < (m : Int) := by omega
                      cases b
                      · have HTH8 : Hid (TH = (fill2 (thenV (rowsR n) M x') k N).set k (minS (j + 1) (thenC (rowsR n) M x' k))) := Lib.hid (by
                          rw [if_neg (by decide)] at hTC
                          rw [hNs, hTC, if_neg (by omega)]
                          exact HTH6.out)
                        clear hNs hTC
                        go_wp2
                        refine still_tlL 12 (by kernel_rfl) (by kernel_rfl) ?_
                        simp only [List.take_succ_cons, List.take_zero, List.drop_succ_cons, List.drop_zero]
                        repeat still_step
                        refine wpStill_nil ?_
                        clear e0 e1 e2 e3 e4 e5
                        go_wp2_with fail
                        refine HFW.out.mono ?_; rintro e w5 ⟨rfl, hB7⟩
                        have hM8 : TabRow w5 X N M := TabRow.below (w := wz.drew) hM6 hB7
                        have hTH9 : TabRow w5 (X + 1) N TH := TabRow.below (w := wz.drew) hTH6 hB7
                        have hB8 : Below X W1 w5 := (belowN hB6 1).trans (hB7.mono hsz)
                        clear hcj hck hcx
                        go_wp2
                        go_roundw
                        case rel => exact ⟨j + 1, TH, by omega, by go_num, hM8, hTH9, HTH8, hB8⟩
                        case measure => simp [intOf]; omega
                      · go_wp2
                        refine still_tlL 12 (by kernel_rfl) (by kernel_rfl) ?_
                        simp only [List.take_succ_cons, List.take_zero, List.drop_succ_cons, List.drop_zero]
                        repeat still_step
                        refine wpStill_nil ?_
                        clear e0 e1 e2 e3 e4 e5
                        go_wp2_with fail
                        refine HFW.out.mono ?_; rintro e w5 ⟨rfl, hB7⟩
                        have hM8 : TabRow w5 X N M := TabRow.below (w := wz.drew) hM6 hB7
                        have hTH9 : TabRow w5 (X + 1) N TH := TabRow.below (w := wz.drew) hTH6 hB7
                        have hB8 : Below X W1 w5 := (belowN hB6 1).trans (hB7.mono hsz)
                        have hcj5 := (hB7.cell (cell_lt (w := wz.drew) hcj)).trans hcj
                        have hBw5 : Below w1.heap.size w1 w5 := hB.trans (hB8.mono (by have := hB.size; omega))
                        have hcx5 := (hc1.below hBw5).cellAt HX.out
                        have HPL := Lib.hid (fun d => rplace_ok Aj n cj (rwR n j) x' (w5.drewN d) ((HIj.out.below hB7).drewN d) (by omega))
                        rw [HIX.out] at HPL
                        clear hcj hck hcx
                        obtain ⟨v, hv, hcv⟩ := hM8.at_ hlj
                        have hvb := HMS.out v (List.mem_of_getElem? hv)
                        rw [if_pos trivial, List.getD_eq_getElem?_getD, hv, Option.getD_some] at hTC
                        obtain ⟨u, hu, hcu⟩ := hTH9.at_ hlk
                        have hum : u = mu := by
                          rw [HTH6.out, set_at (by rw [fill2_len]; exact hlk)] at hu
                          injection hu with hu
                          exact hu.symm
                        subst hum
                        obtain ⟨s1, hs1⟩ : ∃ s1, v + ix = s1 := ⟨_, rfl⟩
                        obtain ⟨y, hy⟩ : ∃ y, s1 + 1 = y := ⟨_, rfl⟩
                        rw [hs1, hy] at hTC
                        rw [hTC, if_pos (by omega)] at hNs
                        have e6 : IntKind.i64.wrap (v + ix) = s1 := by rw [hs1]; exact IntWalk.i64_in _ (by omega)
                        have e7 : IntKind.i64.wrap (s1 + 1) = y := by rw [hy]; exact IntWalk.i64_in _ (by omega)
                        obtain ⟨r, hr⟩ : ∃ r, lessI u y = r := ⟨_, rfl⟩
                        have HLS := Lib.hid (fun W => lesser_i u y W)
                        rw [hr] at HLS hNs
                        have HNS := Lib.hid hNs
                        have HTH8 : Hid (TH.set k r = (fill2 (thenV (rowsR n) M x') k N).set k (minS (j + 1) (thenC (rowsR n) M x' k))) := Lib.hid (by rw [HTH6.out, List.set_set, HNS.out])
                        have HW6 : Hid (∀ d, TabRow ((w5.drewN d).setCell ⟨X + 1, k, none⟩ (.int .i64 r)) (X + 1) N (TH.set k r) ∧ TabRow ((w5.drewN d).setCell ⟨X + 1, k, none⟩ (.int .i64 r)) X N M ∧ Below X W1 ((w5.drewN d).setCell ⟨X + 1, k, none⟩ (.int .i64 r))) := Lib.hid (fun d => by
                          have q1 : TabRow (w5.drewN d) X N M := hM8
                          have q2 : TabRow (w5.drewN d) (X + 1) N TH := hTH9
                          have q3 : Below X W1 (w5.drewN d) := belowN hB8 d
                          obtain ⟨s1, s2⟩ := q2.store k r
                          have hXl := q1.lt (by omega)
                          exact ⟨s1, q1.kept (s2.block X hXl (by intro e; injection e with e; omega)), q3.grown s2 (by have := q3.size; omega) (fun b hb => by injection hb with hb; omega)⟩)
                        have hfu := hTH9.frozen k
                        clear hr hNs hTC hu hv
                        go_wp2
                        refine wp_region_quiet_tail 23 (by kernel_rfl) (by kernel_rfl) ?_
                        simp only [List.take_succ_cons, List.take_zero, List.drop_succ_cons, List.drop_zero]
                        repeat (go_big_quiet_step (first
                          | (go_at_call 67; exact Calls.quiet_of_same ((HPL.out _).mono fun _ _ ⟨x1, x2⟩ => ⟨x1, x2.symm⟩))
                          | (go_at_call 51; exact Calls.quiet_of_same (HLS.out _))))
                        refine wpQuiet_nil ?_
                        intro w6 hw6
                        obtain ⟨d, hw6⟩ := hw6
                        subst hw6
                        have HW7 := Lib.hid (HW6.out d)
                        clear hs1 hy e6 e7
                        go_wp2
                        go_roundw
                        case rel => exact ⟨j + 1, _, by omega, by go_num, HW7.out.2.1, HW7.out.1, HTH8, HW7.out.2.2⟩
                        case measure => simp [intOf]; omega
                    · obtain rfl : N = j := by omega
                      have HTH7 : Hid (TH = fill2 (thenV (rowsR n) M x) (k + 1) N) := Lib.hid (by
                        rw [HTH6.out, ← fill2_set hlk]
                        unfold thenV
                        rw [← HN.out])
                      go_wp2
                      go_roundw
                      case rel => exact ⟨k + 1, TH, by omega, by go_num, hM6, hTH6, HTH7, hB6⟩
                      case measure => simp [intOf]; omega
                · obtain rfl : N = k := by omega
                  have HTn : Hid (TH = tabR (rowsR n) n (a.take (i0 + 1))) := Lib.hid (by
                    rw [take_succ_of HX.out, tabR_snoc, ← HT.out, ← HMT.out]
                    unfold thenT
                    rw [← HN.out, HTH5.out, fill2_all])
                  have hBn : Below w1.heap.size w1 wk5 := hB.trans (hB5.mono (by have := hB.size; omega))
                  go_wp2
                  go_roundw
                  case rel => exact ⟨i0 + 1, X + 1, TH, by omega, by go_num, rfl, by have := hB.size; omega, hTH5, HTn, hBn⟩
                  case measure => simp [intOf]; omega
        · obtain rfl : m = i0 := by omega
          have HTf : Hid (T = tabR (rowsR n) n a) := Lib.hid (by have := HT.out; rwa [List.take_of_length_le (by rw [HM.out]; omega)] at this)
          have hTs := hT
          have hBs := hB
          clear hT HT hB hmk
          go_wp2
          go_loopw [15, 16] (fun v15 ii wz => ∃ (k : Nat) (q : Int), k ≤ N ∧ ii = .int .i64 k ∧ v15 = .int .i64 q ∧ Hid (q = minT (T.take k)) ∧ TabRow wz gg N T ∧ Below w1.heap.size w1 wz) (fun _ ii _ => N - (intOf ii).toNat)
          case atStart => exact ⟨0, -1, by omega, by go_num, rfl, Lib.hid rfl, hTs, hBs⟩
          case round =>
            clear hTs hBs
            obtain ⟨wz, hwz⟩ : ∃ wz, wz = wr := ⟨_, rfl⟩
            subst hwz
            obtain ⟨k, q, hk, rfl, rfl, HQ, hT, hB⟩ := hrel
            by_cases hlk : k < N
            · obtain ⟨v, hv, hcv⟩ := hT.at_ hlk
              have HV := Lib.hid (minT_takeL hv)
              clear hv
              by_cases hv0 : 0 ≤ v
              · have HQ2 : Hid (lessI q v = minT (T.take (k + 1))) := Lib.hid (by rw [HV.out, if_pos hv0, HQ.out])
                have HLS := Lib.hid (lesser_i q v wz)
                go_wp2_with fail
                refine HLS.out.mono ?_; rintro e w' ⟨rfl, rfl⟩
                go_wp2
                go_roundw
                case rel => exact ⟨k + 1, lessI q v, by omega, by go_num, rfl, HQ2, hT, hB⟩
                case measure => simp [intOf]; omega
              · have HQ2 : Hid (q = minT (T.take (k + 1))) := Lib.hid (by rw [HV.out, if_neg hv0, HQ.out])
                go_wp2
                go_roundw
                case rel => exact ⟨k + 1, q, by omega, by go_num, rfl, HQ2, hT, hB⟩
                case measure => simp [intOf]; omega
            · obtain rfl : N = k := by omega
              have HQ2 : Hid (q = minT (tabR (rowsR n) n a)) := Lib.hid (by rw [← HTf.out, HQ.out, List.take_of_length_le (by rw [hT.1]; omega)])
              go_wp2
              go_ret
              exact ⟨by rw [← HQ2.out]; rfl, hB1.trans (hB.mono hb1)⟩
end Go.Proofs.YtmeamgeojcbljaaDoor
