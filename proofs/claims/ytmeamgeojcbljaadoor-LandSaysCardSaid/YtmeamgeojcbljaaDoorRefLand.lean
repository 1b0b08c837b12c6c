/- The walk of larderwickref1.Landlord: what all cost, who is there at the end, and their credits. -/
import Derived.Test.YtmeamgeojcbljaaDoorRefLandPlain
import Derived.Test.YtmeamgeojcbljaaDoorRefRise
import Derived.Test.YtmeamgeojcbljaaDoorLandCheck
import Derived.Test.YtmeamgeojcbljaaDoorInfo
import Derived.IntWalk
namespace Go.Proofs.YtmeamgeojcbljaaDoor
open Go.ChangeShapes Go.WideShapes Go.ChangeAt Go.RowKit

def RLandRes (w w' : World) (e : Ending) (c : Int × List (Int × Int)) : Prop :=
  ∃ A1 n1 c1 A2 c2, e = .returned (.tuple #[.int .i64 c.1, .slice A1 n1 c1, .slice A2 n1 c2]) ∧ Row w' w.heap.size 3 (.slice A1 n1 c1) n1 ((c.2.map Prod.fst).map (Value.int .i64)) ∧
    Row w' w.heap.size 3 (.slice A2 n1 c2) n1 ((c.2.map Prod.snd).map (Value.int .i64)) ∧ n1 ≤ 8 ∧ Below w.heap.size w w'
theorem apart_of {r r' : Option Nat} {X : Nat} (h : ∀ k, r = some k → k < X) (h' : ∀ k, r' = some k → X ≤ k) : Apart r r' := by
  cases hr : r with
  | none => exact .inl rfl
  | some k => exact .inr (fun e => by have := h k hr; have := h' k e.symm; omega)

set_option maxRecDepth 100000 in
set_option maxHeartbeats 4000000 in
theorem rland_ok (A Ac : Option Addr) (n c m cc : Nat) (l cost : List Int) (slots : Int) (w : World) (h : RI w A n l) (hc : RI w Ac m cost) (hg : GoodL l cost slots) :
    Calls Tryd.prog 26 #[.slice A n c, .slice Ac m cc, .int .i64 slots] w fun e w' => RLandRes w w' e (landRun cost slots.toNat l) := by
  obtain ⟨s, rfl⟩ : ∃ s : Nat, slots = s := ⟨slots.toNat, by have := hg.2.2.2.2.1; omega⟩
  rw [Int.toNat_natCast]
  have HG := Lib.hid hg
  have HL := Lib.hid h.len
  have HM := Lib.hid hc.len
  have hn40 : n ≤ 40 := by have := h.len; have := hg.1; omega
  have hm6 : m ≤ 6 := by have := hc.len; have := hg.2.1; omega
  have hs1 : 1 ≤ s ∧ s ≤ 8 := by have := hg.2.2.2.2; omega
  clear hg
  have HK := Lib.hid (fun k (hk : k ≤ l.length) => landOk_take HG.out.2.2.1 hs1.1 l k hk)
  have HN := Lib.hid (fun k => (land_good (cost := cost) (fun x => (costAt HG.out.2.2.1 x.toNat).1) hs1.1 (l.take k)).1)
  go_enter Tryd.func26, Tryd.ntmps26
  go_wp2
  go_loopw [9, 10, 11, 12] (fun v9 v10 v11 i wr => ∃ (k z c9 c10 : Nat) (A9 A10 : Option Addr) (sum : Int) (H : List (Int × Int)), k ≤ n ∧ i = .int .i64 k ∧ v11 = .int .i64 sum ∧ v9 = .slice A9 z c9 ∧ v10 = .slice A10 z c10 ∧ Hid (landRun cost s (l.take k) = (sum, H)) ∧
    Row wr w.heap.size 3 v9 z ((H.map Prod.fst).map (Value.int .i64)) ∧ Row wr w.heap.size 3 v10 z ((H.map Prod.snd).map (Value.int .i64)) ∧ Hid (Apart v9.ownBlock v10.ownBlock) ∧ Below w.heap.size w wr) (fun _ _ _ i _ => n - (intOf i).toNat)
  case atStart => exact ⟨0, 0, 0, 0, none, none, 0, [], by omega, by go_num, rfl, rfl, rfl, Lib.hid rfl, Row.nil_ _ _ _, Row.nil_ _ _ _, Lib.hid (.inl rfl), Below.refl _ _⟩
  case round =>
    obtain ⟨W1, hW1⟩ : ∃ W1, W1 = wr := ⟨_, rfl⟩
    subst hW1
    obtain ⟨k, z, c9, c10, A9, A10, sum, H, hk, rfl, rfl, rfl, rfl, HF, R9, R10, HAP, hB⟩ := hrel
    have hbs := hB.size
    have hHl : H.length = z := by have := R9.len; simpa using this
    have HHL := Lib.hid hHl
    obtain ⟨hzs, hcr, hsum⟩ : z ≤ s ∧ (∀ t ∈ H, 0 ≤ t.2 ∧ t.2 ≤ 20) ∧ 0 ≤ sum ∧ sum ≤ 800 := by
      have h1 := HK.out k (by rw [HL.out]; exact hk)
      rw [HF.out] at h1
      obtain ⟨a1, a2, a3, a4⟩ := h1
      have a1 : H.length ≤ s := a1
      have a3 : 0 ≤ sum := a3
      have a4 : sum ≤ 20 * k := a4
      exact ⟨by omega, a2, by omega, by omega⟩
    have HCR := Lib.hid hcr
    have HND : Hid ((H.map Prod.fst).Nodup) := Lib.hid (by have := HN.out k; rw [HF.out] at this; exact this)
    clear hHl hcr
    by_cases hlt : k < n
    · obtain ⟨ad, y, rfl, HY, hcy⟩ := (h.below hB).at_ hlt
      have hyin := HG.out.2.2.2.1 y (mem_of_at HY.out)
      rw [HM.out] at hyin
      obtain ⟨p, rfl⟩ : ∃ p : Nat, y = p := ⟨y.toNat, by omega⟩
      have hpm : p < m := by omega
      clear hyin
      obtain ⟨adc, x, rfl, HX, hcx⟩ := (hc.below hB).at_ hpm
      have hxb := HG.out.2.2.1 x (mem_of_at HX.out)
      have HXD : Hid (cost.getD ((p : Int).toNat) 0 = x) := Lib.hid (by rw [Int.toNat_natCast, List.getD_eq_getElem?_getD, HX.out]; rfl)
      have HSTEP : Hid (landRun cost s (l.take (k + 1)) = landStep cost s (sum, H) p) := Lib.hid (by rw [land_succ HY.out, HF.out])
      have hpm2 : (p : Int) < (m : Int) := by omega
      go_wp2_with fail
      refine (has_any _ _ _ _ _ _ (Row.reads R9) (by omega)).mono ?_; rintro e w' ⟨rfl, rfl⟩
      by_cases hm : (p : Int) ∈ H.map Prod.fst
      · have HB := Lib.hid ((hasB_iff (H.map Prod.fst) p).2 hm)
        have HN2 : Hid (landRun cost s (l.take (k + 1)) = (sum, H.set ((H.map Prod.fst).idxOf (p : Int)) (p, x))) := Lib.hid (by rw [HSTEP.out, land_hit hm, HXD.out])
        have HAT := Lib.hid (fun j q b (hj : H[j]? = some (q, b)) => hit_at HND.out (c := x) hm hj)
        have HFS : Hid ((H.set ((H.map Prod.fst).idxOf (p : Int)) ((p : Int), x)).map Prod.fst = H.map Prod.fst) := Lib.hid (by obtain ⟨b, hb⟩ := page_at hm; exact set_fst hb)
        have HLS : Hid ((H.set ((H.map Prod.fst).idxOf (p : Int)) ((p : Int), x)).length = z) := Lib.hid (by rw [List.length_set, HHL.out])
        obtain ⟨H2, hH2⟩ : ∃ H2, H.set ((H.map Prod.fst).idxOf (p : Int)) ((p : Int), x) = H2 := ⟨_, rfl⟩
        rw [hH2] at HN2 HAT HFS HLS
        clear hm hH2
        rw [HB.out]
        obtain ⟨X, hX⟩ : ∃ X, W1.heap.size = X := ⟨_, rfl⟩
        have RI9 := Row.reads R9
        have RI10 := Row.reads R10
        clear hcy hcx
        go_wp2
        go_loopw [14, 15] (fun v14 i wk => ∃ j : Nat, j ≤ z ∧ i = .int .i64 j ∧ Row wk X 3 v14 j (((H2.map Prod.snd).take j).map (Value.int .i64)) ∧ Below X W1 wk) (fun _ i _ => z - (intOf i).toNat)
        case atStart => exact ⟨0, by omega, by go_num, Row.nil_ _ _ _, Below.refl _ _⟩
        case round =>
          obtain ⟨wk, hwk⟩ : ∃ wk, wk = wr := ⟨_, rfl⟩
          subst hwk
          obtain ⟨j, hj, rfl, R14, hB2⟩ := hrel
          have hX2 : X ≤ wk.heap.size := by have := hB2.size; omega
          have hBX : Below W1.heap.size W1 wk := by rw [hX]; exact hB2
          have hBw : Below w.heap.size w wk := hB.trans (hBX.mono (by omega))
          by_cases hjz : j < z
          · obtain ⟨ad9, q, rfl, HQ, hc9⟩ := (RI9.below hBX).at_ hjz
            obtain ⟨ad10, b, rfl, HBb, hc10⟩ := (RI10.below hBX).at_ hjz
            obtain ⟨adc', x', hadc, HX', hcx⟩ := (hc.below hBw).at_ hpm
            obtain rfl : adc = adc' := by injection hadc
            obtain rfl : x' = x := by have := HX'.out.symm.trans HX.out; injection this
            have HHJ : Hid (H[j]? = some (q, b)) := Lib.hid (by
              have h1 := HQ.out; have h2 := HBb.out
              rw [List.getElem?_map] at h1 h2
              cases hh : H[j]? with
              | none => rw [hh] at h1; cases h1
              | some t => rw [hh] at h1 h2; injection h1 with h1; injection h2 with h2; rw [← h1, ← h2])
            have HAJ := Lib.hid (HAT.out j q b HHJ.out)
            clear hadc
            by_cases hqp : q = p
            · have HT : Hid ((H2.map Prod.snd).take (j + 1) = (H2.map Prod.snd).take j ++ [x']) := Lib.hid (by rw [take_succ_of HAJ.out, if_pos hqp])
              have hqb : (q == (p : Int)) = true := by simp [hqp]
              subst hqp
              go_wp2_with (at_builtin; refine wpList_push _ rfl (.tmp 46) (.tmp 51) _ rfl X 3 _ _ Tryd.underlying22 infoI rfl (by decide) _ _ _ rfl R14 (.int .i64 x') rfl rfl (by omega) hX2 ?_; intro v' w1 R14' g14)
              go_roundw
              case rel => exact ⟨j + 1, by omega, by go_num, by rw [HT.out, List.map_append]; exact R14', hB2.grown g14 hX2 (fun b hb => (R14.lt b hb).1)⟩
              case measure => simp [intOf]; omega
            · have HT : Hid ((H2.map Prod.snd).take (j + 1) = (H2.map Prod.snd).take j ++ [b]) := Lib.hid (by rw [take_succ_of HAJ.out, if_neg hqp])
              have hqb : (q == (p : Int)) = false := by simp [hqp]
              go_wp2_with (at_builtin; refine wpList_push _ rfl (.tmp 53) (.tmp 58) _ rfl X 3 _ _ Tryd.underlying22 infoI rfl (by decide) _ _ _ rfl R14 (.int .i64 b) rfl rfl (by omega) hX2 ?_; intro v' w1 R14' g14)
              go_roundw
              case rel => exact ⟨j + 1, by omega, by go_num, by rw [HT.out, List.map_append]; exact R14', hB2.grown g14 hX2 (fun b hb => (R14.lt b hb).1)⟩
              case measure => simp [intOf]; omega
          · obtain rfl : j = z := by omega
            have F14 := Lib.hid R14.form
            obtain ⟨A14, c14, rfl, _, _⟩ := F14.out
            have HTA : Hid ((H2.map Prod.snd).take j = H2.map Prod.snd) := Lib.hid (by rw [List.take_of_length_le (by rw [List.length_map, HLS.out]; omega)])
            have R9' := R9.below hBX
            have HAP2 := Lib.hid (apart_of (X := X) (fun k hk => by have := (R9.lt k hk).2; omega) (fun k hk => (R14.lt k hk).1))
            have R14' := R14.base_down (show w.heap.size ≤ X by omega)
            rw [HTA.out] at R14'
            go_wp2
            go_roundw
            case rel => exact ⟨k + 1, j, c9, c14, A9, A14, sum, H2, by omega, by go_num, rfl, rfl, rfl, HN2, by rw [HFS.out]; exact R9', R14', HAP2, hBw⟩
            case measure => simp [intOf]; omega
      · have HB := Lib.hid ((hasB_false (H.map Prod.fst) p).2 hm)
        by_cases hfull : z = s
        · have HN2 : Hid (landRun cost s (l.take (k + 1)) = (sum + x, roomed H ++ [((p : Int), x)])) := Lib.hid (by rw [HSTEP.out, land_full hm (by rw [HHL.out]; exact hfull), HXD.out])
          have hfb : ((z : Int) == (s : Int)) = true := by simp [hfull]
          have hHp : 0 < H.length := by rw [HHL.out]; omega
          obtain ⟨ix, hix⟩ : ∃ ix, (H.map Prod.snd).idxOf (leastH H) = ix := ⟨_, rfl⟩
          have hixz : ix < z := by have := least_first hHp; rw [hix, HHL.out] at this; exact this
          have HRF := Lib.hid (roomed_fst H)
          have HRS := Lib.hid (roomed_snd H)
          rw [hix, HHL.out] at HRF HRS
          have HS0 := Lib.hid (sort_least hHp)
          have HLO := Lib.hid (fun (t : Int × Int) (ht : t ∈ H) => leastH_le ht)
          have HI0 : Hid (∀ j (b : Int), (H.map Prod.snd)[j]? = some b → (j < ix → ¬ b = leastH H) ∧ (j = ix → b = leastH H)) := Lib.hid (fun j b hj => ⟨fun h1 h2 => by
              have := idxOf_leK (h2 ▸ hj); omega, fun h1 => by
              have h3 := List.getElem_idxOf (List.idxOf_lt_length_iff.2 (leastH_in hHp))
              obtain ⟨hj', he⟩ := List.getElem?_eq_some_iff.1 hj
              simp only [hix] at h3
              subst h1
              exact he.symm.trans h3⟩)
          obtain ⟨d, hd⟩ : ∃ d, leastH H = d := ⟨_, rfl⟩
          have hd0 : 0 ≤ d ∧ d ≤ 20 := by
            obtain ⟨t, ht, e⟩ := List.mem_map.1 (leastH_in hHp)
            have := HCR.out t ht
            omega
          rw [hd] at HRS HS0 HLO HI0
          clear hm hix hd hHp
          rw [HB.out]
          subst hfull
          have RI9 := Row.reads R9
          have RI10 := Row.reads R10
          go_wp2_with fail
          refine (rising_ok _ _ _ _ _ RI10 (by omega)).mono ?_; rintro e W2 ⟨Ar, nr, cr, rfl, Rr, hBr⟩
          have hnr : nr = z := by have := Rr.len; rw [List.length_map, sortI_len, List.length_map, HHL.out] at this; omega
          subst hnr
          obtain ⟨adr, dr, rfl, hdr, hcr0⟩ := (Row.reads Rr).at_ (show 0 < nr by omega)
          obtain rfl : dr = d := by have := hdr.out.symm.trans HS0.out; injection this
          rw [show adr.add 0 = adr from by simp [Addr.add]] at hcr0
          have R9a := R9.below hBr
          have R10a := R10.below hBr
          have hB1 := hB.trans (hBr.mono hbs)
          have hb1 := hB1.size
          clear hdr hcy hcx Rr
          obtain ⟨X, hX⟩ : ∃ X, W2.heap.size = X := ⟨_, rfl⟩
          have RI9a := Row.reads R9a
          have RI10a := Row.reads R10a
          go_wp2
          go_loopw [17, 18, 19, 20] (fun v17 v18 v19 i wk => ∃ (j q : Nat) (o : Int), j ≤ nr ∧ i = .int .i64 j ∧ v17 = .int .i64 o ∧ ((j ≤ ix ∧ o = -1 ∧ q = j) ∨ (ix < j ∧ o = ix ∧ q + 1 = j)) ∧ Row wk X 3 v18 q ((exK (H.map Prod.fst) ix j).map (Value.int .i64)) ∧
            Row wk X 3 v19 q ((exK ((lowered H dr).map Prod.snd) ix j).map (Value.int .i64)) ∧ Hid (Apart v18.ownBlock v19.ownBlock) ∧ Below X W2 wk) (fun _ _ _ i _ => nr - (intOf i).toNat)
          case atStart => exact ⟨0, 0, -1, by omega, by go_num, rfl, .inl ⟨by omega, rfl, rfl⟩, by rw [exK_zero]; exact Row.nil_ _ _ _, by rw [exK_zero]; exact Row.nil_ _ _ _, Lib.hid (.inl rfl), Below.refl _ _⟩
          case round =>
            clear hcr0
            obtain ⟨wk, hwk⟩ : ∃ wk, wk = wr := ⟨_, rfl⟩
            subst hwk
            obtain ⟨j, q, o, hj, rfl, rfl, ho, R18, R19, HAPN, hB2⟩ := hrel
            have hX2 : X ≤ wk.heap.size := by have := hB2.size; omega
            have hBX : Below W2.heap.size W2 wk := by rw [hX]; exact hB2
            have hBw : Below w.heap.size w wk := hB1.trans (hBX.mono (by omega))
            by_cases hjz : j < nr
            · obtain ⟨ad9, g, rfl, HQ, hc9⟩ := (RI9a.below hBX).at_ hjz
              obtain ⟨ad10, b, rfl, HBb, hc10⟩ := (RI10a.below hBX).at_ hjz
              have HIJ := Lib.hid (HI0.out j b HBb.out)
              have HHJ : Hid (H[j]? = some (g, b)) := Lib.hid (by
                have h1 := HQ.out; have h2 := HBb.out
                rw [List.getElem?_map] at h1 h2
                cases hh : H[j]? with
                | none => rw [hh] at h1; cases h1
                | some t => rw [hh] at h1 h2; injection h1 with h1; injection h2 with h2; rw [← h1, ← h2])
              have hb20 : dr ≤ b ∧ b ≤ 20 := ⟨HLO.out _ (List.mem_of_getElem? HHJ.out), (HCR.out _ (List.mem_of_getElem? HHJ.out)).2⟩
              have HLJ : Hid (((lowered H dr).map Prod.snd)[j]? = some (b - dr)) := Lib.hid (by unfold lowered; rw [List.map_map, List.getElem?_map, HHJ.out]; rfl)
              by_cases hjx : j = ix
              · have hbd : b = dr := HIJ.out.2 hjx
                have hoj : o = -1 := by omega
                have hqj : q = j := by omega
                have H18 : Hid (exK (H.map Prod.fst) ix (j + 1) = exK (H.map Prod.fst) ix j) := Lib.hid (by rw [← hjx]; exact exK_at HQ.out)
                have H19 : Hid (exK ((lowered H dr).map Prod.snd) ix (j + 1) = exK ((lowered H dr).map Prod.snd) ix j) := Lib.hid (by rw [← hjx]; exact exK_at HLJ.out)
                have hbb : (b == dr) = true := by simp [hbd]
                have hrel2 : ix < j + 1 ∧ (j : Int) = ix ∧ q + 1 = j + 1 := by omega
                have HR2 := Lib.hid hrel2
                subst hoj hqj
                clear ho hjx hrel2
                subst hbd
                go_wp2
                go_roundw
                case rel => exact ⟨q + 1, q, q, by omega, by go_num, rfl, .inr HR2.out, by rw [H18.out]; exact R18, by rw [H19.out]; exact R19, HAPN, hB2⟩
                case measure => simp [intOf]; omega
              · have H18 : Hid (exK (H.map Prod.fst) ix (j + 1) = exK (H.map Prod.fst) ix j ++ [g]) := Lib.hid (exK_ne HQ.out hjx)
                have H19 : Hid (exK ((lowered H dr).map Prod.snd) ix (j + 1) = exK ((lowered H dr).map Prod.snd) ix j ++ [b - dr]) := Lib.hid (exK_ne HLJ.out hjx)
                have hq8 : q ≤ 8 := by omega
                have HR2 : Hid ((j + 1 ≤ ix ∧ o = -1 ∧ q + 1 = j + 1) ∨ (ix < j + 1 ∧ o = ix ∧ q + 1 + 1 = j + 1)) := Lib.hid (by omega)
                by_cases hlx : j < ix
                · have hbd : ¬ b = dr := HIJ.out.1 hlx
                  have hbb : (b == dr) = false := by simp [hbd]
                  have hoj : o = -1 := by omega
                  subst hoj
                  clear ho hjx hlx hbd
                  go_wp2_with (first
                    | (at_builtin; refine wpList_push_at _ rfl (.tmp 92) (.tmp 97) _ rfl X 3 _ _ Tryd.underlying22 infoI rfl (by decide) _ _ _ rfl R18 (.int .i64 g) rfl rfl (by omega) hX2 ?_; intro v18' w1 R18' g18 far18
                       have R19' := Row.apart R19 g18 HAPN.out.symm
                       have hB3 := hB2.grown g18 hX2 (fun b hb => (R18.lt b hb).1)
                       have hb3 : X ≤ w1.heap.size := by have := hB3.size; omega
                       have HAP1 := Lib.hid (Apart.far HAPN.out.symm far18 (fun b hb => (R19.lt b hb).2))
                       have hcx1 := RI.cellAt (RI10a.below (show Below W2.heap.size W2 w1 by rw [hX]; exact hB3)) HBb.out)
                    | (at_builtin; refine wpList_push_at _ rfl (.tmp 99) (.tmp 106) _ rfl X 3 _ _ Tryd.underlying22 infoI rfl (by decide) _ _ _ rfl R19' (.int .i64 (b - dr)) rfl rfl (by omega) hb3 ?_; intro v19' w2 R19'' g19 far19))
                  go_roundw
                  case rel => exact ⟨j + 1, q + 1, -1, by omega, by go_num, rfl, HR2.out, by rw [H18.out, List.map_append]; exact Row.apart R18' g19 HAP1.out.symm, by rw [H19.out, List.map_append]; exact R19'', Lib.hid (Apart.far HAP1.out.symm far19 (fun b hb => (R18'.lt b hb).2)), hB3.grown g19 hb3 (fun b hb => (R19'.lt b hb).1)⟩
                  case measure => simp [intOf]; omega
                · have hoj : 0 ≤ o := by omega
                  clear ho hjx hlx
                  go_wp2_with (first
                    | (at_builtin; refine wpList_push_at _ rfl (.tmp 92) (.tmp 97) _ rfl X 3 _ _ Tryd.underlying22 infoI rfl (by decide) _ _ _ rfl R18 (.int .i64 g) rfl rfl (by omega) hX2 ?_; intro v18' w1 R18' g18 far18
                       have R19' := Row.apart R19 g18 HAPN.out.symm
                       have hB3 := hB2.grown g18 hX2 (fun b hb => (R18.lt b hb).1)
                       have hb3 : X ≤ w1.heap.size := by have := hB3.size; omega
                       have HAP1 := Lib.hid (Apart.far HAPN.out.symm far18 (fun b hb => (R19.lt b hb).2))
                       have hcx1 := RI.cellAt (RI10a.below (show Below W2.heap.size W2 w1 by rw [hX]; exact hB3)) HBb.out)
                    | (at_builtin; refine wpList_push_at _ rfl (.tmp 99) (.tmp 106) _ rfl X 3 _ _ Tryd.underlying22 infoI rfl (by decide) _ _ _ rfl R19' (.int .i64 (b - dr)) rfl rfl (by omega) hb3 ?_; intro v19' w2 R19'' g19 far19))
                  go_roundw
                  case rel => exact ⟨j + 1, q + 1, o, by omega, by go_num, rfl, HR2.out, by rw [H18.out, List.map_append]; exact Row.apart R18' g19 HAP1.out.symm, by rw [H19.out, List.map_append]; exact R19'', Lib.hid (Apart.far HAP1.out.symm far19 (fun b hb => (R18'.lt b hb).2)), hB3.grown g19 hb3 (fun b hb => (R19'.lt b hb).1)⟩
                  case measure => simp [intOf]; omega
            · obtain rfl : j = nr := by omega
              have hq8 : q + 1 = j := by omega
              have F18 := Lib.hid R18.form
              have F19 := Lib.hid R19.form
              obtain ⟨A18, c18, rfl, _, _⟩ := F18.out
              obtain ⟨A19, c19, rfl, _, _⟩ := F19.out
              rw [← HRF.out] at R18
              rw [← HRS.out] at R19
              have R18b := R18.base_down (show w.heap.size ≤ X by omega)
              have R19b := R19.base_down (show w.heap.size ≤ X by omega)
              have hbw := hBw.size
              have hcx := RI.cellAt (hc.below hBw) HX.out
              clear ho R18 R19 F18 F19
              go_wp2_with (first
                | (at_builtin; refine wpList_push_at _ rfl (.tmp 110) (.tmp 112) _ rfl w.heap.size 3 _ _ Tryd.underlying22 infoI rfl (by decide) _ _ _ rfl R18b (.int .i64 p) rfl rfl (by omega) hbw ?_; intro v9' w1 R9' g9 far9
                   have R10' := Row.apart R19b g9 HAPN.out.symm
                   have hB3 := hBw.grown g9 hbw (fun b hb => (R18b.lt b hb).1)
                   have hb3 := hB3.size
                   have HAP1 := Lib.hid (Apart.far HAPN.out.symm far9 (fun b hb => (R19b.lt b hb).2))
                   have hcx1 := RI.cellAt (hc.below hB3) HX.out)
                | (at_builtin; refine wpList_push_at _ rfl (.tmp 114) (.tmp 119) _ rfl w.heap.size 3 _ _ Tryd.underlying22 infoI rfl (by decide) _ _ _ rfl R10' (.int .i64 x) rfl rfl (by omega) hb3 ?_; intro v10' w2 R10'' g10 far10))
              have F9 := Lib.hid R9'.form
              have F10 := Lib.hid R10''.form
              have HAP3 := Lib.hid (Apart.far HAP1.out.symm far10 (fun b hb => (R9'.lt b hb).2))
              have R9'' := Row.apart R9' g10 HAP1.out.symm
              have hB4 := hB3.grown g10 hb3 (fun b hb => (R10'.lt b hb).1)
              go_roundw
              case rel =>
                obtain ⟨A9', c9', e9, _, _⟩ := F9.out
                obtain ⟨A10', c10', e10, _, _⟩ := F10.out
                exact ⟨k + 1, q + 1, c9', c10', A9', A10', sum + x, _, by omega, by go_num, rfl, e9, e10, HN2, by rw [List.map_append, List.map_append]; exact R9'', by rw [List.map_append, List.map_append]; exact R10'', HAP3, hB4⟩
              case measure => simp [intOf]; omega
        · have HN2 : Hid (landRun cost s (l.take (k + 1)) = (sum + x, H ++ [((p : Int), x)])) := Lib.hid (by rw [HSTEP.out, land_room hm (by rw [HHL.out]; exact hfull), HXD.out])
          have hfb : ((z : Int) == (s : Int)) = false := by simp; omega
          rw [HB.out]
          clear hm
          go_wp2_with (first
            | (at_builtin; refine wpList_push_at _ rfl (.tmp 110) (.tmp 112) _ rfl w.heap.size 3 _ _ Tryd.underlying22 infoI rfl (by decide) _ _ _ rfl R9 (.int .i64 p) rfl rfl (by omega) hbs ?_; intro v9' w1 R9' g9 far9
               have R10' := Row.apart R10 g9 HAP.out.symm
               have hB1 := hB.grown g9 hbs (fun b hb => (R9.lt b hb).1)
               have hb1 := hB1.size
               have HAP1 := Lib.hid (Apart.far HAP.out.symm far9 (fun b hb => (R10.lt b hb).2))
               have hcx1 := RI.cellAt (hc.below hB1) HX.out)
            | (at_builtin; refine wpList_push_at _ rfl (.tmp 114) (.tmp 119) _ rfl w.heap.size 3 _ _ Tryd.underlying22 infoI rfl (by decide) _ _ _ rfl R10' (.int .i64 x) rfl rfl (by omega) hb1 ?_; intro v10' w2 R10'' g10 far10))
          have F9 := Lib.hid R9'.form
          have F10 := Lib.hid R10''.form
          have HAP3 := Lib.hid (Apart.far HAP1.out.symm far10 (fun b hb => (R9'.lt b hb).2))
          have R9'' := Row.apart R9' g10 HAP1.out.symm
          have hB2 := hB1.grown g10 hb1 (fun b hb => (R10'.lt b hb).1)
          go_roundw
          case rel =>
            obtain ⟨A9', c9', e9, _, _⟩ := F9.out
            obtain ⟨A10', c10', e10, _, _⟩ := F10.out
            exact ⟨k + 1, z + 1, c9', c10', A9', A10', sum + x, _, by omega, by go_num, rfl, e9, e10, HN2, by rw [List.map_append, List.map_append]; exact R9'', by rw [List.map_append, List.map_append]; exact R10'', HAP3, hB2⟩
          case measure => simp [intOf]; omega
    · obtain rfl : k = n := by omega
      have HE : Hid (landRun cost s l = (sum, H)) := Lib.hid (by have := HF.out; rwa [List.take_of_length_le (by rw [HL.out]; omega)] at this)
      go_wp2
      exact bodyPost_ret (v := .tuple #[.int .i64 sum, .slice A9 z c9, .slice A10 z c10]) (by simp [results, Tryd.results26, go_sem]) rfl ⟨A9, z, c9, A10, c10, by rw [HE.out], by rw [HE.out]; exact R9, by rw [HE.out]; exact R10, by omega, hB⟩
end Go.Proofs.YtmeamgeojcbljaaDoor
