/- The walk of larderwickref1.LeastServers: the least way, by a table of where servers are. -/
import Derived.Test.YtmeamgeojcbljaaDoorTables
import Derived.Test.YtmeamgeojcbljaaDoorRefServePlain
import Derived.Test.YtmeamgeojcbljaaDoorServeChk
import Derived.Test.YtmeamgeojcbljaaDoorServeAbs
import Derived.IntWalk
namespace Go.Proofs.YtmeamgeojcbljaaDoor
open Go.ChangeShapes Go.WideShapes Go.ChangeAt Go.RowKit

theorem bound_setS {T : List Int} {t : Nat} {u x M : Int} (h : ∀ v ∈ T, -1 ≤ v ∧ v ≤ M) (hu : T[t]? = some u) (hx : 0 ≤ x ∧ x ≤ M) : ∀ v ∈ T.set t (lessI u x), -1 ≤ v ∧ v ≤ M := by
  intro v hv
  rcases List.mem_or_eq_of_mem_set hv with hv | rfl
  · exact h v hv
  · have := h u (List.mem_of_getElem? hu)
    unfold lessI
    split <;> omega
theorem still_tlS {P : Program} {id : Nat} {Q : Exit → Act → World → Prop} {a : Act} {w : World} {l : List Oper} (n : Nat) (hm : P.follows .mixedOrders = true) (hB : Region.lexTailB .any l.toArray n = true)
    (h : wpStill P l.toArray w.drew (fun a' => wpList P l.toArray Q (l.drop n) a' w.drew) (l.take n) a) : (Code.region id l.toArray true).wp P Q a w := wp_region_still_tail n hm hB h
theorem pow13 {k : Nat} (h : k ≤ 3) : 1 ≤ 13 ^ k ∧ 13 ^ k ≤ 2197 := ⟨Nat.one_le_pow _ _ (by omega), by have := Nat.pow_le_pow_right (n := 13) (by omega) h; simpa using this⟩
theorem minT_takeS {T : List Int} {k : Nat} {x : Int} (h : T[k]? = some x) : minT (T.take (k + 1)) = if 0 ≤ x then lessI (minT (T.take k)) x else minT (T.take k) := by
  rw [List.take_add_one, h, Option.toList_some, minT_snoc]

set_option maxRecDepth 100000 in
set_option maxHeartbeats 4000000 in
theorem rsleast_ok (A Ac : Option Addr) (n c m cc : Nat) (s a : List Int) (w : World) (h : RI w A n s) (hc : RI w Ac m a) (hg : GoodS s a) :
    Calls Tryd.prog 41 #[.slice A n c, .slice Ac m cc] w fun e w' => ∃ T, e = .returned (.int .i64 (minT T)) ∧ Tab (RD n s a) T ∧ Below w.heap.size w w' := by
  have HL := Lib.hid h.len
  have HM := Lib.hid hc.len
  have hn3 : n ≤ 3 := by have := h.len; have := hg.2.1; omega
  have hm20 : m ≤ 20 := by have := hc.len; have := hg.2.2.1; omega
  have HON := Lib.hid (show onL n s from ⟨h.len, hg.2.2.2.1⟩)
  have HAI := Lib.hid (show ∀ y ∈ a, 0 ≤ y ∧ y ≤ 12 from hg.2.2.2.2)
  clear hg
  obtain ⟨N, hN⟩ : ∃ N, 13 ^ n = N := ⟨_, rfl⟩
  have hNb : 1 ≤ N ∧ N ≤ 2197 := by rw [← hN]; exact pow13 hn3
  have HN := Lib.hid hN
  have HEN : Hid (encN s < N) := Lib.hid (by have := encN_lt HON.out.2; rw [HON.out.1, hN] at this; exact this)
  clear hN
  have hmk : ∀ w : World, (Instr.makeSlice 22 (.int .i64 (N : Int)) (.int .i64 (N : Int))).run Tryd.prog w = .ok (.slice (some ⟨w.heap.size, 0, none⟩) N N) (w.alloc (.cells (madeCells #[.int .i64 0] N) 3)) := made_run N (by omega)
  have R0 := TabRow.made w N (by omega)
  have hB0 := (Below.refl w.heap.size w).alloc (Nat.le_refl _) (.cells (madeCells #[.int .i64 0] N) 3)
  have HF0 : Hid (∀ s, s < N → (List.replicate N (0 : Int))[s]? = some (if True ∧ s < 0 then -1 else 0)) := Lib.hid (fun s hs => by rw [List.getElem?_replicate, if_pos hs, if_neg (by omega)])
  go_enter Tryd.func41, Tryd.ntmps41
  go_wp2
  go_loop [5, 6] (fun v5 i => ∃ k q : Nat, k ≤ n ∧ i = .int .i64 k ∧ v5 = .int .i64 q ∧ Hid (q = 13 ^ k) ∧ q ≤ 2197) (fun _ i => n - (intOf i).toNat)
  case atStart => exact ⟨0, 1, by omega, by go_num, by go_num, Lib.hid rfl, by omega⟩
  case round =>
    obtain ⟨k, q, hk, rfl, rfl, HQ, hq⟩ := hrel
    by_cases hlt : k < n
    · have HQ2 : Hid (q * 13 = 13 ^ (k + 1)) := Lib.hid (by rw [HQ.out, Nat.pow_succ])
      have hq2 : q * 13 ≤ 2197 := by rw [HQ2.out]; exact (pow13 (by omega)).2
      go_wp2
      go_round
      case rel => exact ⟨k + 1, q * 13, by omega, by go_num, by simp, HQ2, hq2⟩
      case measure => simp [intOf]; omega
    · obtain rfl : k = n := by omega
      obtain rfl : q = N := HQ.out.trans HN.out
      clear HQ hq hk hlt
      go_wp2
      go_loopw [8] (fun i wr => ∃ (e : Nat) (T : List Int), e ≤ q ∧ i = .int .i64 e ∧ TabRow wr w.heap.size q T ∧ Hid (∀ s, s < q → T[s]? = some (if True ∧ s < e then -1 else 0)) ∧ Below w.heap.size w wr) (fun i _ => q - (intOf i).toNat)
      case atStart => exact ⟨0, _, by omega, by go_num, R0, HF0, hB0⟩
      case round =>
        obtain ⟨W0, hW0⟩ : ∃ W0, W0 = wr := ⟨_, rfl⟩
        subst hW0
        obtain ⟨e, T, he, rfl, hT, hF, hB⟩ := hrel
        by_cases hlt : e < q
        · obtain ⟨u, hu, hcu⟩ := hT.at_ hlt
          have hfu := hT.frozen e
          obtain ⟨s1, s2⟩ := hT.store e (-1)
          have hF2 := Lib.hid (fill_set (p := fun _ => True) hT.1 hF.out hlt trivial)
          have hB2 := hB.grown s2 hB.size (fun b hb => by injection hb with hb; omega)
          have S1 := Lib.hid s1
          clear s1 s2 hu
          go_wp2
          go_roundw
          case rel => exact ⟨e + 1, _, by omega, by go_num, S1.out, hF2, hB2⟩
          case measure => simp [intOf]; omega
        · obtain rfl : e = q := by omega
          have HTR := Lib.hid (fill_all hT.1 hF.out)
          have hs0 := h.below hB
          clear hF R0 hB0 HF0 he hlt
          go_wp2
          go_loop [9, 10] (fun v9 i => ∃ j f : Nat, j ≤ k ∧ i = .int .i64 j ∧ v9 = .int .i64 f ∧ Hid (f = encN (s.take j)) ∧ f ≤ 2197) (fun _ i => k - (intOf i).toNat)
          case atStart => exact ⟨0, 0, by omega, by go_num, by go_num, Lib.hid rfl, by omega⟩
          case round =>
            obtain ⟨j, f, hj, rfl, rfl, HFI, hf⟩ := hrel
            by_cases hlj : j < k
            · obtain ⟨ad, y, rfl, HY, hcy⟩ := hs0.at_ hlj
              have hyb := HON.out.2 y (mem_of_at HY.out)
              obtain ⟨p, rfl⟩ : ∃ p : Nat, y = p := ⟨y.toNat, by omega⟩
              have HFI2 : Hid (f * 13 + p = encN (s.take (j + 1))) := Lib.hid (by rw [take_succ_of HY.out, encN_snoc, ← HFI.out]; simp)
              have hf2 : f * 13 + p ≤ 2197 := by
                have h1 := encN_lt (t := s.take (j + 1)) (fun y hy => HON.out.2 y (List.mem_of_mem_take hy))
                rw [← HFI2.out] at h1
                have h2 := (pow13 (k := (s.take (j + 1)).length) (by rw [List.length_take]; omega)).2
                omega
              go_wp2
              go_round
              case rel => exact ⟨j + 1, f * 13 + p, by omega, by go_num, by simp, HFI2, hf2⟩
              case measure => simp [intOf]; omega
            · obtain rfl : j = k := by omega
              have hfe : f = encN s := by have := HFI.out; rwa [List.take_of_length_le (by rw [HL.out]; omega)] at this
              have hfq : f < e := by have := HEN.out; omega
              obtain ⟨u, hu, hcu⟩ := hT.at_ hfq
              have hfu := hT.frozen f
              obtain ⟨s1, s2⟩ := hT.store f 0
              have HT0 : Hid (Tab (RD j s (a.take 0)) (T.set f 0)) := Lib.hid (by rw [HTR.out, hfe, List.take_zero]; exact serve_tab_start HON.out HEN.out)
              have HBD0 : Hid (∀ v ∈ T.set f 0, -1 ≤ v ∧ v ≤ 12 * ((0 : Nat) : Int)) := Lib.hid (fun v hv => by
                rcases List.mem_or_eq_of_mem_set hv with hv | rfl
                · rw [HTR.out] at hv; have := List.eq_of_mem_replicate hv; omega
                · omega)
              have hB2 := Lib.hid (hB.grown s2 hB.size (fun b hb => by injection hb with hb; omega))
              have S1 := Lib.hid s1
              clear s1 s2 hu hfe HFI hf hs0
              go_wp2
              go_loopw [7, 11] (fun v7 i wr => ∃ (i0 g : Nat) (T : List Int), i0 ≤ m ∧ i = .int .i64 i0 ∧ v7 = .slice (some ⟨g, 0, none⟩) e e ∧ w.heap.size ≤ g ∧ TabRow wr g e T ∧ Hid (Tab (RD j s (a.take i0)) T) ∧ Hid (∀ v ∈ T, -1 ≤ v ∧ v ≤ 12 * (i0 : Nat)) ∧ Below w.heap.size w wr) (fun _ i _ => m - (intOf i).toNat)
              case atStart => exact ⟨0, w.heap.size, _, by omega, by go_num, rfl, Nat.le_refl _, S1.out, HT0, HBD0, hB2.out⟩
              case round =>
                clear S1 HT0 HBD0 hB2 hT hB HTR hcu hfu hfq
                obtain ⟨W1, hW1⟩ : ∃ W1, W1 = wr := ⟨_, rfl⟩
                subst hW1
                obtain ⟨i0, g, T, hi0, rfl, rfl, hgw, hT, HT, HBD, hB⟩ := hrel
                have hgl := hT.lt (by omega)
                by_cases hlm : i0 < m
                · obtain ⟨adc0, y, hadc0, HY, hcy0⟩ := (hc.below hB).at_ hlm
                  have hyb := HAI.out y (mem_of_at HY.out)
                  clear hcy0 hadc0 adc0
                  obtain ⟨X, hX⟩ : ∃ X, W1.heap.size = X := ⟨_, rfl⟩
                  have hgX : g < X := by omega
                  have R2 := TabRow.made W1 e (by omega)
                  have gB : Below W1.heap.size W1 (W1.alloc (.cells (madeCells #[.int .i64 0] e) 3)) := (Below.refl _ W1).alloc (Nat.le_refl _) _
                  have hmk1 := hmk W1
                  rw [hX] at R2 gB hmk1
                  go_wp2
                  go_loopw [13] (fun i wk => ∃ (b : Nat) (T2 : List Int), b ≤ e ∧ i = .int .i64 b ∧ TabRow wk X e T2 ∧ Hid (∀ s, s < e → T2[s]? = some (if True ∧ s < b then -1 else 0)) ∧ Below X W1 wk) (fun i _ => e - (intOf i).toNat)
                  case atStart => exact ⟨0, _, by omega, by go_num, R2, Lib.hid (fun s hs => by rw [List.getElem?_replicate, if_pos hs, if_neg (by omega)]), gB⟩
                  case round =>
                    clear R2 gB
                    obtain ⟨b, T2, hb, rfl, hT2, hF2, hB2⟩ := hrel
                    by_cases hlb : b < e
                    · obtain ⟨u, hu, hcu⟩ := hT2.at_ hlb
                      have hfu := hT2.frozen b
                      obtain ⟨s1, s2⟩ := hT2.store b (-1)
                      have hF3 := Lib.hid (fill_set (p := fun _ => True) hT2.1 hF2.out hlb trivial)
                      have hB3 := hB2.grown s2 (by have := hB2.size; omega) (fun b hb => by injection hb with hb; omega)
                      have S1 := Lib.hid s1
                      clear s1 s2 hu
                      go_wp2
                      go_roundw
                      case rel => exact ⟨b + 1, _, by omega, by go_num, S1.out, hF3, hB3⟩
                      case measure => simp [intOf]; omega
                    · obtain rfl : b = e := by omega
                      have HTR := Lib.hid (fill_all hT2.1 hF2.out)
                      have HA0 : Hid (Tab (AfD j y T 0) T2) := Lib.hid (by
                        rw [HTR.out]
                        exact (tab_none _).congr fun t c => ⟨fun h => h.elim, fun ⟨_, _, _, h, _⟩ => by omega⟩)
                      have HAB : Hid (∀ v ∈ T2, -1 ≤ v ∧ v ≤ 12 * ((i0 + 1 : Nat) : Int)) := Lib.hid (fun v hv => by
                        rw [HTR.out] at hv; have := List.eq_of_mem_replicate hv; omega)
                      have hTs := hT2
                      have hBs := hB2
                      clear hT2 hB2 hF2 hmk1 HTR hb hlb
                      go_wp2
                      go_loopw [14] (fun i wk => ∃ (k : Nat) (T2 : List Int), k ≤ b ∧ i = .int .i64 k ∧ TabRow wk X b T2 ∧ Hid (Tab (AfD j y T k) T2) ∧ Hid (∀ v ∈ T2, -1 ≤ v ∧ v ≤ 12 * ((i0 + 1 : Nat) : Int)) ∧ Below X W1 wk) (fun i _ => b - (intOf i).toNat)
                      case atStart => exact ⟨0, T2, by omega, by go_num, hTs, HA0, HAB, hBs⟩
                      case round =>
                        clear hTs HA0 HAB hBs T2
                        obtain ⟨wk, hwk⟩ : ∃ wk, wk = wr := ⟨_, rfl⟩
                        subst hwk
                        obtain ⟨k, T2, hk, rfl, hT2, HA, HAB, hB2⟩ := hrel
                        have hBw : Below w.heap.size w wk := hB.trans (hB2.mono (by have := hB.size; omega))
                        by_cases hlk : k < b
                        · obtain ⟨v, hv, hcv⟩ := (hT.kept (hB2.block g hgX)).at_ hlk
                          have hvb := HBD.out v (List.mem_of_getElem? hv)
                          have HV := Lib.hid hv
                          have HSU := Lib.hid (fun t c => afD_succ (n := j) (x := y) hv t c)
                          clear hv
                          by_cases hv0 : v < 0
                          · have HA2 : Hid (Tab (AfD j y T (k + 1)) T2) := Lib.hid (HA.out.congr fun t c => by rw [HSU.out]; exact ⟨.inl, fun h => h.elim id (fun h => by omega)⟩)
                            go_wp2
                            go_roundw
                            case rel => exact ⟨k + 1, T2, by omega, by go_num, hT2, HA2, HAB, hB2⟩
                            case measure => simp [intOf]; omega
                          · have hv240 : v ≤ 240 := by omega
                            have hv00 : 0 ≤ v := by omega
                            have HJ0 : Hid (Tab (AfE j y T k v 0) T2) := Lib.hid (HA.out.congr fun t c => ⟨.inl, fun h => h.elim id (fun ⟨_, h, _⟩ => by omega)⟩)
                            have HALL := Lib.hid (fun t c => afE_all (n := j) (x := y) (T := T) (by rw [HN.out]; exact hlk) HV.out hv00 t c)
                            have HDT := Lib.hid (fun i (hi : i < j) => dig_to hn3 (k := k) (by rw [HN.out]; exact hlk) hyb hi)
                            have hTs := hT2
                            have hAs := HAB
                            have hBs := hB2
                            clear hT2 HA HAB hB2 hBw
                            go_wp2
                            go_loopw [15, 16] (fun v15 ii wz => ∃ (i z : Nat) (T3 : List Int), i ≤ j ∧ ii = .int .i64 i ∧ v15 = .int .i64 z ∧ Hid (z = 13 ^ i) ∧ 1 ≤ z ∧ z ≤ 2197 ∧ TabRow wz X b T3 ∧ Hid (Tab (AfE j y T k v i) T3) ∧ Hid (∀ v ∈ T3, -1 ≤ v ∧ v ≤ 12 * ((i0 + 1 : Nat) : Int)) ∧ Below X W1 wz) (fun _ ii _ => j - (intOf ii).toNat)
                            case atStart => exact ⟨0, 1, T2, by omega, by go_num, by go_num, Lib.hid rfl, by omega, by omega, hTs, HJ0, hAs, hBs⟩
                            case round =>
                              clear hTs HJ0 hAs hBs hcv
                              obtain ⟨wz, hwz⟩ : ∃ wz, wz = wr := ⟨_, rfl⟩
                              subst hwz
                              obtain ⟨i, z, T3, hij, rfl, rfl, HZ, hz1, hz2, hT3, HJ, HAB3, hB3⟩ := hrel
                              by_cases hi : i < j
                              · have hz169 : z ≤ 169 := by rw [HZ.out]; have := Nat.pow_le_pow_right (n := 13) (by omega) (show i ≤ 2 by omega); simpa using this
                                have HZ2 : Hid (z * 13 = 13 ^ (i + 1)) := Lib.hid (by rw [HZ.out, Nat.pow_succ])
                                have hBz : Below w.heap.size w wz := hB.trans (hB3.mono (by have := hB.size; omega))
                                obtain ⟨adc, y', rfl, HY', hcy⟩ := (hc.below hBz).at_ hlm
                                obtain ⟨v', hv', hcv⟩ := (hT.kept (hB3.block g hgX)).at_ hlk
                                obtain rfl : v' = v := by have := hv'.symm.trans HV.out; injection this
                                obtain rfl : y' = y := by have := HY'.out.symm.trans HY.out; injection this
                                clear hv'
                                have hXs := hB3.size
                                obtain ⟨qz, hqz⟩ : ∃ qz : Nat, k / z = qz := ⟨_, rfl⟩
                                have hqzi : (k : Int) / (z : Int) = (qz : Int) := by rw [← hqz]; exact (Int.natCast_ediv k z).symm
                                have hqzb : qz ≤ 2197 := by rw [← hqz]; exact Nat.le_trans (Nat.div_le_self k z) (by omega)
                                obtain ⟨dg, hdg⟩ : ∃ dg : Nat, qz % 13 = dg := ⟨_, rfl⟩
                                have hdgi : (qz : Int) % 13 = (dg : Int) := by omega
                                have hdg12 : dg ≤ 12 := by omega
                                have HDG : Hid (k / 13 ^ i % 13 = dg) := Lib.hid (by rw [← HZ.out, hqz, hdg])
                                obtain ⟨d1, d2⟩ := HDT.out i hi
                                rw [HDG.out, ← HZ.out] at d1 d2
                                rw [HN.out] at d2
                                obtain ⟨mm, hmm⟩ : ∃ mm : Int, (y' - (dg : Int)) * (z : Int) = mm := ⟨_, rfl⟩
                                rw [hmm] at d1 d2
                                obtain ⟨kz, hkz⟩ : ∃ kz : Nat, (k : Int) + mm = (kz : Int) := ⟨((k : Int) + mm).toNat, by omega⟩
                                have hkzb : kz < b := by omega
                                clear d1 d2 hqz hdg
                                obtain ⟨ab, hab⟩ : ∃ ab, absI (dg : Int) y' = ab := ⟨_, rfl⟩
                                have habb : 0 ≤ ab ∧ ab ≤ 12 := by rw [← hab]; exact absI_in (by omega) hyb
                                obtain ⟨u, hu, hcu⟩ := hT3.at_ hkzb
                                have hfu := hT3.frozen kz
                                have HJ2 : Hid (Tab (AfE j y' T k v' (i + 1)) (T3.set kz (lessI u (v' + ab)))) := Lib.hid ((HJ.out.upd hu (x := v' + ab) (by omega)).congr fun t c => by
                                  rw [afE_succ, HDG.out, ← HZ.out, hmm, hab, hkz]
                                  constructor
                                  · rintro (h | ⟨rfl, rfl⟩)
                                    · exact .inl h
                                    · exact .inr ⟨rfl, rfl⟩
                                  · rintro (h | ⟨e1, rfl⟩)
                                    · exact .inl h
                                    · exact .inr ⟨by exact_mod_cast e1, rfl⟩)
                                have HAB2 := Lib.hid (bound_setS HAB3.out hu (x := v' + ab) ⟨by omega, by omega⟩)
                                have HABS := Lib.hid (rabs_ok (dg : Int) y' wz.drew (by omega) hyb)
                                rw [hab] at HABS
                                obtain ⟨x, hx⟩ : ∃ x, v' + ab = x := ⟨_, rfl⟩
                                have hx20 : 0 ≤ x ∧ x ≤ 260 := by omega
                                obtain ⟨r, hr⟩ : ∃ r, lessI u x = r := ⟨_, rfl⟩
                                have HLS := lesser_i u x wz.drew
                                rw [hx] at HJ2 HAB2
                                rw [hr] at HLS HJ2 HAB2
                                have HLS' := Lib.hid HLS
                                obtain ⟨st1, st2⟩ := hT3.store kz r
                                have ST1 := Lib.hid st1
                                have hB4 := Lib.hid (hB3.grown st2 (by omega) (fun b hb => by injection hb with hb; omega))
                                have HMM := Lib.hid hmm
                                clear HLS hr st1 st2 hu hab
                                go_wp2
                                refine still_tlS 18 (by kernel_rfl) (by kernel_rfl) ?_
                                simp only [List.take_succ_cons, List.take_zero, List.drop_succ_cons, List.drop_zero]
                                have e0 : (0 : Int) ≤ (k : Int) := by omega
                                have e1 : (k : Int) < (b : Int) := by omega
                                have e2 : (0 : Int) ≤ (kz : Int) := by omega
                                have e3 : (kz : Int) < (b : Int) := by omega
                                have e4 : (0 : Int) ≤ (i0 : Int) := by omega
                                have e5 : (i0 : Int) < (m : Int) := by omega
                                have e6 : IntKind.i64.wrap (v' + ab) = x := by rw [hx]; exact IntWalk.i64_in _ (by omega)
                                have e7 : IntKind.i64.wrap x = x := IntWalk.i64_in _ (by omega)
                                repeat still_step
                                still_call HABS.out
                                repeat still_step
                                still_call HLS'.out
                                repeat still_step
                                refine wpStill_nil ?_
                                clear e0 e1 e2 e3 e4 e5 e6 e7
                                go_wp2
                                go_roundw
                                case rel => exact ⟨i + 1, z * 13, _, by omega, by go_num, by simp, HZ2, by omega, by omega, ST1.out, HJ2, HAB2, belowN hB4.out 1⟩
                                case measure => simp [intOf]; omega
                              · obtain rfl : i = j := by omega
                                have HA2 : Hid (Tab (AfD i y T (k + 1)) T3) := Lib.hid (HJ.out.congr fun t c => HALL.out t c)
                                go_wp2
                                go_roundw
                                case rel => exact ⟨k + 1, T3, by omega, by go_num, hT3, HA2, HAB3, hB3⟩
                                case measure => simp [intOf]; omega
                        · obtain rfl : k = b := by omega
                          have HTn : Hid (Tab (RD j s (a.take (i0 + 1))) T2) := Lib.hid (serve_tab_step hn3 HON.out HY.out HAI.out HT.out (HA.out.congr fun t c => ⟨fun ⟨s, v, d, _, h2, h3, h4, h5⟩ => ⟨s, v, d, h2, h3, h4, h5⟩, fun ⟨s, v, d, h2, h3, h4, h5⟩ => ⟨s, v, d, by have := h4.1; rw [HN.out] at this; exact this, h2, h3, h4, h5⟩⟩))
                          go_wp2
                          go_roundw
                          case rel => exact ⟨i0 + 1, X, T2, by omega, by go_num, rfl, by have := hB.size; omega, hT2, HTn, HAB, hBw⟩
                          case measure => simp [intOf]; omega
                · obtain rfl : i0 = m := by omega
                  have HTf : Hid (Tab (RD j s a) T) := Lib.hid (by have := HT.out; rwa [List.take_of_length_le (by rw [HM.out]; omega)] at this)
                  have hTs := hT
                  have hBs := hB
                  clear hT HT hB HBD hmk
                  go_wp2
                  go_loopw [19, 20] (fun v19 ii wz => ∃ (k : Nat) (q : Int), k ≤ e ∧ ii = .int .i64 k ∧ v19 = .int .i64 q ∧ Hid (q = minT (T.take k)) ∧ TabRow wz g e T ∧ Below w.heap.size w wz) (fun _ ii _ => e - (intOf ii).toNat)
                  case atStart => exact ⟨0, -1, by omega, by go_num, rfl, Lib.hid rfl, hTs, hBs⟩
                  case round =>
                    clear hTs hBs
                    obtain ⟨wz, hwz⟩ : ∃ wz, wz = wr := ⟨_, rfl⟩
                    subst hwz
                    obtain ⟨k, q, hk, rfl, rfl, HQ, hT, hB⟩ := hrel
                    by_cases hlk : k < e
                    · obtain ⟨v, hv, hcv⟩ := hT.at_ hlk
                      have HV := Lib.hid (minT_takeS hv)
                      clear hv
                      by_cases hv0 : 0 ≤ v
                      · have HQ2 : Hid (lessI q v = minT (T.take (k + 1))) := Lib.hid (by rw [HV.out, if_pos hv0, HQ.out])
                        have HLS := Lib.hid (lesser_i q v wz)
                        go_wp2_with fail
                        refine HLS.out.mono ?_; rintro e w' ⟨rfl, rfl⟩
                        go_wp2
                        go_roundw
                        case rel => exact ⟨k + 1, lessI q v, by omega, by go_num, rfl, HQ2, hT, hB⟩
                        case measure => simp [intOf]; omega
                      · have HQ2 : Hid (q = minT (T.take (k + 1))) := Lib.hid (by rw [HV.out, if_neg hv0, HQ.out])
                        go_wp2
                        go_roundw
                        case rel => exact ⟨k + 1, q, by omega, by go_num, rfl, HQ2, hT, hB⟩
                        case measure => simp [intOf]; omega
                    · obtain rfl : k = e := by omega
                      have HQ2 : Hid (q = minT T) := Lib.hid (by rw [HQ.out, List.take_of_length_le (by rw [hT.1]; omega)])
                      go_wp2
                      go_ret
                      exact ⟨T, by rw [HQ2.out]; rfl, HTf.out, hB⟩
end Go.Proofs.YtmeamgeojcbljaaDoor
