/- The walks of package wset: what each call returns, for every input. -/
import Derived.Test.YtmeamgeojcbljaaDoorInts
import Derived.Test.YtmeamgeojcbljaaDoorOnes
import Derived.Test.YtmeamgeojcbljaaDoorSame
import Derived.Test.YtmeamgeojcbljaaDoorInfo
import Derived.Test.YtmeamgeojcbljaaDoorWsetPlain
import Derived.Outline
namespace Go.Proofs.YtmeamgeojcbljaaDoor
open Go.ChangeShapes Go.WideShapes Go.ChangeAt Go.RowKit

theorem set_loop_lt {n f k : Nat} (h : k < n - f) : f + k < n := by omega

set_option maxHeartbeats 1000000 in
theorem set_any (A : Option Addr) (n c : Nat) (l : List Int) (v : Nat) (w : World) (h : RI w A n l) (hnc : n ≤ c) (hn : n ≤ 40) (ha : AllIn l 0 15) (hv1 : 1 ≤ v) (hv2 : v ≤ 40) :
    Calls Tryd.prog 54 #[.slice A n c, .int .i64 v] w fun e w' => e = .returned (.int .u64 ((mask (lastW l v) : Nat) : Int)) ∧ w = w' := by
  have HL := Lib.hid h.len
  have HA := Lib.hid ha
  clear ha
  by_cases hn0 : n = 0
  · have HE := Lib.hid (show mask (lastW l v) = 0 by
      have : l = [] := List.eq_nil_of_length_eq_zero (HL.out.trans hn0)
      subst this; simp [lastW, mask])
    subst hn0
    have g1 : (0 : Int) - v < 0 := by omega
    go_enter Tryd.func54, Tryd.ntmps54
    go_wp2
    go_loop [5, 7, 16] (fun s _ i => i = .int .i64 0 ∧ s = .int .u64 0) (fun _ _ _ => 0)
    case atStart => exact ⟨rfl, rfl⟩
    case round =>
      obtain ⟨rfl, rfl⟩ := hrel
      go_wp2
      go_ret
      rw [HE.out]
      exact ⟨rfl, rfl⟩
  · obtain ⟨f, hf⟩ : ∃ f, f = n - v := ⟨_, rfl⟩
    have HF := Lib.hid (show l.drop f = lastW l v by unfold lastW; rw [HL.out, hf])
    have hfn : f < n := by omega
    have hx := RI.cut h (k := f) (cap := c) (by omega) hnc
    have hcf : ¬ c = f := by omega
    rw [if_neg hcf] at hx
    have i0 : (0 : Int) ≤ f := by omega
    have i1 : (f : Int) ≤ n := by omega
    by_cases hvn : v < n
    · obtain rfl : n = f + v := by omega
      have hfp : 0 < f := by omega
      have hfp' : (0 : Int) < f := by omega
      rw [Nat.add_sub_cancel_left] at hx
      have hx' : RI w (A.map (·.add f)) v (lastW l v) := by rw [← HF.out]; exact hx
      have HX := Lib.hid hx'
      clear hx hx' hf hvn
      obtain ⟨ad0, _, rfl, _, _⟩ := h.at_ (k := 0) (by omega)
      go_wp2
      go_loop [5, 7, 16] (fun s _ i => ∃ k m : Nat, k ≤ v ∧ i = .int .i64 k ∧ s = .int .u64 (m : Nat) ∧ Hid (m = mask ((lastW l v).take k))) (fun _ _ i => v - (intOf i).toNat)
      case atStart => exact ⟨0, 0, by omega, by go_num, rfl, by simp [Hid, mask]⟩
      case round =>
        obtain ⟨k, m, hk, rfl, rfl, HM⟩ := hrel
        by_cases hlt : k < v
        · obtain ⟨ad, y, hA, HY, hc⟩ := HX.out.at_ hlt
          have hy := HA.out y (List.mem_of_mem_drop (mem_of_at HY.out))
          obtain ⟨p, rfl⟩ : ∃ p : Nat, y = p := ⟨y.toNat, by omega⟩
          have hp : p ≤ 15 := by omega
          clear hy
          have hm : m < 65536 := by rw [HM.out]; exact mask_lt _ (fun x hx => HA.out x (List.mem_of_mem_drop (List.mem_of_mem_take hx)))
          have HO := Lib.hid (or_pow_u64 hm hp)
          have HN := Lib.hid (show m ||| 2 ^ p = mask ((lastW l v).take (k + 1)) by rw [take_succ_of HY.out, mask_snoc, ← HM.out, Int.toNat_natCast])
          injection hA with hA
          subst hA
          go_wp2
          go_round
          case rel => exact ⟨k + 1, m ||| 2 ^ p, by omega, by go_num, by rw [HO.out], HN⟩
          case measure => simp [intOf]; omega
        · have HE := Lib.hid (show m = mask (lastW l v) by
            have := HM.out
            rwa [List.take_of_length_le (by rw [HX.out.len]; omega)] at this)
          go_wp2
          go_ret
          rw [HE.out]
          exact ⟨rfl, rfl⟩
    · have hf0 : f = 0 := by omega
      have g1 : ¬ (n : Int) - v > 0 := by omega
      have g2 : (n : Int) - v ≤ 0 := by omega
      have hx' : RI w A n (lastW l v) := by rw [← HF.out, hf0]; exact h
      have HX := Lib.hid hx'
      clear hx hx' hf hf0 HF
      go_wp2
      go_loop [5, 7, 16] (fun s _ i => ∃ k m : Nat, k ≤ n ∧ i = .int .i64 k ∧ s = .int .u64 (m : Nat) ∧ Hid (m = mask ((lastW l v).take k))) (fun _ _ i => n - (intOf i).toNat)
      case atStart => exact ⟨0, 0, by omega, by go_num, rfl, by simp [Hid, mask]⟩
      case round =>
        obtain ⟨k, m, hk, rfl, rfl, HM⟩ := hrel
        by_cases hlt : k < n
        · obtain ⟨ad, y, hA, HY, hc⟩ := HX.out.at_ hlt
          have hy := HA.out y (List.mem_of_mem_drop (mem_of_at HY.out))
          obtain ⟨p, rfl⟩ : ∃ p : Nat, y = p := ⟨y.toNat, by omega⟩
          have hp : p ≤ 15 := by omega
          clear hy
          have hm : m < 65536 := by rw [HM.out]; exact mask_lt _ (fun x hx => HA.out x (List.mem_of_mem_drop (List.mem_of_mem_take hx)))
          have HO := Lib.hid (or_pow_u64 hm hp)
          have HN := Lib.hid (show m ||| 2 ^ p = mask ((lastW l v).take (k + 1)) by rw [take_succ_of HY.out, mask_snoc, ← HM.out, Int.toNat_natCast])
          subst hA
          go_wp2
          go_round
          case rel => exact ⟨k + 1, m ||| 2 ^ p, by omega, by go_num, by rw [HO.out], HN⟩
          case measure => simp [intOf]; omega
        · have HE := Lib.hid (show m = mask (lastW l v) by
            have := HM.out
            rwa [List.take_of_length_le (by rw [HX.out.len]; omega)] at this)
          go_wp2
          go_ret
          rw [HE.out]
          exact ⟨rfl, rfl⟩

def GoodW (l : List Int) (v : Int) : Prop := GoodReqs l 1 ∧ 1 ≤ v ∧ v ≤ 40
noncomputable def wsetE (l : List Int) : Int := open Classical in if GoodReqs l 1 then 1 else reqsE l 1

theorem wcheck_ok (A : Option Addr) (n c : Nat) (l : List Int) (v : Int) (w : World) (h : RI w A n l) (hg : GoodW l v) :
    Calls Tryd.prog 18 #[.slice A n c, .int .i64 v] w fun e w' => e = .returned .nilIface ∧ w = w' := by
  obtain ⟨g1, g2, g3⟩ := hg
  have HG := Lib.hid g1
  clear g1
  go_enter Tryd.func18, Tryd.ntmps18
  go_wp2_with fail
  refine (reqs_ok _ _ _ _ _ _ h HG.out).mono ?_; rintro e w' ⟨rfl, rfl⟩
  go_wp2_with fail
  refine (within_ok _ _ _ _ g2 g3).mono ?_; rintro e w' ⟨rfl, rfl⟩
  go_wp2
  go_ret
  exact ⟨rfl, rfl⟩

theorem wcheck_no (A : Option Addr) (n c : Nat) (l : List Int) (v : Int) (w : World) (h : RI w A n l) (hn : n ≤ 9223372036854775807) (hg : ¬ GoodW l v) :
    Calls Tryd.prog 18 #[.slice A n c, .int .i64 v] w fun e w' => e = .returned (.iface 65 (.int .i64 (wsetE l))) ∧ w = w' := by
  by_cases h1 : GoodReqs l 1
  · have hv : v < 1 ∨ 40 < v := by
      by_cases a : 1 ≤ v
      · by_cases b : v ≤ 40
        · exact absurd ⟨h1, a, b⟩ hg
        · omega
      · omega
    have HE := Lib.hid (show wsetE l = 1 by unfold wsetE; rw [if_pos h1])
    have HG := Lib.hid h1
    have HV := Lib.hid hv
    clear h1 hg hv
    go_enter Tryd.func18, Tryd.ntmps18
    go_wp2_with fail
    refine (reqs_ok _ _ _ _ _ _ h HG.out).mono ?_; rintro e w' ⟨rfl, rfl⟩
    go_wp2_with fail
    refine (within_no _ _ _ _ HV.out).mono ?_; rintro e w' ⟨rfl, rfl⟩
    go_wp2
    go_ret
    rw [HE.out]
    exact ⟨rfl, rfl⟩
  · have HE := Lib.hid (show wsetE l = reqsE l 1 by unfold wsetE; rw [if_neg h1])
    have HG := Lib.hid h1
    clear h1 hg
    go_enter Tryd.func18, Tryd.ntmps18
    go_wp2_with fail
    refine (reqs_no _ _ _ _ _ _ h hn HG.out).mono ?_; rintro e w' ⟨rfl, rfl⟩
    go_wp2
    go_ret
    rw [HE.out]
    exact ⟨rfl, rfl⟩

theorem sets_no (A : Option Addr) (n c : Nat) (l : List Int) (v : Int) (w : World) (h : RI w A n l) (hn : n ≤ 9223372036854775807) (hg : ¬ GoodW l v) :
    Calls Tryd.prog 22 #[.slice A n c, .int .i64 v] w fun e w' => e = .returned (.tuple #[.slice none 0 0, .iface 65 (.int .i64 (wsetE l))]) ∧ w = w' := by
  have HG := Lib.hid hg
  clear hg
  go_enter Tryd.func22, Tryd.ntmps22
  go_wp2_with fail
  refine (wcheck_no _ _ _ _ _ _ h hn HG.out).mono ?_; rintro e w' ⟨rfl, rfl⟩
  go_wp2
  go_ret2
  exact ⟨rfl, rfl⟩

theorem miss_no (A : Option Addr) (n c : Nat) (l : List Int) (v : Int) (w : World) (h : RI w A n l) (hn : n ≤ 9223372036854775807) (hg : ¬ GoodW l v) :
    Calls Tryd.prog 23 #[.slice A n c, .int .i64 v] w fun e w' => e = .returned (.tuple #[.int .i64 0, .int .i64 0, .iface 65 (.int .i64 (wsetE l))]) ∧ w = w' := by
  have HG := Lib.hid hg
  clear hg
  go_enter Tryd.func23, Tryd.ntmps23
  go_wp2_with fail
  refine (wcheck_no _ _ _ _ _ _ h hn HG.out).mono ?_; rintro e w' ⟨rfl, rfl⟩
  go_wp2
  go_ret3
  exact ⟨rfl, rfl⟩

set_option maxHeartbeats 1000000 in
theorem sets_ok (A : Option Addr) (n c : Nat) (l : List Int) (v : Int) (w : World) (h : RI w A n l) (hnc : n ≤ c) (hg : GoodW l v) :
    Calls Tryd.prog 22 #[.slice A n c, .int .i64 v] w fun e w' =>
      ∃ A1 c1, e = .returned (.tuple #[.slice A1 n c1, .nilIface]) ∧ Row w' w.heap.size 3 (.slice A1 n c1) n ((setsL l v.toNat n).map (Value.int .i64)) ∧ Below w.heap.size w w' := by
  obtain ⟨u, rfl⟩ : ∃ u : Nat, v = u := ⟨v.toNat, by have := hg.2.1; omega⟩
  have HL := Lib.hid h.len
  have HG := Lib.hid hg
  have hn : n ≤ 40 := by have := HL.out; have := hg.1.1; omega
  have hv1 : 1 ≤ u := by have := hg.2.1; omega
  have hv2 : u ≤ 40 := by have := hg.2.2; omega
  clear hg
  go_enter Tryd.func22, Tryd.ntmps22
  go_wp2_with fail
  refine (wcheck_ok _ _ _ _ _ _ h HG.out).mono ?_; rintro e w' ⟨rfl, rfl⟩
  go_wp2
  go_loopw [7, 8, 17] (fun v7 _ i wr => ∃ k : Nat, k ≤ n ∧ i = .int .i64 k ∧ Row wr w.heap.size 3 v7 k ((setsL l u k).map (Value.int .i64)) ∧ Below w.heap.size w wr) (fun _ _ i _ => n - (intOf i).toNat)
  case atStart => exact ⟨0, by omega, by go_num, Row.nil_ _ _ _, Below.refl _ _⟩
  case round =>
    obtain ⟨k, hk, rfl, R7, hB⟩ := hrel
    have hbs := hB.size
    by_cases hlt : k < n
    · have hk1 : k + 1 ≤ c := by omega
      have i1 : (k : Int) + 1 ≤ c := by omega
      have HS := Lib.hid (setsL_succ l u k)
      have HT := Lib.hid ((h.below hB).take (k := k + 1) (by omega))
      have hm : mask (lastW (l.take (k + 1)) u) < 65536 := mask_lt _ (fun x hx => HG.out.1.2.1 x (List.mem_of_mem_take (lastW_mem hx)))
      go_wp2_with fail
      refine (set_any _ _ _ _ _ _ HT.out hk1 (by omega) (fun x hx => HG.out.1.2.1 x (List.mem_of_mem_take hx)) hv1 hv2).mono ?_; rintro e w' ⟨rfl, rfl⟩
      generalize mask (lastW (l.take (k + 1)) u) = m at *
      go_wp2_with (at_builtin; refine wpList_push _ rfl (.tmp 20) (.tmp 28) _ rfl w.heap.size 3 _ _ Tryd.underlying22 infoI rfl (by decide) _ _ _ rfl R7 (.int .i64 (m : Nat)) rfl rfl (by omega) hbs ?_; intro v' w1 R7' g7)
      go_roundw
      case rel =>
        refine ⟨k + 1, by omega, by go_num, ?_, hB.grown g7 hbs (fun b hb => (R7.lt b hb).1)⟩
        rw [HS.out, List.map_append]; exact R7'
      case measure => simp [intOf]; omega
    · have HE := Lib.hid (show k = n by omega)
      have F7 := Lib.hid R7.form
      go_wp2
      go_ret2
      have e2 := HE.out
      subst e2
      obtain ⟨A1, c1, hv7, _, _⟩ := F7.out
      rw [Int.toNat_natCast]
      exact ⟨A1, c1, by rw [← hv7]; rfl, by rw [← hv7]; exact R7, hB⟩

theorem bit_u64 (m p : Nat) (hm : m < 65536) : bits BinOp.and IntKind.u64 ((m : Int) / 2 ^ p) 1 = ((if m.testBit p then 1 else 0 : Nat) : Int) := by
  have h1 : (m : Int) / 2 ^ p = ((m / 2 ^ p : Nat) : Int) := by simp
  have h2 : m / 2 ^ p ≤ m := Nat.div_le_self _ _
  rw [h1, show (1 : Int) = ((1 : Nat) : Int) from rfl, bits_u64 _ _ (by omega) (by omega), bit_and]

set_option maxHeartbeats 1000000 in
theorem miss_ok (A : Option Addr) (n c : Nat) (l : List Int) (v : Int) (w : World) (h : RI w A n l) (hnc : n ≤ c) (hg : GoodW l v) :
    Calls Tryd.prog 23 #[.slice A n c, .int .i64 v] w fun e w' =>
      e = .returned (.tuple #[.int .i64 ((missW l v.toNat n : Nat) : Int), .int .i64 ((sumW l v.toNat n : Nat) : Int), .nilIface]) ∧ w = w' := by
  obtain ⟨u, rfl⟩ : ∃ u : Nat, v = u := ⟨v.toNat, by have := hg.2.1; omega⟩
  have HL := Lib.hid h.len
  have HG := Lib.hid hg
  have hn : n ≤ 40 := by have := HL.out; have := hg.1.1; omega
  have hv1 : 1 ≤ u := by have := hg.2.1; omega
  have hv2 : u ≤ 40 := by have := hg.2.2; omega
  clear hg
  go_enter Tryd.func23, Tryd.ntmps23
  go_wp2_with fail
  refine (wcheck_ok _ _ _ _ _ _ h HG.out).mono ?_; rintro e w' ⟨rfl, rfl⟩
  go_wp2
  go_loop [4, 5, 8, 9, 18] (fun a b _ _ i => ∃ k q t : Nat, k ≤ n ∧ i = .int .i64 k ∧ a = .int .i64 (q : Nat) ∧ b = .int .i64 (t : Nat) ∧ q ≤ 40 ∧ t ≤ 1600 ∧ Hid (q = missW l u k ∧ t = sumW l u k)) (fun _ _ _ _ i => n - (intOf i).toNat)
  case atStart => exact ⟨0, 0, 0, by omega, by go_num, rfl, rfl, by omega, by omega, Lib.hid ⟨rfl, rfl⟩⟩
  case round =>
    obtain ⟨k, q, t, hk, rfl, rfl, rfl, hq, ht, HQ⟩ := hrel
    by_cases hlt : k < n
    · obtain ⟨ad, y, rfl, HY, hc⟩ := h.at_ hlt
      have hy := HG.out.1.2.1 y (mem_of_at HY.out)
      obtain ⟨p, rfl⟩ : ∃ p : Nat, y = p := ⟨y.toNat, by omega⟩
      have hp : p ≤ 15 := by omega
      clear hy
      have hk0 : k ≤ c := by omega
      have hk1 : k + 1 ≤ c := by omega
      have i0 : (k : Int) ≤ c := by omega
      have i1 : (k : Int) + 1 ≤ c := by omega
      have HT0 := Lib.hid (h.take (k := k) (by omega))
      have HT := Lib.hid (h.take (k := k + 1) (by omega))
      have HIN : Hid (∀ j, AllIn (lastW (l.take j) u) 0 15) := Lib.hid (fun j x hx => HG.out.1.2.1 x (List.mem_of_mem_take (lastW_mem hx)))
      have hm0 : mask (lastW (l.take k) u) < 65536 := mask_lt _ (HIN.out k)
      have hm1 : mask (lastW (l.take (k + 1)) u) < 65536 := mask_lt _ (HIN.out (k + 1))
      have HB := Lib.hid (bit_u64 _ p hm0)
      have HTB := Lib.hid (mask_bit _ (HIN.out k) (p : Int) (by omega))
      have HP := Lib.hid (mask_some _ (HIN.out (k + 1)))
      have HS : Hid (sumW l u (k + 1) = sumW l u k + someN (lastW (l.take (k + 1)) u)) := Lib.hid rfl
      have HM : Hid (missW l u (k + 1) = missW l u k + if hasB (lastW (l.take k) u) (p : Int) then 0 else 1) := Lib.hid (by
        show missW l u k + (if hasB (lastW (l.take k) u) (l.getD k 0) then 0 else 1) = _
        rw [show l.getD k 0 = (p : Int) by rw [List.getD_eq_getElem?_getD, HY.out]; rfl])
      have hle1 : missW l u (k + 1) ≤ 40 := by have := missW_le l u (k + 1); omega
      have hle2 : sumW l u (k + 1) ≤ 1600 := by
        have h1 := sumW_le l u (k + 1)
        have h2 : (k + 1) * l.length ≤ 40 * 40 := Nat.mul_le_mul (by omega) (by rw [HL.out]; exact hn)
        omega
      go_wp2_with fail
      refine (set_any _ _ _ _ _ _ HT0.out hk0 (by omega) (fun x hx => HG.out.1.2.1 x (List.mem_of_mem_take hx)) hv1 hv2).mono ?_; rintro e w' ⟨rfl, rfl⟩
      cases hb : hasB (lastW (l.take k) u) (p : Int)
      · rw [hb] at HM HTB
        rw [Int.toNat_natCast] at HTB
        rw [HTB.out] at HB
        have hbt : (bits BinOp.and IntKind.u64 ((mask (lastW (l.take k) u) : Int) / 2 ^ p) 1 == 0) = true := by rw [HB.out]; rfl
        clear hb HB HTB
        go_wp2_with fail
        refine (set_any _ _ _ _ _ _ HT.out hk1 (by omega) (fun x hx => HG.out.1.2.1 x (List.mem_of_mem_take hx)) hv1 hv2).mono ?_; rintro e w' ⟨rfl, rfl⟩
        go_wp2_with fail
        refine (ones_any _ hm1 _).mono ?_; rintro e w' ⟨rfl, rfl⟩
        rw [HP.out]
        have hle3 := hle2
        rw [HS.out, ← HQ.out.2] at hle3
        generalize hz : someN (lastW (l.take (k + 1)) u) = z at *
        have HZ := Lib.hid hz
        clear hz
        go_wp2
        go_round
        case rel => exact ⟨k + 1, q + 1, t + z, by omega, by go_num, by go_num, by go_num, by have h1 := HM.out; have h2 := HQ.out.1; simp at h1; omega, hle3, Lib.hid ⟨by have h1 := HM.out; have h2 := HQ.out.1; simp at h1; omega, by have h1 := HS.out; have h2 := HQ.out.2; omega⟩⟩
        case measure => simp [intOf]; omega
      · rw [hb] at HM HTB
        rw [Int.toNat_natCast] at HTB
        rw [HTB.out] at HB
        have hbt : (bits BinOp.and IntKind.u64 ((mask (lastW (l.take k) u) : Int) / 2 ^ p) 1 == 0) = false := by rw [HB.out]; rfl
        clear hb HB HTB
        go_wp2_with fail
        refine (set_any _ _ _ _ _ _ HT.out hk1 (by omega) (fun x hx => HG.out.1.2.1 x (List.mem_of_mem_take hx)) hv1 hv2).mono ?_; rintro e w' ⟨rfl, rfl⟩
        go_wp2_with fail
        refine (ones_any _ hm1 _).mono ?_; rintro e w' ⟨rfl, rfl⟩
        rw [HP.out]
        have hle3 := hle2
        rw [HS.out, ← HQ.out.2] at hle3
        generalize hz : someN (lastW (l.take (k + 1)) u) = z at *
        have HZ := Lib.hid hz
        clear hz
        go_wp2
        go_round
        case rel => exact ⟨k + 1, q, t + z, by omega, by go_num, by go_num, by go_num, by have h1 := HM.out; have h2 := HQ.out.1; simp at h1; omega, hle3, Lib.hid ⟨by have h1 := HM.out; have h2 := HQ.out.1; simp at h1; omega, by have h1 := HS.out; have h2 := HQ.out.2; omega⟩⟩
        case measure => simp [intOf]; omega
    · have HE := Lib.hid (show k = n by omega)
      go_wp2
      go_ret3
      have e1 := HQ.out
      have e2 := HE.out
      subst e2
      rw [← e1.1, ← e1.2]
      exact ⟨rfl, rfl⟩
end Go.Proofs.YtmeamgeojcbljaaDoor
