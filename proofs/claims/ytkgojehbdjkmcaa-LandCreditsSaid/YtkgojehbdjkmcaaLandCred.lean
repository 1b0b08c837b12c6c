/- The walk of the law LandCredits: it returns true, for every input. -/
import Derived.Test.YtkgojehbdjkmcaaLandLaw
namespace Go.Proofs.Ytkgojehbdjkmcaa
open Go.ChangeShapes Go.WideShapes Go.ChangeAt Go.RowKit

theorem nodup_at {l : List Int} (h : l.Nodup) {i j : Nat} (hi : i < l.length) (hj : j < l.length) (e : l[i] = l[j]) : i = j := by
  have h2 := List.pairwise_iff_getElem.1 h
  rcases Nat.lt_trichotomy i j with h | h | h
  · exact absurd e (h2 i j hi hj h)
  · exact h
  · exact absurd e.symm (h2 j i hj hi h)
theorem costAt0 {cost : List Int} (hc : AllIn cost 0 20) (x : Int) : 0 ≤ costF cost x := (costAt hc x.toNat).1
theorem credits_at {l cost : List Int} {s : Nat} (hg : GoodL l cost s) {i : Nat} {p t : Int} (hp : ((landRun cost s l).2.map Prod.fst)[i]? = some p) (ht : ((landRun cost s l).2.map Prod.snd)[i]? = some t) :
    ∃ (pn : Nat) (cst : Int), p = pn ∧ pn < cost.length ∧ cost[pn]? = some cst ∧ 0 ≤ t ∧ t ≤ cst ∧ p ∉ ((landRun cost s l).2.map Prod.fst).take i ∧ ∀ q, l[l.length - 1]? = some q → p = q → t = cst := by
  have hs1 : 1 ≤ s := by have := hg.2.2.2.2.1; omega
  obtain ⟨g1, g2, g3⟩ := land_good (cost := cost) (costAt0 hg.2.2.1) hs1 l
  have hpl : p ∈ l := land_pages l p (List.mem_of_getElem? hp)
  have hpr := hg.2.2.2.1 p hpl
  have hq : (landRun cost s l).2[i]? = some (p, t) := by
    rw [List.getElem?_map] at hp ht
    obtain ⟨x, hx, rfl⟩ := Option.map_eq_some_iff.1 hp
    obtain ⟨y, hy, rfl⟩ := Option.map_eq_some_iff.1 ht
    rw [hx] at hy; cases hy
    exact hx
  have hm := g3 _ (List.mem_of_getElem? hq)
  have hpc : cost[p.toNat]? = some (costF cost p) := by
    unfold costF
    rw [List.getD_eq_getElem?_getD, List.getElem?_eq_getElem (show p.toNat < cost.length by omega)]; rfl
  refine ⟨p.toNat, costF cost p, by omega, by omega, hpc, hm.1, hm.2, ?_, fun q hq2 e => ?_⟩
  · intro h
    obtain ⟨j, hj⟩ := List.mem_iff_getElem?.1 h
    have hji : j < i := by
      have := (List.getElem?_eq_some_iff.1 hj).1
      rw [List.length_take] at this; omega
    rw [List.getElem?_take, if_pos hji] at hj
    have h1 := (List.getElem?_eq_some_iff.1 hj)
    have h2 := (List.getElem?_eq_some_iff.1 hp)
    obtain ⟨a1, a2⟩ := h1
    obtain ⟨b1, b2⟩ := h2
    have : j = i := nodup_at g1 a1 b1 (by rw [a2, b2])
    omega
  · subst e
    have hl : l = l.take (l.length - 1) ++ [p] := by
      have h1 := (List.getElem?_eq_some_iff.1 hq2).1
      have := take_succ_of hq2
      rw [show l.length - 1 + 1 = l.length by omega, List.take_length] at this
      exact this
    have h2 : (p, costF cost p) ∈ (landRun cost s l).2 := by rw [hl]; exact land_last
    obtain ⟨j, hj⟩ := List.mem_iff_getElem?.1 h2
    have hj1 : ((landRun cost s l).2.map Prod.fst)[j]? = some p := by rw [List.getElem?_map, hj]; rfl
    obtain ⟨a1, a2⟩ := List.getElem?_eq_some_iff.1 hj1
    obtain ⟨b1, b2⟩ := List.getElem?_eq_some_iff.1 hp
    have : j = i := nodup_at g1 a1 b1 (by rw [a2, b2])
    subst this
    rw [hq] at hj; cases hj; rfl
theorem credits_end {l cost : List Int} {s : Nat} {q : Int} (hq : l[l.length - 1]? = some q) : q ∈ (landRun cost s l).2.map Prod.fst := by
  have hl : l = l.take (l.length - 1) ++ [q] := by
    have h1 := (List.getElem?_eq_some_iff.1 hq).1
    have := take_succ_of hq
    rw [show l.length - 1 + 1 = l.length by omega, List.take_length] at this
    exact this
  have h2 : (q, costF cost q) ∈ (landRun cost s l).2 := by rw [hl]; exact land_last
  exact List.mem_map.2 ⟨_, h2, rfl⟩

set_option maxRecDepth 100000 in
set_option maxHeartbeats 1000000 in
theorem law_LandCredits (A Ac : Option Addr) (n c m cc : Nat) (l cost : List Int) (slots : Int) (w : World) (hl : RI w A n l) (hc : RI w Ac m cost) (hn : n ≤ 9223372036854775807) (hm : m ≤ 9223372036854775807) :
    Calls Try.prog 6 #[.slice A n c, .slice Ac m cc, .int .i64 slots] w fun e w' => e = .returned (.bool true) ∧ Below w.heap.size w w' := by
  have HL := Lib.hid hl.len
  have HM := Lib.hid hc.len
  go_enter Try.func6, Try.ntmps6
  go_wp2_with fail
  refine (landFact_ok _).mono ?_; rintro e w0 ⟨rfl, hB0⟩
  have hl0 := hl.below hB0
  have hc0 := hc.below hB0
  by_cases hg : GoodL l cost slots
  · obtain ⟨s, rfl⟩ : ∃ s : Nat, slots = s := ⟨slots.toNat, by have := hg.2.2.2.2.1; omega⟩
    have HG := Lib.hid hg
    have hs1 : 1 ≤ s := by have := hg.2.2.2.2.1; omega
    have hn40 : n ≤ 40 := by have := hl.len; have := hg.1; omega
    have hm6 : m ≤ 6 := by have := hc.len; have := hg.2.1; omega
    clear hg
    go_wp2_with fail
    refine (ldrun_ok _ _ _ _ _ _ _ _ _ _ hl0 hc0 HG.out).mono ?_
    rintro e w1 ⟨A1, n1, c1, A2, c2, rfl, R1, R2, hn8, hB1⟩
    rw [Int.toNat_natCast] at R1 R2
    have hB := hB0.trans (hB1.mono hB0.size)
    have hP := Row.reads R1
    have hQ := Row.reads R2
    have hl1 := hl0.below hB1
    have hc1 := hc0.below hB1
    have hlen : n1 = (landRun cost s l).2.length := by have := hP.len; rw [List.length_map] at this; omega
    have hns : n1 ≤ s := by rw [hlen]; exact (land_good (cost := cost) (costAt0 HG.out.2.2.1) hs1 l).2.1
    have hz : n = 0 ↔ n1 = 0 := by
      constructor
      · intro h0
        have : l = [] := List.eq_nil_of_length_eq_zero (by have := HL.out; omega)
        rw [hlen, this]; rfl
      · intro h0
        rcases Nat.eq_zero_or_pos n with h | h
        · exact h
        · exfalso
          have h1 : l[l.length - 1]? = some (l[l.length - 1]'(by have := HL.out; omega)) := List.getElem?_eq_getElem _
          have h2 := credits_end (cost := cost) (s := s) h1
          have h3 : (landRun cost s l).2 = [] := List.eq_nil_of_length_eq_zero (by omega)
          rw [h3] at h2; simp at h2
    have hcap : n1 ≤ c1 := by
      obtain ⟨A10, c10, hv10, hc10, _⟩ := R1.form
      cases hv10; exact hc10
    clear R1 R2 hlen hl0 hc0 hB1 hB0
    have hd7 : decide (s < n1) = false := by simp; omega
    have hb7 : (!((n1 : Int) == 0) == ((n : Int) == 0)) = false := by
      rcases Nat.eq_zero_or_pos n with h0 | h0
      · rw [h0, hz.1 h0]; rfl
      · have h1 : n1 ≠ 0 := fun e => by have := hz.2 e; omega
        have h2 : ((n1 : Int) == 0) = false := by simp [h1]
        have h3 : ((n : Int) == 0) = false := by simp; omega
        rw [h2, h3]; rfl
    go_wp2_with fail
    have H0 := Lib.hid hz
    clear hz
    have KH := Lib.hid (fun (i : Nat) (p t : Int) hp ht => credits_at HG.out (i := i) (p := p) (t := t) hp ht)
    have KE := Lib.hid (fun (q : Int) (hq : l[l.length - 1]? = some q) => credits_end (cost := cost) (s := s) hq)
    go_loopw [12] (fun i wr => ∃ k : Nat, k ≤ n1 ∧ i = .int .i64 k ∧ Below w1.heap.size w1 wr) (fun i _ => n1 - (intOf i).toNat)
    case atStart => exact ⟨0, by omega, by go_num, Below.refl _ _⟩
    case round =>
      obtain ⟨k, hk, rfl, hBr⟩ := hrel
      by_cases hlt : k < n1
      · obtain ⟨ad1, p, rfl, hp, hcp⟩ := (hP.below hBr).at_ hlt
        obtain ⟨ad2, t, rfl, ht, hct⟩ := (hQ.below hBr).at_ hlt
        obtain ⟨pn, cst, rfl, k1, k2, k3, k4, k5, k6⟩ := KH.out _ _ _ hp.out ht.out
        have hpm : pn < m := by have := HM.out; omega
        obtain ⟨adc, cst', rfl, hcs, hcc⟩ := (hc1.below hBr).at_ hpm
        obtain rfl : cst = cst' := by have := hcs.out; rw [k2] at this; injection this
        have hn1 : 0 < n := by
          rcases Nat.eq_zero_or_pos n with h | h
          · have := H0.out.1 h; omega
          · exact h
        obtain ⟨r1, hr1⟩ : ∃ r1, n - 1 = r1 := ⟨_, rfl⟩
        obtain ⟨q1, hq1⟩ : ∃ q1, m - 1 = q1 := ⟨_, rfl⟩
        obtain ⟨ad, q, rfl, hq, hcq⟩ := (hl1.below hBr).at_ (show r1 < n by omega)
        have hz1 : ((n : Int) - 1) = r1 := by omega
        have hz2 : ((m : Int) - 1) = q1 := by omega
        have hr9 : r1 ≤ 39 := by omega
        have hq9 : q1 ≤ 5 := by omega
        have hrn : r1 < n := by omega
        have hqp : pn ≤ q1 := by omega
        have hw1 : IntKind.i64.wrap (r1 : Int) = r1 := IntWalk.i64_in _ (by omega)
        have hw2 : IntKind.i64.wrap (q1 : Int) = q1 := IntWalk.i64_in _ (by omega)
        have K6 := Lib.hid (show (pn : Int) = q → t = cst from k6 q (by rw [HL.out, hr1]; exact hq.out))
        clear hr1 hq1
        have HTK : Hid (∀ d, RI (wr.drewN d) (some ad1) k (((landRun cost s l).2.map Prod.fst).take k)) := Lib.hid (fun d => ((hP.below hBr).take (by omega)).drewN d)
        have HN := Lib.hid ((hasB_false _ _).2 k5)
        have L1 : Hid (∀ d, Calls Try.prog 8 #[.int .i64 (pn : Int), .int .i64 0, .int .i64 (q1 : Int)] (wr.drewN d) fun e w' => e = .returned (.bool true) ∧ w' = wr.drewN d) := Lib.hid (fun d => (linL_ok pn 0 (q1 : Int) (wr.drewN d) (by omega) (by omega)).mono fun _ _ ⟨x1, x2⟩ => ⟨x1, x2.symm⟩)
        have L2 : Hid (∀ d, Calls Try.prog 8 #[.int .i64 t, .int .i64 0, .int .i64 cst] (wr.drewN d) fun e w' => e = .returned (.bool true) ∧ w' = wr.drewN d) := Lib.hid (fun d => (linL_ok t 0 cst (wr.drewN d) k3 k4).mono fun _ _ ⟨x1, x2⟩ => ⟨x1, x2.symm⟩)
        have HHS : Hid (∀ d c', Calls Try.prog 11 #[.slice (some ad1) k c', .int .i64 (pn : Int)] (wr.drewN d) fun e w' => e = .returned (.bool false) ∧ w' = wr.drewN d) := Lib.hid (fun d c' => by
          have := has_q _ _ c' _ (pn : Int) _ (HTK.out d) (by omega)
          rw [HN.out] at this; exact this)
        have hi1 : (0 : Int) ≤ k := by omega
        have hi2 : (k : Int) ≤ c1 := by omega
        have hi3 : k ≤ c1 := by omega
        clear k1 k2 k5 k6 HTK HN
        go_wp2
        go_quiet (first
          | (go_at_call_of 8 (Value.int .i64 (pn : Int)); exact Calls.quiet_of_same (L1.out _))
          | (go_at_call_of 8 (Value.int .i64 t); exact Calls.quiet_of_same (L2.out _))
          | (go_at_call 11; exact Calls.quiet_of_same (HHS.out _ _)))
        by_cases hpq : (pn : Int) = q
        · obtain rfl := hpq
          obtain rfl := K6.out rfl
          have hdd : decide (t = t) = true := by simp
          go_wp2
          go_quiet (fail)
          go_wp2
          go_roundw
          case rel => exact ⟨k + 1, by omega, by go_num, belowN hBr _⟩
          case measure => simp [intOf]; omega
        · go_wp2
          go_quiet (fail)
          go_wp2
          go_roundw
          case rel => exact ⟨k + 1, by omega, by go_num, belowN hBr _⟩
          case measure => simp [intOf]; omega
      · obtain rfl : k = n1 := by omega
        by_cases hn0 : n = 0
        · subst hn0
          go_wp2
          try go_quiet (fail)
          try go_wp2
          go_ret
          exact ⟨rfl, hB.trans (hBr.mono hB.size)⟩
        · obtain ⟨r1, hr1⟩ : ∃ r1, n - 1 = r1 := ⟨_, rfl⟩
          obtain ⟨ad, q, rfl, hq, hcq⟩ := (hl1.below hBr).at_ (show r1 < n by omega)
          have hz1 : ((n : Int) - 1) = r1 := by omega
          have hr9 : r1 ≤ 39 := by omega
          have hrn : r1 < n := by omega
          have hw1 : IntKind.i64.wrap (r1 : Int) = r1 := IntWalk.i64_in _ (by omega)
          have HN := Lib.hid ((hasB_iff _ _).2 (KE.out q (by rw [HL.out, hr1]; exact hq.out)))
          have HHS : Hid (∀ d c', Calls Try.prog 11 #[.slice A1 k c', .int .i64 q] (wr.drewN d) fun e w' => e = .returned (.bool true) ∧ w' = wr.drewN d) := Lib.hid (fun d c' => by
            have := has_q _ _ c' _ q _ ((hP.below hBr).drewN d) (by omega)
            rw [HN.out] at this; exact this)
          clear hr1 HN
          go_wp2_with fail
          refine (HHS.out 0 _).mono ?_
          rintro e w' ⟨rfl, rfl⟩
          go_wp2
          go_ret
          exact ⟨rfl, hB.trans (hBr.mono hB.size)⟩
  · have HG := Lib.hid hg
    clear hg
    go_wp2_with fail
    refine (ldrun_no _ _ _ _ _ _ _ _ _ _ hl0 hc0 hn hm HG.out).mono ?_; rintro e w1 ⟨rfl, rfl⟩
    go_wp2
    go_ret
    exact ⟨rfl, hB0⟩
end Go.Proofs.Ytkgojehbdjkmcaa
