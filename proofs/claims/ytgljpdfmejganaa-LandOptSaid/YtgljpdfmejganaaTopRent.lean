/- The walk of the law TopRent: it returns true, for every input. -/
import Derived.Test.YtgljpdfmejganaaLand
import Derived.Test.YtgljpdfmejganaaYoung
import Derived.Test.YtgljpdfmejganaaOpt
import Derived.Test.YtgljpdfmejganaaWays
import Derived.Test.YtgljpdfmejganaaSame
import Derived.IntWalk
namespace Go.Proofs.Ytgljpdfmejganaa
open Go.ChangeShapes Go.WideShapes Go.ChangeAt Go.RowKit

theorem schedC_const {each : Int} {s : Nat} : ∀ (l H : List Int) (n : Int), SchedC (fun _ => each) s H l n → ∃ m : Nat, Sched s H l m ∧ n = each * m := by
  intro l
  induction l with
  | nil => rintro H n h; exact ⟨0, rfl, by rw [show n = 0 from h]; simp⟩
  | cons p l ih =>
    rintro H n ⟨H2, n2, h1, h2, h3, h4, h5, rfl⟩
    obtain ⟨m, hm, rfl⟩ := ih _ _ h5
    refine ⟨(if p ∈ H then 0 else 1) + m, ⟨H2, m, h1, h2, h3, h4, hm, rfl⟩, ?_⟩
    split
    · simp
    · rw [Int.natCast_add, Int.mul_add]; simp
theorem sched_const (each : Int) {s : Nat} : ∀ (l H : List Int) (m : Nat), Sched s H l m → SchedC (fun _ => each) s H l (each * m) := by
  intro l
  induction l with
  | nil => rintro H m h; rw [show m = 0 from h]; show each * ((0 : Nat) : Int) = 0; simp
  | cons p l ih =>
    rintro H m ⟨H2, m2, h1, h2, h3, h4, h5, rfl⟩
    refine ⟨H2, each * m2, h1, h2, h3, h4, ih _ _ h5, ?_⟩
    rw [Int.natCast_add, Int.mul_add]
    split <;> simp
theorem costF_rep {each : Int} {m : Nat} {p : Int} (h0 : 0 ≤ p) (h1 : p ≤ (m : Int) - 1) : costF (List.replicate m each) p = each := by
  unfold costF
  rw [List.getD_eq_getElem?_getD, List.getElem?_replicate, if_pos (by omega)]; rfl
theorem costF_nonneg {cost : List Int} (h : AllIn cost 0 20) (x : Int) : 0 ≤ costF cost x := (costAt h x.toNat).1
theorem allIn_rep {each : Int} {m : Nat} (h0 : 0 ≤ each) (h1 : each ≤ 20) : AllIn (List.replicate m each) 0 20 := fun x hx => by
  rw [List.eq_of_mem_replicate hx]; exact ⟨h0, h1⟩
/-- Where all cost the same. -/
theorem rent_between {each : Int} {m s : Nat} (h0 : 0 ≤ each) (h1 : each ≤ 20) (hs : 1 ≤ s) {l : List Int} (hl : AllIn l 0 ((m : Int) - 1)) :
    (landRun (List.replicate m each) s l).1 ≤ each * s * optN s l ∧ each * optN s l ≤ (landRun (List.replicate m each) s l).1 := by
  have hf := costF_nonneg (allIn_rep (m := m) h0 h1)
  constructor
  · have h2 := sched_const each l [] _ (optN_sched hs l)
    have h3 : SchedC (costF (List.replicate m each)) s [] l (each * optN s l) := schedC_congr l _ _ (fun p hp => (costF_rep (hl p hp).1 (hl p hp).2).symm) h2
    have h4 := young hf hs (Nat.le_refl s) h3
    rw [Nat.sub_self] at h4
    have : (s : Int) * (each * optN s l) = each * s * optN s l := by rw [← Int.mul_assoc, Int.mul_comm (s : Int)]
    simp at h4
    omega
  · have h2 := landRun_sched hf hs l
    have h3 : SchedC (fun _ => each) s [] l (landRun (List.replicate m each) s l).1 := schedC_congr l _ _ (fun p hp => costF_rep (hl p hp).1 (hl p hp).2) h2
    obtain ⟨k, hk, e⟩ := schedC_const _ _ _ h3
    rw [e]
    exact Int.mul_le_mul_of_nonneg_left (by have := optN_best hs (Nat.le_refl s) hk; omega) h0

theorem inR_ok (x lo hi : Int) (w : World) (h1 : lo ≤ x) (h2 : x ≤ hi) :
    Calls Try.prog 7 #[.int .i64 x, .int .i64 lo, .int .i64 hi] w fun e w' => e = .returned (.bool true) ∧ w = w' := by
  go_enter Try.func7, Try.ntmps7
  go_wp2
  go_ret
  exact ⟨rfl, rfl⟩
theorem inR_no (x lo hi : Int) (w : World) (h : x < lo ∨ hi < x) :
    Calls Try.prog 7 #[.int .i64 x, .int .i64 lo, .int .i64 hi] w fun e w' => e = .returned (.bool false) ∧ w = w' := by
  go_enter Try.func7, Try.ntmps7
  by_cases h1 : lo ≤ x
  · have h2 : ¬ x ≤ hi := by omega
    clear h
    go_wp2
    go_ret
    exact ⟨rfl, rfl⟩
  · clear h
    go_wp2
    go_ret
    exact ⟨rfl, rfl⟩

set_option maxRecDepth 100000 in
set_option maxHeartbeats 4000000 in
theorem law_TopRent (A : Option Addr) (n c : Nat) (l : List Int) (m each slots : Int) (w : World) (h : RI w A n l) (hnc : n ≤ c) (hn : n ≤ 9223372036854775807) :
    Calls Try.prog 3 #[.slice A n c, .int .i64 m, .int .i64 each, .int .i64 slots] w fun e w' => e = .returned (.bool true) ∧ Below w.heap.size w w' := by
  have HL := Lib.hid h.len
  have e2 : landRun [3, 4] 2 [0, 1, 0] = (7, [(0, 3), (1, 4)]) := by decide
  have E2 := Lib.hid e2
  clear e2
  have h0 := (RI.lit w #[.int .i64 0, .int .i64 1, .int .i64 0] 3 [0, 1, 0] 3 rfl rfl).below ((Below.refl (w.alloc (.cells #[.int .i64 0, .int .i64 1, .int .i64 0] 3)).heap.size _).alloc (Nat.le_refl _) (.cells #[.int .i64 3, .int .i64 4] 3))
  have h00 := RI.lit (w.alloc (.cells #[.int .i64 0, .int .i64 1, .int .i64 0] 3)) #[.int .i64 3, .int .i64 4] 3 [3, 4] 2 rfl rfl
  have hB0 := ((Below.refl w.heap.size w).alloc (Nat.le_refl _) (.cells #[.int .i64 0, .int .i64 1, .int .i64 0] 3)).alloc (by simp) (.cells #[.int .i64 3, .int .i64 4] 3)
  rw [World.size_alloc] at h00
  go_enter Try.func3, Try.ntmps3
  go_wp2_with fail
  refine (ldrun_ok _ _ _ _ _ _ _ _ _ _ h0 h00 (by simp [GoodL, AllIn])).mono ?_; rintro e w1 ⟨A1, n1, c1, A2, c2, rfl, _, _, _, hB1⟩
  rw [show (2 : Int).toNat = 2 from rfl, E2.out]
  clear h0 h00
  have hB01 := hB0.trans (hB1.mono hB0.size)
  by_cases hm : 1 ≤ m ∧ m ≤ 6
  · obtain ⟨m0, m1⟩ := hm
    go_wp2_with fail
    refine (inR_ok _ _ _ _ m0 m1).mono ?_; rintro e w' ⟨rfl, rfl⟩
    by_cases he : 0 ≤ each ∧ each ≤ 20
    · obtain ⟨e0, e1⟩ := he
      go_wp2_with fail
      refine (inR_ok _ _ _ _ e0 e1).mono ?_; rintro e w' ⟨rfl, rfl⟩
      obtain ⟨q, rfl⟩ : ∃ q : Nat, m = q := ⟨m.toNat, by omega⟩
      go_wp2
      go_loopw [13, 14] (fun v13 i wr => ∃ k : Nat, k ≤ q ∧ i = .int .i64 k ∧ Row wr w.heap.size 3 v13 k ((List.replicate k each).map (Value.int .i64)) ∧ Below w.heap.size w wr) (fun _ i _ => q - (intOf i).toNat)
      case atStart => exact ⟨0, by omega, by go_num, Row.nil_ _ _ _, hB01⟩
      case round =>
        obtain ⟨k, hk, rfl, R13, hB⟩ := hrel
        have hbs := hB.size
        by_cases hlt : k < q
        · go_wp2_with (at_builtin; refine wpList_push _ rfl (.tmp 50) (.tmp 52) _ rfl w.heap.size 3 _ _ Try.underlying22 infoI rfl (by decide) _ _ _ rfl R13 (.int .i64 each) rfl rfl (by omega) hbs ?_; intro v' w2 R13' g8)
          go_roundw
          case rel =>
            refine ⟨k + 1, by omega, by go_num, ?_, hB.grown g8 hbs (fun b hb => (R13.lt b hb).1)⟩
            rw [List.replicate_succ', List.map_append]; exact R13'
          case measure => simp [intOf]; omega
        · obtain rfl : k = q := by omega
          obtain ⟨A13, c13, hv13, hc13, _⟩ := R13.form
          subst hv13
          have hM := Lib.hid (Row.reads R13)
          clear R13
          have hr := h.below hB
          by_cases hg : GoodL l (List.replicate k each) slots
          · have HG := Lib.hid hg
            have HGO : Hid (GoodReqs l slots) := Lib.hid ⟨hg.1, fun x hx => by have := hg.2.2.2.1 x hx; simp at this; omega, hg.2.2.2.2⟩
            obtain ⟨s, rfl⟩ : ∃ s : Nat, slots = s := ⟨slots.toNat, by have := hg.2.2.2.2.1; omega⟩
            have hs1 : 1 ≤ s := by have := hg.2.2.2.2.1; omega
            have hs2 : s ≤ 8 := by have := hg.2.2.2.2.2; omega
            have hn4 : n ≤ 40 := by have := HL.out; have := hg.1; omega
            have Q := Lib.hid (rent_between e0 e1 hs1 (l := l) (m := k) (fun x hx => by have := hg.2.2.2.1 x hx; simp at this; omega))
            clear hg
            go_wp2_with fail
            refine (ldrun_ok _ _ _ _ _ _ _ _ _ _ hr hM.out HG.out).mono ?_; rintro e w3 ⟨A3, n3, c3, A4, c4, rfl, _, _, _, hB3⟩
            have hB03 := hB.trans (hB3.mono hbs)
            go_wp2_with fail
            refine (opt_ok _ _ _ _ _ _ (h.below hB03) hnc HGO.out).mono ?_; rintro e w4 ⟨A5, c5, A6, n6, c6, A7, n7, c7, rfl, R5, R6, R7, hn6, hn7, hB4⟩
            have hB04 := hB03.trans (hB4.mono hB03.size)
            rw [Int.toNat_natCast] at R5
            have RA := Lib.hid (Row.readsB R5)
            clear R5 R6 R7
            obtain ⟨q1, q2⟩ := Q.out
            have hmn : missN (optF s [] l).1 ≤ 40 := by have := missN_le (optF s [] l).1; have := RA.out.len; omega
            unfold optN at q1 q2
            have HX : Hid (RB w4 A5 n (optF s [] l).1) := RA
            clear Q RA
            generalize (landRun (List.replicate k each) s l).1 = x at *
            obtain ⟨b, hb⟩ : ∃ b, missN (optF s [] l).1 = b := ⟨_, rfl⟩
            have HMA : Hid (Calls Try.prog 9 #[.slice A5 n c5] w4 fun e w' => e = .returned (.int .i64 b) ∧ w4 = w') := Lib.hid ((misses_any _ _ c5 _ _ HX.out (by omega)).mono fun _ _ ⟨x1, x2⟩ => ⟨by rw [x1, hb], x2⟩)
            rw [hb] at q1 q2 hmn
            clear hb HX
            obtain ⟨u, rfl⟩ : ∃ u : Nat, each = u := ⟨each.toNat, by omega⟩
            have b1 : u * s ≤ 20 * 8 := Nat.mul_le_mul (by omega) hs2
            have b2 : u * s * b ≤ 160 * 40 := Nat.mul_le_mul b1 hmn
            have b3 : u * b ≤ 20 * 40 := Nat.mul_le_mul (by omega) hmn
            have em2 : ((u : Int) * s * b) = ((u * s * b : Nat) : Int) := by norm_cast
            have em3 : ((u : Int) * b) = ((u * b : Nat) : Int) := by norm_cast
            have em1 : ((u : Int) * s) = ((u * s : Nat) : Int) := by norm_cast
            have f1 : wrap64 ((u : Int) * s) = (u : Int) * s := by rw [em1]; exact IntWalk.wrap64_in _ (by omega)
            clear em1
            have f2 : wrap64 ((u : Int) * s * b) = (u : Int) * s * b := by rw [em2]; exact IntWalk.wrap64_in _ (by omega)
            have f3 : wrap64 ((u : Int) * b) = (u : Int) * b := by rw [em3]; exact IntWalk.wrap64_in _ (by omega)
            clear em2 em3 b1 b2 b3


            go_wp2_with fail
            refine HMA.out.mono ?_; rintro e w' ⟨rfl, rfl⟩
            go_wp2_with fail
            refine HMA.out.mono ?_; rintro e w' ⟨rfl, rfl⟩
            go_wp2
            go_ret
            exact ⟨rfl, hB04⟩
          · have HG := Lib.hid hg
            clear hg
            go_wp2_with fail
            refine (ldrun_no _ _ _ _ _ _ _ _ _ _ hr hM.out hn (by omega) HG.out).mono ?_; rintro e w3 ⟨rfl, rfl⟩
            have HC : Hid (Calls Try.prog 8 #[.slice A n c, .int .i64 slots] wr fun e w' => (∃ x1 x2 x3 x4, e = .returned (.tuple #[x1, x2, x3, x4])) ∧ Below wr.heap.size wr w') := Lib.hid (by
              by_cases hg : GoodReqs l slots
              · exact (opt_ok _ _ _ _ _ _ hr hnc hg).mono fun e w' ⟨A5, c5, A6, n6, c6, A7, n7, c7, he, _, _, _, _, _, hB4⟩ => ⟨⟨_, _, _, _, he⟩, hB4⟩
              · exact (opt_no _ _ _ _ _ _ hr hn hg).mono fun e w' ⟨he, hB4⟩ => ⟨⟨_, _, _, _, he⟩, hB4⟩)
            go_wp2_with fail
            refine HC.out.mono ?_; rintro e w4 ⟨⟨x1, x2, x3, x4, rfl⟩, hB4⟩
            go_wp2
            go_ret
            exact ⟨rfl, hB.trans (hB4.mono hbs)⟩
    · have he2 : each < 0 ∨ 20 < each := by omega
      have HE2 := Lib.hid he2
      clear he he2
      go_wp2_with fail
      refine (inR_no _ _ _ _ HE2.out).mono ?_; rintro e w' ⟨rfl, rfl⟩
      go_wp2
      go_ret
      exact ⟨rfl, hB01⟩
  · have hm2 : m < 1 ∨ 6 < m := by omega
    have HM2 := Lib.hid hm2
    clear hm hm2
    go_wp2_with fail
    refine (inR_no _ _ _ _ HM2.out).mono ?_; rintro e w' ⟨rfl, rfl⟩
    go_wp2
    go_ret
    exact ⟨rfl, hB01⟩
end Go.Proofs.Ytgljpdfmejganaa
