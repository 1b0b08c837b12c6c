/- The walks of the laws ClockFifo and ClockAll: each returns true, for every input. -/
import Derived.Test.YtoeoennocdpblaaClock
import Derived.Test.YtoeoennocdpblaaFifo
import Derived.Test.YtoeoennocdpblaaLru
import Derived.Test.YtoeoennocdpblaaLruPlain
import Derived.Test.YtoeoennocdpblaaClockLaws
import Derived.Test.YtoeoennocdpblaaSame
namespace Go.Proofs.Ytoeoennocdpblaa
open Go.ChangeShapes Go.WideShapes Go.ChangeAt Go.RowKit

set_option maxHeartbeats 400000 in
theorem clockFact_ok (w : World) : Calls Try.prog 15 #[] w fun e w' => e = .returned (.bool true) ∧ Below w.heap.size w w' := by
  go_enter Try.func15, Try.ntmps15
  go_wp2_with fail
  have h0 := RI.lit w #[.int .i64 1, .int .i64 2, .int .i64 3, .int .i64 4, .int .i64 2, .int .i64 5] 3 [1, 2, 3, 4, 2, 5] 6 rfl rfl
  have hB0 := (Below.refl w.heap.size w).alloc (Nat.le_refl _) (.cells #[.int .i64 1, .int .i64 2, .int .i64 3, .int .i64 4, .int .i64 2, .int .i64 5] 3)
  refine (clock_ok _ _ _ _ _ _ h0 (by simp [GoodReqs, AllIn])).mono ?_; rintro e w1 ⟨A1, c1, A2, n2, c2, rfl, R1, R2, hn2, hB1⟩
  have hB01 := hB0.trans (hB1.mono hB0.size)
  have e2 : (clockRun (Int.toNat 3) [1, 2, 3, 4, 2, 5]).held.map Prod.fst = [4, 2, 5] := by decide
  have e3 : (clockRun (Int.toNat 3) [1, 2, 3, 4, 2, 5]).hand = 0 := by decide
  rw [e2] at R2
  rw [e3]
  clear e2 e3
  have hw1 := hB01.size
  have M2 : Hid (eqI [4, 2, 5] [4, 2, 5] = true) := by simp [Hid, eqI]
  go_wp2_with fail
  have h2 := RI.lit w1 #[.int .i64 4, .int .i64 2, .int .i64 5] 3 [4, 2, 5] 3 rfl rfl
  refine (ints_any _ _ _ _ _ _ _ _ _ ((Row.reads R2).below ((Below.refl w1.heap.size w1).alloc (Nat.le_refl _) _)) h2 (by omega) (by omega)).mono ?_; rintro e w' ⟨rfl, d, rfl⟩
  rw [M2.out]
  go_wp2
  go_ret
  exact ⟨rfl, belowN (hB01.alloc hw1 _) _⟩

theorem all_false {H : List Bool} {k : Nat} (h : ∀ b ∈ H.take k, b = false) (hk : H[k]? = some false) : ∀ b ∈ H.take (k + 1), b = false := by
  intro b hb
  rw [List.take_add_one, hk, List.mem_append] at hb
  rcases hb with hb | hb
  · exact h b hb
  · simpa using hb

set_option maxHeartbeats 1000000 in
theorem law_ClockFifo (A : Option Addr) (n c : Nat) (l : List Int) (slots : Int) (w : World) (h : RI w A n l) (hn : n ≤ 9223372036854775807) :
    Calls Try.prog 4 #[.slice A n c, .int .i64 slots] w fun e w' => e = .returned (.bool true) ∧ Below w.heap.size w w' := by
  by_cases hg : GoodReqs l slots
  · obtain ⟨s, rfl⟩ : ∃ s : Nat, slots = s := ⟨slots.toNat, by have := hg.2.2.1; omega⟩
    have HL := Lib.hid h.len
    have HG := Lib.hid hg
    have hn4 : n ≤ 40 := by have := HL.out; have := hg.1; omega
    have hs1 : 1 ≤ s := by have := hg.2.2.1; omega
    clear hn hg
    go_enter Try.func4, Try.ntmps4
    go_wp2_with fail
    refine (clockFact_ok _).mono ?_; rintro e w0 ⟨rfl, hB0⟩
    have h0 := h.below hB0
    go_wp2_with fail
    refine (clock_ok _ _ _ _ _ _ h0 HG.out).mono ?_; rintro e w1 ⟨A1, c1, A2, n2, c2, rfl, R1, R2, hn2, hB1⟩
    have hB01 : Below w.heap.size w w1 := hB0.trans (hB1.mono hB0.size)
    go_wp2_with fail
    refine (fifo_ok _ _ _ _ _ _ (h0.below hB1) HG.out).mono ?_; rintro e w2 ⟨A3, c3, A4, n4, c4, rfl, R3, R4, hn4', hB2⟩
    rw [Int.toNat_natCast] at R1 R3
    have hB02 : Below w.heap.size w w2 := hB01.trans (hB2.mono hB01.size)
    have RC := Lib.hid (Row.readsB (R1.below hB2))
    have RF := Lib.hid (Row.readsB R3)
    have HCL := Lib.hid RC.out.len
    clear R1 R2 R3 R4
    go_wp2
    go_loop [13] (fun i => ∃ k : Nat, k ≤ n ∧ i = .int .i64 k ∧ Hid (∀ b ∈ (clockRun s l).hits.take k, b = false)) (fun i => n - (intOf i).toNat)
    case atStart => exact ⟨0, by omega, by go_num, by simp [Hid]⟩
    case round =>
      obtain ⟨k, hk, rfl, HF⟩ := hrel
      by_cases hlt : k < n
      · obtain ⟨ad, b, rfl, HB, hcb⟩ := RC.out.at_ hlt
        cases b
        · have HN := Lib.hid (all_false HF.out HB.out)
          go_wp2
          go_round
          case rel => exact ⟨k + 1, by omega, by go_num, HN⟩
          case measure => simp [intOf]; omega
        · go_wp2
          go_ret
          exact ⟨rfl, hB02⟩
      · have HE : Hid (eqB (clockRun s l).hits (fifoRun s l).1 = true) := Lib.hid (by
          have := HF.out
          rw [List.take_of_length_le (by have := HCL.out; omega)] at this
          unfold eqB; exact decide_eq_true (clock_fifo s hs1 l this))
        go_wp2_with fail
        refine (bools_any _ _ _ _ _ _ _ _ _ RC.out RF.out (by omega) (by omega)).mono ?_; rintro e w' ⟨rfl, d, rfl⟩
        rw [HE.out]
        go_wp2
        go_ret
        exact ⟨rfl, belowN hB02 d⟩
  · have HG := Lib.hid hg
    clear hg
    go_enter Try.func4, Try.ntmps4
    go_wp2_with fail
    refine (clockFact_ok _).mono ?_; rintro e w0 ⟨rfl, hB0⟩
    go_wp2_with fail
    refine (clock_no _ _ _ _ _ _ (h.below hB0) hn HG.out).mono ?_; rintro e w1 ⟨rfl, rfl⟩
    go_wp2_with fail
    refine (fifo_no _ _ _ _ _ _ (h.below hB0) hn HG.out).mono ?_; rintro e w1 ⟨rfl, rfl⟩
    go_wp2
    go_ret
    exact ⟨rfl, hB0⟩

/-! ### How often a page is not there, of each way. -/
theorem clock_miss_le (s : Nat) (hs : 1 ≤ s) (l : List Int) : someN l ≤ missN (clockRun s l).hits := some_le_miss (clock_len s l) fun k y hy hb => by
  rw [clock_at s l k y hy] at hb
  injection hb with hb
  exact (clock_inv1 s hs _).sub y ((hasB_iff _ _).1 hb)
theorem someN_take_le (l : List Int) (k : Nat) : someN (l.take k) ≤ someN l := by
  have key : ∀ (m : List Int) (a : List Int), someN a ≤ someN (a ++ m) := by
    intro m
    induction m using list_snoc_ind with
    | h0 => intro a; simp
    | h1 m y ih => intro a; rw [← List.append_assoc]; exact Nat.le_trans (ih a) (someN_mono _ y)
  have := key (l.drop k) (l.take k)
  rwa [List.take_append_drop] at this
theorem clock_miss_eq (s : Nat) (hs : 1 ≤ s) (l : List Int) (h : someN l ≤ s) : missN (clockRun s l).hits = someN l := some_eq_miss (clock_len s l) fun k y hy => by
  rw [clock_at s l k y hy]
  have hI := clock_inv1 s hs (l.take k)
  have h1 := (hI.few (Nat.le_trans (someN_take_le l k) h)).2
  congr 1
  rw [Bool.eq_iff_iff, hasB_iff, hasB_iff]
  exact ⟨hI.sub y, h1 y⟩
theorem lru_miss_le (s : Nat) (hs : 1 ≤ s) (l : List Int) : someN l ≤ missN (lruRun s l).1 := some_le_miss (lru_len s l) fun k y hy hb => by
  obtain ⟨t, rfl⟩ : ∃ t, s = t + 1 := ⟨s - 1, by omega⟩
  rw [lru_at t l k y hy] at hb
  injection hb with hb
  exact (mem_recL _ _).1 (List.mem_of_mem_take ((hasB_iff _ _).1 hb))
theorem recL_len (l : List Int) : (recL l).length = someN l := (someN_set (recL_nodup l) fun x => (mem_recL l x).symm).symm
theorem lru_miss_eq (s : Nat) (hs : 1 ≤ s) (l : List Int) (h : someN l ≤ s) : missN (lruRun s l).1 = someN l := some_eq_miss (lru_len s l) fun k y hy => by
  obtain ⟨t, rfl⟩ : ∃ t, s = t + 1 := ⟨s - 1, by omega⟩
  rw [lru_at t l k y hy, List.take_of_length_le (by rw [recL_len]; exact Nat.le_trans (someN_take_le l k) h)]
  congr 1
  rw [Bool.eq_iff_iff, hasB_iff, hasB_iff, mem_recL]
theorem fifo_len (s : Nat) (l : List Int) : (fifoRun s l).1.length = l.length := by
  induction l using list_snoc_ind with
  | h0 => rfl
  | h1 l y ih => rw [fifoRun_snoc, fifoStep]; split <;> simp [ih]
theorem fifo_at (s : Nat) (l : List Int) : ∀ k y, l[k]? = some y → (fifoRun s l).1[k]? = some (hasB (fifoRun s (l.take k)).2 y) := by
  induction l using list_snoc_ind with
  | h0 => intro k y hk; simp at hk
  | h1 l z ih =>
    intro k y hk
    have e : (fifoRun s (l ++ [z])).1 = (fifoRun s l).1 ++ [hasB (fifoRun s l).2 z] := by
      rw [fifoRun_snoc, fifoStep]
      by_cases h : z ∈ (fifoRun s l).2
      · rw [if_pos h, (hasB_iff _ _).2 h]
      · rw [if_neg h, (hasB_false _ _).2 h]
    rw [e]
    by_cases hl : k < l.length
    · rw [List.getElem?_append_left hl] at hk
      rw [List.getElem?_append_left (by rw [fifo_len]; exact hl), List.take_append_of_le_length (by omega)]
      exact ih k y hk
    · have hk2 : k = l.length := by have := (List.getElem?_eq_some_iff.1 hk).1; simp at this; omega
      subst hk2
      simp at hk
      subst hk
      rw [List.getElem?_append_right (by rw [fifo_len]; omega), fifo_len]
      simp
structure FifoInv1 (s : Nat) (l : List Int) : Prop where
  nd : (fifoRun s l).2.Nodup
  le : (fifoRun s l).2.length ≤ s
  sub : ∀ x ∈ (fifoRun s l).2, x ∈ l
  few : someN l ≤ s → ∀ x ∈ l, x ∈ (fifoRun s l).2
  many : s < someN l → (fifoRun s l).2.length = s
theorem fifo_inv1 (s : Nat) (hs : 1 ≤ s) (l : List Int) : FifoInv1 s l := by
  induction l using list_snoc_ind with
  | h0 => exact ⟨by simp [fifoRun], by simp [fifoRun], by simp [fifoRun], fun _ => by simp, fun h => by simp [someN, dd] at h⟩
  | h1 l y ih =>
    obtain ⟨i1, i2, i3, i4, i5⟩ := ih
    have hp := fifoRun_snoc s l y
    by_cases hm : y ∈ (fifoRun s l).2
    · rw [fifoStep, if_pos hm] at hp
      have hs2 : someN (l ++ [y]) = someN l := by rw [someN_snoc, if_pos (i3 y hm)]; rfl
      refine ⟨by rw [hp]; exact i1, by rw [hp]; exact i2, fun x hx => by rw [hp] at hx; simp [i3 x hx], fun h x hx => ?_, fun h => by rw [hp]; exact i5 (by omega)⟩
      rw [hp]
      rw [List.mem_append, List.mem_singleton] at hx
      rcases hx with hx | hx
      · exact i4 (by omega) x hx
      · subst hx; exact hm
    · rw [fifoStep, if_neg hm] at hp
      by_cases hr : (fifoRun s l).2.length = s
      · rw [if_pos hr] at hp
        have hlen : (fifoRun s (l ++ [y])).2.length = s := by rw [hp]; simp; omega
        refine ⟨?_, by omega, ?_, fun h => ?_, fun _ => hlen⟩
        · rw [hp, List.nodup_append]
          exact ⟨List.Nodup.sublist (List.drop_sublist 1 _) i1, by simp, fun u hu v hv => by rw [List.mem_singleton] at hv; subst hv; exact fun e => hm (e ▸ List.mem_of_mem_drop hu)⟩
        · intro x hx
          rw [hp, List.mem_append, List.mem_singleton] at hx
          rcases hx with hx | hx
          · simp [i3 x (List.mem_of_mem_drop hx)]
          · simp [hx]
        · exfalso
          have h0 := someN_mono l y
          have b := i4 (by omega)
          have hyl : y ∉ l := fun h => hm (b y h)
          have hsl : someN l = (fifoRun s l).2.length := someN_set i1 (fun x => ⟨b x, i3 x⟩)
          rw [someN_snoc, if_neg hyl] at h
          omega
      · rw [if_neg hr] at hp
        have hfew : someN l ≤ s := by
          by_cases h : someN l ≤ s
          · exact h
          · have := i5 (by omega); omega
        have b := i4 hfew
        have hyl : y ∉ l := fun h => hm (b y h)
        have hsl : someN l = (fifoRun s l).2.length := someN_set i1 (fun x => ⟨b x, i3 x⟩)
        have hs2 : someN (l ++ [y]) = someN l + 1 := by rw [someN_snoc, if_neg hyl]
        refine ⟨?_, by rw [hp]; simp; omega, ?_, fun _ => ?_, fun h => by omega⟩
        · rw [hp, List.nodup_append]
          exact ⟨i1, by simp, fun u hu v hv => by rw [List.mem_singleton] at hv; subst hv; exact fun e => hm (e ▸ hu)⟩
        · intro x hx
          rw [hp, List.mem_append, List.mem_singleton] at hx
          rcases hx with hx | hx
          · simp [i3 x hx]
          · simp [hx]
        · intro x hx
          rw [hp]
          rw [List.mem_append, List.mem_singleton] at hx ⊢
          rcases hx with hx | hx
          · exact .inl (b x hx)
          · exact .inr hx
theorem fifo_miss_le (s : Nat) (hs : 1 ≤ s) (l : List Int) : someN l ≤ missN (fifoRun s l).1 := some_le_miss (fifo_len s l) fun k y hy hb => by
  rw [fifo_at s l k y hy] at hb
  injection hb with hb
  exact (fifo_inv1 s hs _).sub y ((hasB_iff _ _).1 hb)
theorem fifo_miss_eq (s : Nat) (hs : 1 ≤ s) (l : List Int) (h : someN l ≤ s) : missN (fifoRun s l).1 = someN l := some_eq_miss (fifo_len s l) fun k y hy => by
  rw [fifo_at s l k y hy]
  have hI := fifo_inv1 s hs (l.take k)
  congr 1
  rw [Bool.eq_iff_iff, hasB_iff, hasB_iff]
  exact ⟨hI.sub y, hI.few (Nat.le_trans (someN_take_le l k) h) y⟩

set_option maxRecDepth 100000 in
set_option maxHeartbeats 1000000 in
theorem law_ClockAll (A : Option Addr) (n c : Nat) (l : List Int) (slots : Int) (w : World) (h : RI w A n l) (hn : n ≤ 9223372036854775807) :
    Calls Try.prog 10 #[.slice A n c, .int .i64 slots] w fun e w' => e = .returned (.bool true) ∧ Below w.heap.size w w' := by
  by_cases hg : GoodReqs l slots
  · obtain ⟨s, rfl⟩ : ∃ s : Nat, slots = s := ⟨slots.toNat, by have := hg.2.2.1; omega⟩
    have HL := Lib.hid h.len
    have HG := Lib.hid hg
    have hn4 : n ≤ 40 := by have := HL.out; have := hg.1; omega
    have hs1 : 1 ≤ s := by have := hg.2.2.1; omega
    have hs2 : s ≤ 8 := by have := hg.2.2.2; omega
    clear hn hg
    have hsl := someN_le l
    have hI := clock_inv1 s hs1 l
    have q1 := clock_miss_le s hs1 l
    have q2 := fifo_miss_le s hs1 l
    have q3 := lru_miss_le s hs1 l
    have r1 := clock_miss_eq s hs1 l
    have r2 := fifo_miss_eq s hs1 l
    have r3 := lru_miss_eq s hs1 l
    have u1 := missN_le (clockRun s l).hits
    have u2 := missN_le (fifoRun s l).1
    have u3 := missN_le (lruRun s l).1
    rw [clock_len] at u1
    rw [fifo_len] at u2
    rw [lru_len] at u3
    have hl40 : l.length ≤ 40 := HG.out.1
    have hpl : (pagesC s l).length = if someN l ≤ s then someN l else s := by
      by_cases hf : someN l ≤ s
      · rw [if_pos hf]; exact (someN_set hI.nd (fun x => ⟨(hI.few hf).2 x, hI.sub x⟩)).symm
      · rw [if_neg hf]; exact hI.many (by omega)
    have hhand : someN l ≤ s → (clockRun s l).hand = 0 := fun hf => (hI.few hf).1
    have HPL := Lib.hid hpl
    clear hpl hI
    go_enter Try.func10, Try.ntmps10
    go_wp2_with fail
    refine (clockFact_ok _).mono ?_; rintro e w0 ⟨rfl, hB0⟩
    have h0 := h.below hB0
    go_wp2_with fail
    refine (clock_ok _ _ _ _ _ _ h0 HG.out).mono ?_; rintro e w1 ⟨A1, c1, A2, n2, c2, rfl, R1, R2, hn2, hB1⟩
    have hB01 : Below w.heap.size w w1 := hB0.trans (hB1.mono hB0.size)
    have h1 := h0.below hB1
    rw [Int.toNat_natCast] at R1 R2
    rw [Int.toNat_natCast]
    have hn2e : n2 = if someN l ≤ s then someN l else s := by
      have a1 := R2.len
      have a2 := HPL.out
      unfold pagesC at a2
      rw [List.length_map] at a1
      omega
    have HN2 := Lib.hid hn2e
    have HR1 := Lib.hid r1
    have HR2 := Lib.hid r2
    have HR3 := Lib.hid r3
    have HHD := Lib.hid hhand
    clear R2 hn2e r1 r2 r3 hhand
    go_wp2_with fail
    refine (fifo_ok _ _ _ _ _ _ h1 HG.out).mono ?_; rintro e w2 ⟨A3, c3, A4, n4, c4, rfl, R3, R4, hn4', hB2⟩
    have hB02 : Below w.heap.size w w2 := hB01.trans (hB2.mono hB01.size)
    have h2 := h1.below hB2
    have R1' := R1.below hB2
    rw [Int.toNat_natCast] at R3
    clear R4
    go_wp2_with fail
    refine (lru_ok _ _ _ _ _ _ h2 HG.out).mono ?_; rintro e w3 ⟨A5, c5, A6, n6, c6, rfl, R5, R6, hn6', hB3⟩
    have hB03 : Below w.heap.size w w3 := hB02.trans (hB3.mono hB02.size)
    have h3 := h2.below hB3
    have RC := Lib.hid (Row.readsB (R1'.below hB3))
    have RF := Lib.hid (Row.readsB (R3.below hB3))
    rw [Int.toNat_natCast] at R5
    have RL := Lib.hid (Row.readsB R5)
    clear R1 R1' R3 R5 R6
    generalize (clockRun s l).hand = hd at *
    by_cases hf : someN l ≤ s
    · have r1 := HR1.out hf
      have r2 := HR2.out hf
      have r3 := HR3.out hf
      have r4 := HHD.out hf
      have hn2e := HN2.out
      rw [if_pos hf] at hn2e
      subst r4
      have M1 := Lib.hid r1
      have M2 := Lib.hid r2
      have M3 := Lib.hid r3
      have M4 := Lib.hid hn2e
      clear q1 q2 q3 r1 r2 r3 u1 u2 u3 hn2e
      go_wp2_with fail
      refine (some_any _ _ _ _ _ h3 (by omega)).mono ?_; rintro e w' ⟨rfl, d, rfl⟩
      have RC' := Lib.hid (RC.out.drewN d)
      have RF' := Lib.hid (RF.out.drewN d)
      have RL' := Lib.hid (RL.out.drewN d)
      have hB4 := belowN hB03 d
      generalize w3.drewN d = w4 at *
      have g1 : ∀ x : Int, (x == x) = true := by simp
      have g2 : ¬ (someN l : Int) > s := by omega
      have g3 : ¬ (s : Int) < someN l := by omega
      have g4 : ¬ s < someN l := by omega
      go_wp2_with fail
      refine (misses_any _ _ _ _ _ RC'.out (by omega)).mono ?_; rintro e w' ⟨rfl, rfl⟩
      rw [M1.out]
      go_wp2_with fail
      refine (misses_any _ _ _ _ _ RF'.out (by omega)).mono ?_; rintro e w' ⟨rfl, rfl⟩
      rw [M2.out]
      go_wp2_with fail
      refine (misses_any _ _ _ _ _ RL'.out (by omega)).mono ?_; rintro e w' ⟨rfl, rfl⟩
      rw [M3.out]
      have e4 := M4.out
      subst e4
      go_wp2
      go_ret
      exact ⟨rfl, hB4⟩
    · have hn2e := HN2.out
      rw [if_neg hf] at hn2e
      have g3 : (s : Int) < someN l := by omega
      have g4 : s < someN l := by omega
      have M1 := Lib.hid q1
      have M2 := Lib.hid q2
      have M3 := Lib.hid q3
      subst hn2e
      go_wp2_with fail
      refine (some_any _ _ _ _ _ h3 (by omega)).mono ?_; rintro e w' ⟨rfl, d, rfl⟩
      have RC' := Lib.hid (RC.out.drewN d)
      have RF' := Lib.hid (RF.out.drewN d)
      have RL' := Lib.hid (RL.out.drewN d)
      have hB4 := belowN hB03 d
      generalize w3.drewN d = w4 at *
      have g1 : ∀ x : Int, (x == x) = true := by simp
      go_wp2_with fail
      refine (misses_any _ _ _ _ _ RC'.out (by omega)).mono ?_; rintro e w' ⟨rfl, rfl⟩
      go_wp2_with fail
      refine (misses_any _ _ _ _ _ RF'.out (by omega)).mono ?_; rintro e w' ⟨rfl, rfl⟩
      go_wp2_with fail
      refine (misses_any _ _ _ _ _ RL'.out (by omega)).mono ?_; rintro e w' ⟨rfl, rfl⟩
      go_wp2
      go_ret
      exact ⟨rfl, hB4⟩
  · have HG := Lib.hid hg
    clear hg
    go_enter Try.func10, Try.ntmps10
    go_wp2_with fail
    refine (clockFact_ok _).mono ?_; rintro e w0 ⟨rfl, hB0⟩
    go_wp2_with fail
    refine (clock_no _ _ _ _ _ _ (h.below hB0) hn HG.out).mono ?_; rintro e w1 ⟨rfl, rfl⟩
    go_wp2_with fail
    refine (fifo_no _ _ _ _ _ _ (h.below hB0) hn HG.out).mono ?_; rintro e w1 ⟨rfl, rfl⟩
    go_wp2_with fail
    refine (lru_no _ _ _ _ _ _ (h.below hB0) hn HG.out).mono ?_; rintro e w1 ⟨rfl, rfl⟩
    go_wp2
    go_ret
    exact ⟨rfl, hB0⟩
end Go.Proofs.Ytoeoennocdpblaa
