/- The walks of larderwickref1.Messages, .Late and .Acks. -/
import Derived.Test.YtmeamgeojcbljaaDoorRefPages
import Derived.Test.YtmeamgeojcbljaaDoorAckRun
import Derived.Test.YtmeamgeojcbljaaDoorAckMore
namespace Go.Proofs.YtmeamgeojcbljaaDoor
open Go.ChangeShapes Go.WideShapes Go.ChangeAt Go.RowKit

set_option maxHeartbeats 400000 in
theorem rlate_any (A : Option Addr) (n c : Nat) (l : List Int) (T : Int) (w : World) (h : RI w A n l) (hn : n ≤ 100) (ha : AllIn l 0 1000000) (hT : 0 ≤ T) (hT2 : T ≤ 1000000) :
    Calls Tryd.prog 50 #[.slice A n c, .int .i64 T] w fun e w' => e = .returned (.int .i64 (lateI l T)) ∧ w = w' := by
  have HL := Lib.hid h.len
  have HA := Lib.hid ha
  clear ha
  go_enter Tryd.func50, Tryd.ntmps50
  go_wp2
  go_loop [5, 6] (fun s i => ∃ k : Nat, ∃ q : Int, k ≤ n ∧ i = .int .i64 k ∧ s = .int .i64 q ∧ 0 ≤ q ∧ q ≤ k * 1000000 ∧ Hid (q = lateI (l.take k) T)) (fun _ i => n - (intOf i).toNat)
  case atStart => exact ⟨0, 0, by omega, by go_num, rfl, by omega, by omega, by simp [Hid, lateI_nil]⟩
  case round =>
    obtain ⟨k, q, hk, rfl, rfl, hq0, hq, HQ⟩ := hrel
    by_cases hlt : k < n
    · obtain ⟨ad, y, rfl, HY, hc⟩ := h.at_ hlt
      obtain ⟨y0, y1⟩ := HA.out y (mem_of_at HY.out)
      have HS := Lib.hid (lateI_take_succ (T := T) HY.out)
      by_cases hTy : y < T
      · go_wp2
        go_round
        case rel => exact ⟨k + 1, q + T - y, by omega, by go_num, by go_num, by omega, by omega, Lib.hid (by rw [HS.out, ← HQ.out]; omega)⟩
        case measure => simp [intOf]; omega
      · go_wp2
        go_round
        case rel => exact ⟨k + 1, q, by omega, by go_num, by go_num, by omega, by omega, Lib.hid (by rw [HS.out, ← HQ.out]; omega)⟩
        case measure => simp [intOf]; omega
    · have HE := Lib.hid (show q = lateI l T by have := HQ.out; rwa [List.take_of_length_le (by have := HL.out; omega)] at this)
      go_wp2
      go_ret
      rw [HE.out]
      exact ⟨rfl, rfl⟩

theorem rise_one (l : List Int) : Rise (l.take 1) := by
  intro i a b ha hb
  rw [List.getElem?_take] at hb
  split at hb
  · omega
  · cases hb
theorem messages_full (A : Option Addr) (n c : Nat) (l : List Int) (p : Int) (w : World) (h : RI w A n l) (hn : n ≤ 9223372036854775807) (hg : 20 < l.length) :
    Calls Tryd.prog 8 #[.slice A n c, .int .i64 p] w fun e w' => e = .returned (.int .i64 4) ∧ w = w' := by
  have hn2 : 20 < n := by have := h.len; omega
  clear hg
  go_enter Tryd.func8, Tryd.ntmps8
  go_wp2
  go_ret
  exact ⟨rfl, rfl⟩
theorem messages_range (A : Option Addr) (n c : Nat) (l : List Int) (p : Int) (w : World) (h : RI w A n l) (hg : l.length ≤ 20) (hb : ¬ (AllIn l 0 1000 ∧ 1 ≤ p ∧ p ≤ 20)) :
    Calls Tryd.prog 8 #[.slice A n c, .int .i64 p] w fun e w' => e = .returned (.int .i64 1) ∧ w = w' := by
  have hn : n ≤ 20 := by have := h.len; omega
  clear hg
  by_cases ha : AllIn l 0 1000
  · have hs : p < 1 ∨ 20 < p := by
      by_cases h1 : 1 ≤ p
      · by_cases h2 : p ≤ 20
        · exact absurd ⟨ha, h1, h2⟩ hb
        · omega
      · omega
    have H2 := Lib.hid ha
    have H3 := Lib.hid hs
    clear ha hs hb
    go_enter Tryd.func8, Tryd.ntmps8
    go_wp2_with fail
    refine (rall_ok _ _ _ _ _ _ _ h (by omega) H2.out).mono ?_; rintro e w' ⟨rfl, rfl⟩
    go_wp2_with fail
    refine (rin_no _ _ _ _ H3.out).mono ?_; rintro e w' ⟨rfl, rfl⟩
    go_wp2
    go_ret
    exact ⟨rfl, rfl⟩
  · have H2 := Lib.hid ha
    clear ha hb
    go_enter Tryd.func8, Tryd.ntmps8
    go_wp2_with fail
    refine (rall_no _ _ _ _ _ _ _ h (by omega) H2.out).mono ?_; rintro e w' ⟨rfl, rfl⟩
    go_wp2
    go_ret
    exact ⟨rfl, rfl⟩
def RiseSaid (w : World) (l : List Int) (e : Ending) (w' : World) : Prop :=
  ((e = .returned (.int .i64 0) ∧ Rise l) ∨ (e = .returned (.int .i64 6) ∧ ¬ Rise l)) ∧ ∃ d, w' = w.drewN d
set_option maxHeartbeats 400000 in
theorem messages_rise (A : Option Addr) (n c : Nat) (l : List Int) (p : Int) (w : World) (h : RI w A n l) (hg : l.length ≤ 20 ∧ AllIn l 0 1000 ∧ 1 ≤ p ∧ p ≤ 20) :
    Calls Tryd.prog 8 #[.slice A n c, .int .i64 p] w (RiseSaid w l) := by
  obtain ⟨g1, g2, g3, g4⟩ := hg
  have HL := Lib.hid h.len
  have hn : n ≤ 20 := by have := h.len; omega
  have H2 := Lib.hid g2
  clear g2 g1
  go_enter Tryd.func8, Tryd.ntmps8
  go_wp2_with fail
  refine (rall_ok _ _ _ _ _ _ _ h (by omega) H2.out).mono ?_; rintro e w' ⟨rfl, rfl⟩
  go_wp2_with fail
  refine (rin_ok _ _ _ _ g3 g4).mono ?_; rintro e w' ⟨rfl, rfl⟩
  go_wp2
  go_loopw [5] (fun i wr => ∃ k d : Nat, k ≤ n ∧ i = .int .i64 ((k : Int) + 1) ∧ wr = w.drewN d ∧ Hid (Rise (l.take (k + 1)))) (fun i _ => n - (intOf i).toNat)
  case atStart => exact ⟨0, 0, by omega, rfl, rfl, Lib.hid (rise_one l)⟩
  case round =>
    obtain ⟨k, d, hk, rfl, rfl, HR⟩ := hrel
    by_cases hlt : k + 1 < n
    · obtain ⟨ad, y, rfl, HY, hc⟩ := h.at_ hlt
      obtain ⟨ad', x, hA, HX, hc'⟩ := h.at_ (show k < n by omega)
      injection hA with hA
      subst hA
      have hlt' : (k : Int) + 1 < n := by omega
      by_cases hxy : y < x
      · have HN := Lib.hid (show ¬ Rise l from fun hh => by have := hh k x y HX.out HY.out; omega)
        go_wp2
        have e0 : (0 : Int) ≤ (k : Int) + 1 := by omega
        have e1 : ((k : Int) + 1).toNat = k + 1 := by omega
        have e2 : IntKind.i64.wrap ((k : Int) + 1 - 1) = k := by rw [show (k : Int) + 1 - 1 = k by omega]; exact IntWalk.i64_in _ (by omega)
        rw [add_succ] at hc
        go_quiet (fail)
        clear e0 e1 e2
        go_wp2
        go_ret
        exact ⟨.inr ⟨rfl, HN.out⟩, by simpa using ⟨_, rfl⟩⟩
      · have HS := Lib.hid (Rise.take_succ HR.out HX.out HY.out (by omega))
        go_wp2
        have e0 : (0 : Int) ≤ (k : Int) + 1 := by omega
        have e1 : ((k : Int) + 1).toNat = k + 1 := by omega
        have e2 : IntKind.i64.wrap ((k : Int) + 1 - 1) = k := by rw [show (k : Int) + 1 - 1 = k by omega]; exact IntWalk.i64_in _ (by omega)
        rw [add_succ] at hc
        go_quiet (fail)
        clear e0 e1 e2
        go_wp2
        go_roundw
        case rel => exact ⟨k + 1, _, by omega, by go_num, rfl, HS⟩
        case measure => simp [intOf]; omega
    · have HE := Lib.hid (show Rise l by have := HR.out; rw [List.take_of_length_le (by have := HL.out; omega)] at this; exact this)
      have hlt' : ¬ (k : Int) + 1 < n := by omega
      go_wp2
      go_ret
      exact ⟨.inl ⟨rfl, HE.out⟩, _, rfl⟩
theorem messages_ok (A : Option Addr) (n c : Nat) (l : List Int) (p : Int) (w : World) (h : RI w A n l) (hg : GoodA l p) :
    Calls Tryd.prog 8 #[.slice A n c, .int .i64 p] w (QuietRet w (.int .i64 0)) :=
  (messages_rise A n c l p w h hg.1).mono fun e w' ⟨h1, h2⟩ => ⟨by rcases h1 with h1 | h1; exact h1.1; exact absurd hg.2 h1.2, h2⟩
theorem messages_no (A : Option Addr) (n c : Nat) (l : List Int) (p : Int) (w : World) (h : RI w A n l) (hn : n ≤ 9223372036854775807) (hg : ¬ GoodA l p) :
    Calls Tryd.prog 8 #[.slice A n c, .int .i64 p] w (QuietRet w (.int .i64 (ackE l p))) := by
  by_cases h4 : 20 < l.length
  · rw [show ackE l p = 4 by unfold ackE; rw [if_pos h4]]
    exact (messages_full A n c l p w h hn h4).mono fun e w' ⟨h1, h2⟩ => ⟨h1, 0, h2.symm⟩
  · by_cases h1 : AllIn l 0 1000 ∧ 1 ≤ p ∧ p ≤ 20
    · have hr : ¬ Rise l := fun hh => hg ⟨⟨by omega, h1⟩, hh⟩
      rw [show ackE l p = 6 by unfold ackE; rw [if_neg h4, if_pos h1, if_neg hr]]
      exact (messages_rise A n c l p w h ⟨by omega, h1⟩).mono fun e w' ⟨h1, h2⟩ => ⟨by rcases h1 with h1 | h1; exact absurd h1.2 hr; exact h1.1, h2⟩
    · rw [show ackE l p = 1 by unfold ackE; rw [if_neg h4, if_neg h1]]
      exact (messages_range A n c l p w h (by omega) h1).mono fun e w' ⟨h1, h2⟩ => ⟨h1, 0, h2.symm⟩
theorem ackE_ne (l : List Int) (p : Int) (hg : ¬ GoodA l p) : (((ackE l p : Int)) == 0) = false := by
  unfold ackE
  by_cases h4 : 20 < l.length
  · rw [if_pos h4]; rfl
  · rw [if_neg h4]
    by_cases h1 : AllIn l 0 1000 ∧ 1 ≤ p ∧ p ≤ 20
    · rw [if_pos h1, if_neg (fun hh => hg ⟨⟨by omega, h1⟩, hh⟩)]; rfl
    · rw [if_neg h1]; rfl

theorem dn_snoc (l : List Int) (x a : Int) : (l ++ [x]).filter (· ≤ a) = l.filter (· ≤ a) ++ if x ≤ a then [x] else [] := by
  rw [List.filter_append]
  by_cases h : x ≤ a
  · simp [h]
  · simp [h]
theorem split_rise {l : List Int} (h : Rise l) (T : Int) : ∃ q, q ≤ l.length ∧ l.filter (· ≤ T) = l.take q ∧ l.filter (T < ·) = l.drop q ∧ (∀ x ∈ l.take q, x ≤ T) ∧ ∀ x, l[q]? = some x → T < x := by
  obtain ⟨q, hq, h1, h2⟩ := rise_filter T l h
  have hd : ∀ x ∈ l.drop q, T < x := fun x hx => by rw [← h1] at hx; simpa using (List.mem_filter.1 hx).2
  refine ⟨q, hq, ?_, h1, h2, ?_⟩
  · have e : l.filter (· ≤ T) = (l.take q ++ l.drop q).filter (· ≤ T) := by rw [List.take_append_drop]
    rw [e, List.filter_append]
    have e1 : (l.take q).filter (· ≤ T) = l.take q := List.filter_eq_self.2 (fun x hx => by simpa using h2 x hx)
    have e2 : (l.drop q).filter (· ≤ T) = [] := List.filter_eq_nil_iff.2 (fun x hx => by have := hd x hx; simp; omega)
    rw [e1, e2, List.append_nil]
  · intro x hx
    apply hd
    have : (l.drop q)[0]? = some x := by rw [List.getElem?_drop, Nat.add_zero]; exact hx
    exact List.mem_of_getElem? this
theorem Apart.of_lt {r r' : Option Nat} {H : Nat} (h : ∀ k, r = some k → H ≤ k) (h' : ∀ k, r' = some k → k < H) : Apart r r' := by
  cases hr : r with
  | none => exact .inl rfl
  | some k =>
    refine .inr fun he => ?_
    have h1 := h k hr
    have h2 := h' k he.symm
    omega
def RAckRes (w w' : World) (e : Ending) (l : List Int) (p : Int) : Prop :=
  ∃ A1 m c1 outs s, e = .returned (.tuple #[.slice A1 m c1, .int .i64 s]) ∧ Row w' w.heap.size 3 (.slice A1 m c1) m (outs.map (Value.int .i64)) ∧ m ≤ 20 ∧ AckRun p l outs s ∧ Below w.heap.size w w'

set_option maxRecDepth 100000 in
set_option maxHeartbeats 4000000 in
theorem racks_ok (A : Option Addr) (n c : Nat) (l : List Int) (p : Int) (w : World) (h : RI w A n l) (hg : GoodA l p) :
    Calls Tryd.prog 11 #[.slice A n c, .int .i64 p] w fun e w' => RAckRes w w' e l p := by
  have HL := Lib.hid h.len
  have HG := Lib.hid hg
  have hn : n ≤ 20 := by have := HL.out; have := hg.1.1; omega
  have hp1 : 1 ≤ p := hg.1.2.2.1
  have hp2 : p ≤ 20 := hg.1.2.2.2
  clear hg
  go_enter Tryd.func11, Tryd.ntmps11
  go_wp2
  go_loopw [0, 6, 7] (fun v0 v6 v7 wr => ∃ f n0 c0 m : Nat, ∃ A0 s0, f + n0 = n ∧ v0 = .slice A0 n0 c0 ∧ RI wr A0 n0 (l.drop f) ∧ m ≤ f ∧ v7 = .int .i64 s0 ∧ 0 ≤ s0 ∧ s0 ≤ 40 * m ∧ ∃ outs, RunInv w wr n l p f n0 m v6 s0 outs) (fun v0 _ _ _ => slLen v0)
  case atStart => exact ⟨0, n, c, 0, A, 0, by omega, rfl, by simpa using h, by omega, rfl, by omega, by omega, [], Row.nil_ _ _ _, Below.refl _ _, by intro o s; simp, by simp⟩
  case round =>
    obtain ⟨wo, rfl⟩ : ∃ wo, wo = wr := ⟨_, rfl⟩
    obtain ⟨f, n0, c0, m, A0, s0, hf, rfl, h0, hm, rfl, hs1, hs2, outs, R6, hB, hH, hO⟩ := hrel
    have HH := Lib.hid hH
    have HO := Lib.hid hO
    have hbs := hB.size
    clear hH hO
    by_cases hn0 : 0 < n0
    · obtain ⟨ad, t, rfl, HY, hc⟩ := h0.at_ (k := 0) hn0
      rw [show ad.add 0 = ad from by simp [Addr.add]] at hc
      have HI : Hid (AllIn (l.drop f) 0 1000) := Lib.hid (fun x hx => HG.out.1.2.1 x (List.mem_of_mem_drop hx))
      have HI2 : Hid (AllIn (l.drop f) 0 1000000) := Lib.hid (fun x hx => by have := HI.out x hx; omega)
      obtain ⟨t0, t1⟩ := HI.out t (mem_of_at HY.out)
      have HLL : Hid ((l.drop f).length = n0) := Lib.hid h0.len
      have HD : Hid (l.drop f = t :: (l.drop f).drop 1) := Lib.hid (by
        have hlen := h0.len
        have := List.drop_eq_getElem_cons (l := l.drop f) (i := 0) (by omega)
        have h1 := HY.out
        rw [List.getElem?_eq_getElem (by omega)] at h1
        injection h1 with h1
        rw [List.drop_zero, h1] at this; exact this)
      have HR : Hid (Rise (l.drop f)) := Lib.hid (HG.out.2.drop f)
      have HS0 : Hid (lateI (l.drop f) t = 0) := Lib.hid (lateI_zero (fun x hx => (by
        have h1 := HR.out
        have h2 := hx
        rw [HD.out] at h1 h2
        exact h1.head x h2)))
      have RR := Lib.hid h0
      have hn0' : (0 : Int) < n0 := by omega
      go_wp2
      go_loop [8] (fun v8 => ∃ T : Int, v8 = .int .i64 T ∧ t ≤ T ∧ T ≤ t + p ∧ Hid (lateI (l.drop f) T ≤ p)) (fun v8 => (1100 - intOf v8).toNat)
      case atStart => exact ⟨t, rfl, by omega, by omega, Lib.hid (by rw [HS0.out]; omega)⟩
      case round =>
        obtain ⟨T, rfl, hT1, hT2, HT⟩ := hrel
        by_cases hle : lateI (l.drop f) (T + 1) ≤ p
        · have hT3 := lateI_mem (T := T + 1) (mem_of_at HY.out)
          have hT4 : T + 1 ≤ t + p := by omega
          have HLE := Lib.hid hle
          have hb1 := lateI_nonneg (l.drop f) (T + 1)
          go_wp2_with fail
          refine (rlate_any _ _ _ _ _ _ RR.out (by omega) HI2.out (by omega) (by omega)).mono ?_; rintro e w' ⟨rfl, rfl⟩
          clear hT3
          generalize lateI (l.drop f) (T + 1) = z at hle hb1 ⊢
          go_wp2
          go_round
          case rel => exact ⟨T + 1, rfl, by omega, by omega, HLE⟩
          case measure => simp [intOf]; omega
        · have HLE := Lib.hid (show p < lateI (l.drop f) (T + 1) by omega)
          go_wp2_with fail
          refine (rlate_any _ _ _ _ _ _ RR.out (by omega) HI2.out (by omega) (by omega)).mono ?_; rintro e w' ⟨rfl, rfl⟩
          generalize lateI (l.drop f) (T + 1) = z at hle ⊢
          go_wp2
          go_loopw [9, 10, 11] (fun v9 v10 i wj => ∃ k n9 n10 : Nat, k ≤ n0 ∧ i = .int .i64 k ∧ n9 + n10 = k ∧ Row wj wo.heap.size 3 v9 n9 (((((l.drop f).take k).filter (· ≤ T))).map (Value.int .i64)) ∧ Row wj wo.heap.size 3 v10 n10 (((((l.drop f).take k).filter (T < ·))).map (Value.int .i64)) ∧ Apart v9.ownBlock v10.ownBlock ∧ Below wo.heap.size wo wj) (fun _ _ i _ => n0 - (intOf i).toNat)
          case atStart => exact ⟨0, 0, 0, by omega, by go_num, by omega, by simpa using Row.nil_ _ _ _, by simpa using Row.nil_ _ _ _, .inl rfl, Below.refl _ _⟩
          case round =>
            obtain ⟨k, n9, n10, hk, rfl, h910, R9, R10, AP, hBj⟩ := hrel
            have hbj := hBj.size
            by_cases hlt : k < n0
            · obtain ⟨ad', y, hA, HY2, hc2⟩ := (RR.out.below hBj).at_ hlt
              injection hA with hA
              subst hA
              by_cases hyT : y ≤ T
              · have H1 : Hid (((l.drop f).take (k + 1)).filter (· ≤ T) = ((l.drop f).take k).filter (· ≤ T) ++ [y]) := Lib.hid (by rw [take_succ_of HY2.out, dn_snoc, if_pos hyT])
                have H2 : Hid (((l.drop f).take (k + 1)).filter (T < ·) = ((l.drop f).take k).filter (T < ·)) := Lib.hid (by rw [take_succ_of HY2.out, up_snoc, if_neg (by omega), List.append_nil])
                have HAP := Lib.hid AP
                have HLT := Lib.hid (R10.lt)
                go_wp2_with (at_builtin; refine wpList_push_at _ rfl (.tmp 38) (.tmp 43) _ rfl wo.heap.size 3 _ _ Tryd.underlying22 infoI rfl (by decide) _ _ _ rfl R9 (.int .i64 y) rfl rfl (by omega) hbj ?_; intro v9' w2 R9' g9 far9)
                go_roundw
                case rel =>
                  refine ⟨k + 1, n9 + 1, n10, by omega, by go_num, by omega, ?_, ?_, (HAP.out.symm.far far9 (fun k hk => (HLT.out k hk).2)).symm, hBj.grown g9 hbj (fun b hb => (R9.lt b hb).1)⟩
                  · rw [H1.out, List.map_append]; exact R9'
                  · rw [H2.out]; exact Row.apart R10 g9 HAP.out.symm
                case measure => simp [intOf]; omega
              · have H1 : Hid (((l.drop f).take (k + 1)).filter (· ≤ T) = ((l.drop f).take k).filter (· ≤ T)) := Lib.hid (by rw [take_succ_of HY2.out, dn_snoc, if_neg hyT, List.append_nil])
                have H2 : Hid (((l.drop f).take (k + 1)).filter (T < ·) = ((l.drop f).take k).filter (T < ·) ++ [y]) := Lib.hid (by rw [take_succ_of HY2.out, up_snoc, if_pos (by omega)])
                have HAP := Lib.hid AP
                have HLT := Lib.hid (R9.lt)
                go_wp2_with (at_builtin; refine wpList_push_at _ rfl (.tmp 45) (.tmp 50) _ rfl wo.heap.size 3 _ _ Tryd.underlying22 infoI rfl (by decide) _ _ _ rfl R10 (.int .i64 y) rfl rfl (by omega) hbj ?_; intro v10' w2 R10' g10 far10)
                go_roundw
                case rel =>
                  refine ⟨k + 1, n9, n10 + 1, by omega, by go_num, by omega, ?_, ?_, HAP.out.far far10 (fun k hk => (HLT.out k hk).2), hBj.grown g10 hbj (fun b hb => (R10.lt b hb).1)⟩
                  · rw [H1.out]; exact Row.apart R9 g10 HAP.out
                  · rw [H2.out, List.map_append]; exact R10'
                case measure => simp [intOf]; omega
            · obtain ⟨q, hq, e9, e10, hq5, hq6⟩ := split_rise HR.out T
              have hkn : (l.drop f).take k = l.drop f := List.take_of_length_le (by have := HLL.out; omega)
              rw [hkn, e9] at R9
              rw [hkn, e10] at R10
              have hq' : q ≤ n0 := by have := HLL.out; omega
              have hq1 : 1 ≤ q := by
                rcases q with _ | q
                · have := hq6 t HY.out; omega
                · omega
              have hl9 : n9 = q := by have := R9.len; rw [List.length_map, List.length_take, HLL.out] at this; omega
              have hl10 : n10 = n0 - q := by have := R10.len; rw [List.length_map, List.length_drop, HLL.out] at this; omega
              obtain rfl := hl9.symm
              obtain rfl := hl10
              have HST : Hid (∀ o s, AckRun p (l.drop (f + q)) o s → AckRun p l ((outs ++ [T]) ++ o) (s0 + (p + lateI ((l.drop f).take q) T) + s)) := Lib.hid (by
                intro o s ho
                rw [← List.drop_drop] at ho
                have := HH.out _ _ (AckRun.step' HD.out hT1 HT.out HLE.out (by rw [HLL.out]; exact hq') hq5 hq6 ho)
                rw [List.append_assoc]
                rw [show s0 + (p + lateI ((l.drop f).take q) T) + s = s0 + (p + lateI ((l.drop f).take q) T + s) by omega]
                exact this)
              have z0 := lateI_nonneg ((l.drop f).take q) T
              have z1 : lateI ((l.drop f).take q) T ≤ p := Int.le_trans (lateI_take_le _ _ _) HT.out
              have HO2 : Hid (∀ x ∈ outs ++ [T], 0 ≤ x ∧ x ≤ 1020) := Lib.hid (by
                intro x hx
                rw [List.mem_append, List.mem_singleton] at hx
                rcases hx with hx | hx
                · exact HO.out x hx
                · omega)
              obtain ⟨A9, c9, rfl, _, _⟩ := R9.form
              obtain ⟨A10, c10, rfl, _, _⟩ := R10.form
              have R6j := R6.below hBj
              have hB0 := hB.trans (hBj.mono hbs)
              have hb0 := hB0.size
              have HAP9 := Lib.hid (Apart.of_lt (fun k hk => (R9.lt k hk).1) (fun k hk => (R6.lt k hk).2))
              have HAP10 := Lib.hid (Apart.of_lt (fun k hk => (R10.lt k hk).1) (fun k hk => (R6.lt k hk).2))
              have HIT : Hid (AllIn ((l.drop f).take q) 0 1000000) := Lib.hid (fun x hx => HI2.out x (List.mem_of_mem_take hx))
              clear AP hq5 hq6 e9 e10 hkn hq
              go_wp2_with (at_builtin; refine wpList_push _ rfl (.tmp 52) (.tmp 54) _ rfl w.heap.size 3 _ _ Tryd.underlying22 infoI rfl (by decide) _ _ _ rfl R6j (.int .i64 T) rfl rfl (by omega) hb0 ?_; intro v' w1 R6' g6)
              have R9' := Row.apart R9 g6 HAP9.out
              have R10' := Row.apart R10 g6 HAP10.out
              have hB1 := hB0.grown g6 hb0 (fun b hb => (R6j.lt b hb).1)
              refine (rlate_any _ _ _ _ _ _ (Row.reads R9') (by omega) HIT.out (by omega) (by omega)).mono ?_; rintro e w' ⟨rfl, rfl⟩
              generalize lateI ((l.drop f).take q) T = z2 at z0 z1 HST ⊢
              go_wp2
              go_roundw
              case rel =>
                refine ⟨f + q, n0 - q, _, m + 1, _, s0 + (p + z2), by omega, rfl, ?_, by omega, by go_num, by omega, by omega, outs ++ [T], by simpa using R6', hB1, HST.out, HO2.out⟩
                have := Row.reads R10'
                rwa [List.drop_drop] at this
              case measure => simp [slLen]; omega
    · have HE : Hid (AckRun p l outs s0) := Lib.hid (by
        have h1 := HH.out [] 0
        rw [show l.drop f = [] from List.drop_eq_nil_of_le (by have := HL.out; omega)] at h1
        simpa using h1 .nil)
      obtain ⟨A6, c6, rfl, _, _⟩ := R6.form
      have hn0' : ¬ (0 : Int) < n0 := by omega
      go_wp2
      go_ret2
      exact ⟨A6, m, c6, outs, s0, rfl, R6, by omega, HE.out, hB⟩
end Go.Proofs.YtmeamgeojcbljaaDoor
