/- The walks of larderwickref1.Things, .Count, .Place, .Put, .swaps and .forward: what each returns. -/
import Derived.Test.YtmeamgeojcbljaaDoorRefRise
import Derived.Test.YtmeamgeojcbljaaDoorRefAcks
import Derived.Test.YtmeamgeojcbljaaDoorRefListPlain
import Derived.Deep.QuietTactic
import Derived.BigQuiet
import Derived.Sort.AtCall
import Derived.Outline
namespace Go.Proofs.YtmeamgeojcbljaaDoor
open Go.ChangeShapes Go.WideShapes Go.ChangeAt Go.RowKit

theorem listE_ne (n : Int) (a : List Int) (h : ¬ GoodT n a) : listE n a ≠ 0 := by
  unfold listE
  split
  · decide
  · rename_i h1
    rw [if_neg (fun hh => h ⟨by omega, hh.1, hh.2.1, hh.2.2⟩)]; decide
theorem rthings_ok (n : Int) (Ac : Option Addr) (m cc : Nat) (a : List Int) (w : World) (hc : RI w Ac m a) (hg : GoodT n a) :
    Calls Tryd.prog 30 #[.int .i64 n, .slice Ac m cc] w fun e w' => e = .returned (.int .i64 0) ∧ w = w' := by
  obtain ⟨g1, g2, g3, g4⟩ := hg
  have hm : m ≤ 40 := by have := hc.len; omega
  have H4 := Lib.hid g4
  clear g1 g4
  have hw : wrap64 (n - 1) = n - 1 := IntWalk.wrap64_in _ (by omega)
  go_enter Tryd.func30, Tryd.ntmps30
  go_wp2_with fail
  refine (rin_ok _ _ _ _ g2 g3).mono ?_; rintro e w' ⟨rfl, rfl⟩
  go_wp2_with fail
  refine (rall_ok _ _ _ _ _ _ _ hc (by omega) H4.out).mono ?_; rintro e w' ⟨rfl, rfl⟩
  go_wp2
  go_ret
  exact ⟨rfl, rfl⟩
theorem rthings_no (n : Int) (Ac : Option Addr) (m cc : Nat) (a : List Int) (w : World) (hc : RI w Ac m a) (hm : m ≤ 9223372036854775807) (hg : ¬ GoodT n a) :
    Calls Tryd.prog 30 #[.int .i64 n, .slice Ac m cc] w fun e w' => e = .returned (.int .i64 (listE n a)) ∧ w = w' := by
  by_cases h4 : 40 < m
  · rw [show listE n a = 4 by unfold listE; rw [if_pos (by rw [hc.len]; exact h4)]]
    clear hg
    go_enter Tryd.func30, Tryd.ntmps30
    go_wp2
    go_ret
    exact ⟨rfl, rfl⟩
  · have hno : ¬ (1 ≤ n ∧ n ≤ 4 ∧ AllIn a 0 (n - 1)) := fun ⟨h1, h2, h3⟩ => hg ⟨by rw [hc.len]; omega, h1, h2, h3⟩
    rw [show listE n a = 1 by unfold listE; rw [if_neg (by rw [hc.len]; exact h4), if_neg hno]]
    clear hg
    by_cases hn : 1 ≤ n ∧ n ≤ 4
    · obtain ⟨n1, n4⟩ := hn
      have HA := Lib.hid (show ¬ AllIn a 0 (n - 1) from fun h => hno ⟨n1, n4, h⟩)
      clear hno
      have hw : wrap64 (n - 1) = n - 1 := IntWalk.wrap64_in _ (by omega)
      go_enter Tryd.func30, Tryd.ntmps30
      go_wp2_with fail
      refine (rin_ok _ _ _ _ n1 n4).mono ?_; rintro e w' ⟨rfl, rfl⟩
      go_wp2_with fail
      refine (rall_no _ _ _ _ _ _ _ hc hm HA.out).mono ?_; rintro e w' ⟨rfl, rfl⟩
      go_wp2
      go_ret
      exact ⟨rfl, rfl⟩
    · have HN := Lib.hid (show n < 1 ∨ 4 < n by omega)
      clear hno hn
      go_enter Tryd.func30, Tryd.ntmps30
      go_wp2_with fail
      refine (rin_no _ _ _ _ HN.out).mono ?_; rintro e w' ⟨rfl, rfl⟩
      go_wp2
      go_ret
      exact ⟨rfl, rfl⟩

set_option maxHeartbeats 1000000 in
theorem rcount_ok (n : Nat) (w : World) (hn : n ≤ 1000) :
    Calls Tryd.prog 66 #[.int .i64 n] w fun e w' => ∃ A c, e = .returned (.slice A n c) ∧ Row w' w.heap.size 3 (.slice A n c) n ((risingI n).map (Value.int .i64)) ∧ Below w.heap.size w w' := by
  go_enter Tryd.func66, Tryd.ntmps66
  go_wp2
  go_loopw [3, 4] (fun v3 i wr => ∃ k : Nat, k ≤ n ∧ i = .int .i64 k ∧ Row wr w.heap.size 3 v3 k ((risingI k).map (Value.int .i64)) ∧ Below w.heap.size w wr) (fun _ i _ => n - (intOf i).toNat)
  case atStart => exact ⟨0, by omega, by go_num, Row.nil_ _ _ _, Below.refl _ _⟩
  case round =>
    obtain ⟨k, hk, rfl, R, hB⟩ := hrel
    have hbs := hB.size
    by_cases hlt : k < n
    · go_wp2_with (at_builtin; refine wpList_push _ rfl (.tmp 10) (.tmp 12) _ rfl w.heap.size 3 _ _ Tryd.underlying22 infoI rfl (by decide) _ _ _ rfl R (.int .i64 (k : Int)) rfl rfl (by omega) hbs ?_; intro v' w2 R' g8)
      go_roundw
      case rel =>
        refine ⟨k + 1, by omega, by go_num, ?_, hB.grown g8 hbs (fun b hb => (R.lt b hb).1)⟩
        rw [risingI_succ, List.map_append]; exact R'
      case measure => simp [intOf]; omega
    · obtain rfl : k = n := by omega
      obtain ⟨A, c, hv, _, _⟩ := R.form
      subst hv
      go_wp2
      go_ret
      exact ⟨A, c, rfl, R, hB⟩

theorem rplace_ok (A : Option Addr) (n c : Nat) (l : List Int) (x : Int) (w : World) (h : RI w A n l) (hn : n ≤ 1000) :
    Calls Tryd.prog 67 #[.slice A n c, .int .i64 x] w fun e w' => e = .returned (.int .i64 (ixI l x)) ∧ w = w' := by
  have HL := Lib.hid h.len
  go_enter Tryd.func67, Tryd.ntmps67
  go_wp2
  go_loop [5] (fun i => ∃ k : Nat, k ≤ n ∧ i = .int .i64 k ∧ Hid (x ∉ l.take k)) (fun i => n - (intOf i).toNat)
  case atStart => exact ⟨0, by omega, by go_num, by simp [Hid]⟩
  case round =>
    obtain ⟨k, hk, rfl, hx⟩ := hrel
    by_cases hlt : k < n
    · obtain ⟨ad, y, rfl, HY, hc⟩ := h.at_ hlt
      by_cases he : y = x
      · have HE : Hid (ixI l x = (k : Int)) := Lib.hid (by rw [ixI_mem (mem_of_at (he ▸ HY.out)), idxOf_at hx.out (he ▸ HY.out)])
        subst he
        go_wp2
        go_ret
        exact ⟨by rw [HE.out]; rfl, rfl⟩
      · have HN := Lib.hid (not_mem_take_succ hx.out HY.out he)
        have hb : (y == x) = false := by simp [he]
        go_wp2
        go_round
        case rel => exact ⟨k + 1, by omega, by go_num, HN⟩
        case measure => simp [intOf]; omega
    · have HE : Hid (ixI l x = -1) := Lib.hid (ixI_not (by have := hx.out; rw [List.take_of_length_le (by have := HL.out; omega)] at this; exact this))
      go_wp2
      go_ret
      exact ⟨by rw [HE.out]; rfl, rfl⟩
theorem add_zero_at (g f : Nat) : (⟨g, 0, none⟩ : Addr).add f = ⟨g, f, none⟩ := by unfold Addr.add; split <;> simp_all
theorem putL_len (l : List Int) (i : Nat) (x : Int) : (putL l i x).length = l.length + 1 := by
  have := (putL_perm l i x).length_eq
  rw [this]; rfl

set_option maxRecDepth 100000 in
set_option maxHeartbeats 1000000 in
theorem rput_some (g n c : Nat) (l : List Int) (f : Nat) (x : Int) (w : World) (h : RI w (some ⟨g, 0, none⟩) n l) (hnc : n ≤ c) (hf : f ≤ n) (hn : n ≤ 1000) :
    Calls Tryd.prog 68 #[.slice (some ⟨g, 0, none⟩) n c, .int .i64 f, .int .i64 x] w fun e w' => ∃ A1 c1, e = .returned (.slice A1 (n + 1) c1) ∧ Row w' w.heap.size 3 (.slice A1 (n + 1) c1) (n + 1) ((putL l f x).map (Value.int .i64)) ∧ Below w.heap.size w w' := by
  have hfi : (f : Int) ≤ n := by omega
  have hf0 : (0 : Int) ≤ f := by omega
  have hfc : f ≤ c := by omega
  have hfci : (f : Int) ≤ c := by omega
  have h1 := h.take (k := f) hf
  have h2 := RI.cut h (k := f) (cap := c) hf hnc
  obtain ⟨q, rfl⟩ : ∃ q, n = f + q := ⟨n - f, by omega⟩
  rw [Nat.add_sub_cancel_left] at h2
  have HP : Hid ((putL l f x).map (Value.int .i64) = ((l.take f).map (Value.int .i64) ++ [.int .i64 x]) ++ (l.drop f).map (Value.int .i64)) := Lib.hid (by unfold putL; simp)
  by_cases hcf : c = f
  · obtain rfl : q = 0 := by omega
    rw [if_pos hcf] at h2
    go_enter Tryd.func68, Tryd.ntmps68
    go_wp2_with (first
      | (at_builtin; refine wpList_appendI _ rfl (.tmp 8) (.tmp 11) _ rfl w.heap.size 3 _ _ Tryd.underlying22 infoI rfl _ 0 [] rfl (Row.nil_ _ _ _) (some ⟨g, 0, none⟩) f _ (l.take f) rfl h1 (fun e => by cases e) (by simp only [maxLen]; omega) (by omega) (Nat.le_refl _) ?_
         intro v1 w1 Ra g1
         have hB1 : Below w.heap.size w w1 := (Below.refl _ _).grown g1 (Nat.le_refl _) (fun b hb => ((Row.nil_ w w.heap.size 3).lt b hb).1)
         have hs1 := hB1.size
         rw [Nat.zero_add, List.nil_append] at Ra)
      | (at_builtin; refine wpList_push _ rfl (.tmp 13) (.tmp 15) _ rfl w.heap.size 3 _ _ Tryd.underlying22 infoI rfl (by decide) _ _ _ rfl Ra (.int .i64 x) rfl rfl (by omega) hs1 ?_
         intro v2 w2 Rb g2
         have hB2 : Below w.heap.size w w2 := hB1.grown g2 hs1 (fun b hb => (Ra.lt b hb).1)
         have hs2 := hB2.size
         have h22 := h2.below hB2)
      | (at_builtin; refine wpList_appendI _ rfl (.tmp 17) (.tmp 20) _ rfl w.heap.size 3 _ _ Tryd.underlying22 infoI rfl _ _ _ rfl Rb _ _ _ (l.drop f) rfl h22 (fun e => by cases e) (by simp only [maxLen]; omega) (by omega) hs2 ?_
         intro v3 w3 Rc g3
         have hB3 : Below w.heap.size w w3 := hB2.grown g3 hs2 (fun b hb => (Rb.lt b hb).1)
         rw [← HP.out] at Rc
         obtain ⟨A3, c3, rfl, _, _⟩ := Rc.form))
    go_ret
    exact ⟨A3, c3, rfl, Rc, hB3⟩
  · rw [if_neg hcf, Option.map_some, add_zero_at g f] at h2
    go_enter Tryd.func68, Tryd.ntmps68
    go_wp2_with (first
      | (at_builtin; refine wpList_appendI _ rfl (.tmp 8) (.tmp 11) _ rfl w.heap.size 3 _ _ Tryd.underlying22 infoI rfl _ 0 [] rfl (Row.nil_ _ _ _) (some ⟨g, 0, none⟩) f _ (l.take f) rfl h1 (fun e => by cases e) (by simp only [maxLen]; omega) (by omega) (Nat.le_refl _) ?_
         intro v1 w1 Ra g1
         have hB1 : Below w.heap.size w w1 := (Below.refl _ _).grown g1 (Nat.le_refl _) (fun b hb => ((Row.nil_ w w.heap.size 3).lt b hb).1)
         have hs1 := hB1.size
         rw [Nat.zero_add, List.nil_append] at Ra)
      | (at_builtin; refine wpList_push _ rfl (.tmp 13) (.tmp 15) _ rfl w.heap.size 3 _ _ Tryd.underlying22 infoI rfl (by decide) _ _ _ rfl Ra (.int .i64 x) rfl rfl (by omega) hs1 ?_
         intro v2 w2 Rb g2
         have hB2 : Below w.heap.size w w2 := hB1.grown g2 hs1 (fun b hb => (Ra.lt b hb).1)
         have hs2 := hB2.size
         have h22 := h2.below hB2)
      | (at_builtin; refine wpList_appendI _ rfl (.tmp 17) (.tmp 20) _ rfl w.heap.size 3 _ _ Tryd.underlying22 infoI rfl _ _ _ rfl Rb _ _ _ (l.drop f) rfl h22 (fun e => by cases e) (by simp only [maxLen]; omega) (by omega) hs2 ?_
         intro v3 w3 Rc g3
         have hB3 : Below w.heap.size w w3 := hB2.grown g3 hs2 (fun b hb => (Rb.lt b hb).1)
         rw [← HP.out] at Rc
         obtain ⟨A3, c3, rfl, _, _⟩ := Rc.form))
    go_ret
    rw [show f + 1 + q = f + q + 1 by omega] at Rc ⊢
    exact ⟨A3, c3, rfl, Rc, hB3⟩
set_option maxRecDepth 100000 in
set_option maxHeartbeats 1000000 in
theorem rput_none (x : Int) (w : World) :
    Calls Tryd.prog 68 #[.slice none 0 0, .int .i64 (0 : Nat), .int .i64 x] w fun e w' => ∃ A1 c1, e = .returned (.slice A1 1 c1) ∧ Row w' w.heap.size 3 (.slice A1 1 c1) 1 ([x].map (Value.int .i64)) ∧ Below w.heap.size w w' := by
  have hB0 := Below.refl w.heap.size w
  have hz : ((0 : Nat) : Int) = 0 := rfl
  rw [hz]
  clear hz
  go_enter Tryd.func68, Tryd.ntmps68
  go_wp2_with (first
    | (at_builtin; refine wpList_push _ rfl (.tmp 13) (.tmp 15) _ rfl w.heap.size 3 _ _ Tryd.underlying22 infoI rfl (by decide) _ 0 [] rfl (Row.nil_ _ _ _) (.int .i64 x) rfl rfl (by omega) (Nat.le_refl _) ?_
       intro v2 w2 Rb g2
       have hB2 : Below w.heap.size w w2 := hB0.grown g2 (Nat.le_refl _) (fun b hb => ((Row.nil_ w w.heap.size 3).lt b hb).1)
       have hs2 := hB2.size
       rw [List.nil_append, Nat.zero_add] at Rb
       obtain ⟨g2', c2, rfl, hc2⟩ : ∃ g2' c2, v2 = .slice (some ⟨g2', 0, none⟩) 1 c2 ∧ 1 ≤ c2 := by
         rcases Rb.2 with ⟨_, h0⟩ | ⟨g, cap, cur, hv, _, _, h1, _⟩
         · cases h0
         · exact ⟨g, cap, hv, h1⟩))
  go_ret
  exact ⟨_, c2, rfl, Rb, hB2⟩
theorem rput_ok {base : Nat} {A : Option Addr} {n c : Nat} {l : List Int} {f : Nat} {x : Int} {w : World} (h : Row w base 3 (.slice A n c) n (l.map (Value.int .i64))) (hf : f ≤ n) (hn : n ≤ 1000) :
    Calls Tryd.prog 68 #[.slice A n c, .int .i64 f, .int .i64 x] w fun e w' => ∃ A1 c1, e = .returned (.slice A1 (n + 1) c1) ∧ Row w' w.heap.size 3 (.slice A1 (n + 1) c1) (n + 1) ((putL l f x).map (Value.int .i64)) ∧ Below w.heap.size w w' := by
  have hr := h.reads
  rcases h.2 with ⟨hv, hn0⟩ | ⟨g, cap, cur, hv, _, _, hnc, _⟩
  · injection hv with h1 h2 h3
    subst h1 h2 h3
    obtain rfl : l = [] := List.eq_nil_of_length_eq_zero hr.len
    obtain rfl : f = 0 := by omega
    exact rput_none x w
  · injection hv with h1 h2 h3
    subst h1 h3
    exact rput_some g n c l f x w hr hnc hf hn
theorem swI_succ {t s : List Int} {x y : Int} {j : Nat} (h : s[j]? = some y) : swI t x (s.take (j + 1)) = swI t x (s.take j) + if ixI t x < ixI t y then 1 else 0 := by
  unfold swI
  rw [take_succ_of h, List.countP_append, List.countP_cons, List.countP_nil, Nat.zero_add]
  simp only [decide_eq_true_eq]
theorem swA_succ {t s : List Int} {x : Int} {k : Nat} (h : s[k]? = some x) : swA t s (k + 1) = swA t s k + swI t x (s.take k) := by
  unfold swA
  rw [List.range_succ, List.map_append, List.sum_append, List.map_singleton, List.sum_singleton, List.getD_eq_getElem?_getD, h]; rfl
theorem swI_le (t : List Int) (x : Int) (l : List Int) : swI t x l ≤ l.length := List.countP_le_length

set_option maxRecDepth 100000 in
set_option maxHeartbeats 2000000 in
theorem rswaps_ok (A B : Option Addr) (n c m d : Nat) (s t : List Int) (w : World) (h : RI w A n s) (h' : RI w B m t) (hn : n ≤ 4) (hm : m ≤ 4) :
    Calls Tryd.prog 71 #[.slice A n c, .slice B m d] w (QuietRet w (.int .i64 (swR s t : Nat))) := by
  have HL := Lib.hid h.len
  have HPL := Lib.hid (fun (V : World) (hV : ∃ q, V = w.drewN q) (x : Int) (q : Nat) => rplace_ok B m d t x (V.drewN q) (by obtain ⟨q0, rfl⟩ := hV; exact (h'.drewN q0).drewN q) (by omega))
  have HSL := Lib.hid (fun (V : World) (hV : ∃ q, V = w.drewN q) => show RI V A n s by obtain ⟨q0, rfl⟩ := hV; exact h.drewN _)
  have HNX := Lib.hid (fun (V : World) (q : Nat) (hV : ∃ q, V = w.drewN q) => show ∃ q', V.drewN q = w.drewN q' by obtain ⟨q0, rfl⟩ := hV; exact ⟨q0 + q, World.drewN_drewN _ _ _⟩)
  go_enter Tryd.func71, Tryd.ntmps71
  go_wp2
  go_loopw [5, 6] (fun v5 i wr => ∃ k z : Nat, k ≤ n ∧ i = .int .i64 k ∧ v5 = .int .i64 z ∧ Hid (swA t s k = z) ∧ z ≤ 4 * k ∧ Hid (∃ q, wr = w.drewN q)) (fun _ i _ => n - (intOf i).toNat)
  case atStart => exact ⟨0, 0, by omega, by go_num, by go_num, Lib.hid rfl, by omega, Lib.hid ⟨0, rfl⟩⟩
  case round =>
    obtain ⟨W0, hW0⟩ : ∃ W0, W0 = wr := ⟨_, rfl⟩
    subst hW0
    obtain ⟨k, z, hk, rfl, rfl, HZ, hz, HW0⟩ := hrel
    by_cases hlt : k < n
    · obtain ⟨ad, x, rfl, HX, hcx⟩ := h.at_ hlt
      clear hcx
      go_wp2
      go_loopw [5, 7] (fun v5 i wr => ∃ j z2 : Nat, j ≤ k ∧ i = .int .i64 j ∧ v5 = .int .i64 ((z + z2 : Nat) : Int) ∧ Hid (swI t x (s.take j) = z2) ∧ z2 ≤ j ∧ Hid (∃ q, wr = w.drewN q)) (fun _ i _ => k - (intOf i).toNat)
      case atStart => exact ⟨0, 0, by omega, by go_num, by go_num, Lib.hid rfl, by omega, HW0⟩
      case round =>
        obtain ⟨W1, hW1⟩ : ∃ W1, W1 = wr := ⟨_, rfl⟩
        subst hW1
        obtain ⟨j, z2, hj, rfl, rfl, HZ2, hz2, HW1⟩ := hrel
        by_cases hjk : j < k
        · have hjn : j < n := by omega
          have hs1 := HSL.out W1 HW1.out
          obtain ⟨ad', y, had, HY, hcy⟩ := hs1.at_ hjn
          injection had with had
          subst had
          have hcx := hs1.cellAt HX.out
          have HS := Lib.hid (swI_succ (t := t) (x := x) HY.out)
          have HN1 := Lib.hid (fun q => HNX.out W1 q HW1.out)
          obtain ⟨a, ha⟩ : ∃ a, ixI t y = a := ⟨_, rfl⟩
          obtain ⟨b, hb⟩ : ∃ b, ixI t x = b := ⟨_, rfl⟩
          have qa := fun q => HPL.out W1 HW1.out y q
          have qb := fun q => HPL.out W1 HW1.out x q
          rw [ha, hb] at HS
          rw [ha] at qa
          rw [hb] at qb
          have CA := Lib.hid qa
          have CB := Lib.hid qb
          clear qa qb ha hb
          by_cases hab : b < a
          · have HZ3 : Hid (swI t x (s.take (j + 1)) = z2 + 1) := Lib.hid (by rw [HS.out, if_pos hab, HZ2.out])
            go_wp2
            go_quiet (first
              | (go_at_call_of 67 (Value.int .i64 y); exact Calls.quiet_of_same ((CA.out _).mono fun _ _ ⟨x1, x2⟩ => ⟨x1, x2.symm⟩))
              | (go_at_call_of 67 (Value.int .i64 x); exact Calls.quiet_of_same ((CB.out _).mono fun _ _ ⟨x1, x2⟩ => ⟨x1, x2.symm⟩)))
            go_wp2
            go_roundw
            case rel => exact ⟨j + 1, z2 + 1, by omega, by go_num, by simp; omega, HZ3, by omega, Lib.hid (HN1.out _)⟩
            case measure => simp [intOf]; omega
          · have HZ3 : Hid (swI t x (s.take (j + 1)) = z2) := Lib.hid (by rw [HS.out, if_neg hab, HZ2.out, Nat.add_zero])
            go_wp2
            go_quiet (first
              | (go_at_call_of 67 (Value.int .i64 y); exact Calls.quiet_of_same ((CA.out _).mono fun _ _ ⟨x1, x2⟩ => ⟨x1, x2.symm⟩))
              | (go_at_call_of 67 (Value.int .i64 x); exact Calls.quiet_of_same ((CB.out _).mono fun _ _ ⟨x1, x2⟩ => ⟨x1, x2.symm⟩)))
            go_wp2
            go_roundw
            case rel => exact ⟨j + 1, z2, by omega, by go_num, rfl, HZ3, by omega, Lib.hid (HN1.out _)⟩
            case measure => simp [intOf]; omega
        · obtain rfl : j = k := by omega
          have HZ3 : Hid (swA t s (j + 1) = z + z2) := Lib.hid (by rw [swA_succ HX.out, HZ.out, HZ2.out])
          go_wp2
          go_roundw
          case rel => exact ⟨j + 1, z + z2, by omega, by go_num, rfl, HZ3, by omega, HW1⟩
          case measure => simp [intOf]; omega
    · obtain rfl : k = n := by omega
      have HE : Hid (swR s t = z) := Lib.hid (by unfold swR; rw [HL.out]; exact HZ.out)
      go_wp2
      go_ret
      exact ⟨by rw [HE.out]; rfl, HW0.out⟩

set_option maxRecDepth 100000 in
set_option maxHeartbeats 2000000 in
theorem rforward_ok (A B : Option Addr) (n c d : Nat) (s t : List Int) (x : Int) (w : World) (h : RI w A n s) (h' : RI w B n t) (hn : n ≤ 4) (hs : x ∈ s) (ht : x ∈ t) :
    Calls Tryd.prog 72 #[.slice A n c, .slice B n d, .int .i64 x] w fun e w' => e = .returned (.bool (fwdR s t x)) ∧ Below w.heap.size w w' := by
  have HPS := Lib.hid (rplace_ok A n c s x w h (by omega))
  have HPT := Lib.hid (rplace_ok B n d t x w h' (by omega))
  have hl1 := List.length_erase_of_mem hs
  have hl2 := List.length_erase_of_mem ht
  rw [h.len] at hl1
  rw [h'.len] at hl2
  have HL1 := Lib.hid hl1
  have HL2 := Lib.hid hl2
  clear hs ht hl1 hl2
  obtain ⟨f, hf⟩ : ∃ f, fwdR s t x = f := ⟨_, rfl⟩
  have HF := Lib.hid hf
  rw [hf]
  unfold fwdR at hf
  obtain ⟨a, ha⟩ : ∃ a, ixI s x = a := ⟨_, rfl⟩
  obtain ⟨b, hb⟩ : ∃ b, ixI t x = b := ⟨_, rfl⟩
  rw [ha] at hf HPS
  rw [hb] at hf HPT
  clear ha hb
  by_cases hab : a < b
  · obtain rfl : f = false := by rw [← hf]; simp [hab]
    clear hf
    go_enter Tryd.func72, Tryd.ntmps72
    go_wp2_with fail
    refine HPT.out.mono ?_; rintro e w' ⟨rfl, rfl⟩
    go_wp2_with fail
    refine HPS.out.mono ?_; rintro e w' ⟨rfl, rfl⟩
    go_wp2
    go_ret
    exact ⟨rfl, Below.refl _ _⟩
  · have hfe : f = decide (s.erase x = t.erase x) := by rw [← hf]; simp [hab]
    have HFE := Lib.hid hfe
    clear hf hfe
    go_enter Tryd.func72, Tryd.ntmps72
    go_wp2_with fail
    refine HPT.out.mono ?_; rintro e w' ⟨rfl, rfl⟩
    go_wp2_with fail
    refine HPS.out.mono ?_; rintro e w' ⟨rfl, rfl⟩
    go_wp2_with fail
    refine (without_ok _ _ _ _ _ _ h (by omega)).mono ?_; rintro e w1 ⟨A1, m1, c1, rfl, R1, hB1⟩
    go_wp2_with fail
    refine (without_ok _ _ _ _ _ _ (h'.below hB1) (by omega)).mono ?_; rintro e w2 ⟨A2, m2, c2, rfl, R2, hB2⟩
    have hB02 := hB1.trans (hB2.mono hB1.size)
    have I1 := (R1.below hB2).reads
    have I2 := R2.reads
    obtain rfl : m1 = n - 1 := by have := I1.len; rw [HL1.out] at this; omega
    obtain rfl : m2 = n - 1 := by have := I2.len; rw [HL2.out] at this; omega
    obtain ⟨m, hm⟩ : ∃ m, n - 1 = m := ⟨_, rfl⟩
    rw [hm] at I1 I2 HL1 HL2 ⊢
    have hm3 : m ≤ 3 := by omega
    clear hm R1 R2
    go_wp2
    go_loopw [9] (fun i wr => ∃ k q : Nat, k ≤ m ∧ i = .int .i64 k ∧ Hid ((s.erase x).take k = (t.erase x).take k) ∧ wr = w2.drewN q) (fun i _ => m - (intOf i).toNat)
    case atStart => exact ⟨0, 0, by omega, by go_num, Lib.hid rfl, rfl⟩
    case round =>
      obtain ⟨k, q, hk, rfl, HE, rfl⟩ := hrel
      by_cases hlt : k < m
      · obtain ⟨ad1, y1, rfl, HY1, hc1⟩ := I1.at_ hlt
        obtain ⟨ad2, y2, rfl, HY2, hc2⟩ := I2.at_ hlt
        by_cases hy : y1 = y2
        · have HE2 := Lib.hid (take_eq_succ HE.out HY1.out (hy ▸ HY2.out))
          have hd : decide (y1 = y2) = true := by simp [hy]
          have hb : (y1 == y2) = true := by simp [hy]
          subst hy
          go_wp2
          go_quiet (fail)
          go_wp2
          go_roundw
          case rel => exact ⟨k + 1, _, by omega, by go_num, HE2, rfl⟩
          case measure => simp [intOf]; omega
        · have HN : Hid (f = false) := Lib.hid (by
            rw [HFE.out, decide_eq_false_iff_not]
            intro e
            have := HY1.out.symm.trans ((congrArg (·[k]?) e).trans HY2.out)
            injection this with this
            exact hy this)
          have hd : decide (y1 = y2) = false := by simp [hy]
          have hb : (y1 == y2) = false := by simp [hy]
          clear HF HFE
          obtain rfl := HN.out
          go_wp2
          go_quiet (fail)
          go_wp2
          go_ret
          exact ⟨rfl, belowN (belowN hB02 q) _⟩
      · obtain rfl : k = m := by omega
        have HN : Hid (f = true) := Lib.hid (by
          rw [HFE.out, decide_eq_true_iff]
          have := HE.out
          rwa [List.take_of_length_le (by rw [HL1.out]; omega), List.take_of_length_le (by rw [HL2.out]; omega)] at this)
        clear HF HFE
        obtain rfl := HN.out
        go_wp2
        go_ret
        exact ⟨rfl, belowN hB02 _⟩
end Go.Proofs.YtmeamgeojcbljaaDoor
