/- The walks of slices.IndexFunc (as serve.Double calls it) and serve.Double. -/
import Derived.Test.YtmeamgeojcbljaaDoorServeChk
import Derived.Test.YtmeamgeojcbljaaDoorServeRun
import Derived.Test.YtmeamgeojcbljaaDoorSorted
import Derived.StillTailTactics
import Derived.Deep.OwnRows
import Derived.Laws.OwnMore
namespace Go.Proofs.YtmeamgeojcbljaaDoor
open Go.ChangeShapes Go.WideShapes Go.ChangeAt Go.RowKit

set_option maxHeartbeats 1000000 in
theorem closD_ok (Bx : Nat) (p x : Int) (w : World) (hx : w.cell? ⟨Bx, 0, none⟩ = some (.int .i64 x)) :
    Calls Tryd.prog 89 #[.int .i64 p, .pointer (some ⟨Bx, 0, none⟩)] w fun e w' => e = .returned (.bool (decide (x ≤ p))) ∧ w = w' := by
  go_enter Tryd.func89, Tryd.ntmps89
  go_wp2
  go_ret
  exact ⟨by simp, rfl⟩

set_option maxHeartbeats 2000000 in
theorem indexFunc_ok (A : Option Addr) (n c : Nat) (s : List Int) (Bx : Nat) (x : Int) (w : World) (h : RI w A n s) (hx : w.cell? ⟨Bx, 0, none⟩ = some (.int .i64 x)) (hn8 : n ≤ 1048576) :
    Calls Tryd.prog 88 #[.slice A n c, .func (.func 89) #[] #[.pointer (some ⟨Bx, 0, none⟩)]] w fun e w' =>
      e = .returned (.int .i64 (if rightI s x = n then -1 else (rightI s x : Int))) ∧ w = w' := by
  have HL := Lib.hid h.len
  have HX := Lib.hid hx
  obtain ⟨v, hv⟩ : ∃ v : Int, (if rightI s x = n then -1 else (rightI s x : Int)) = v := ⟨_, rfl⟩
  rw [hv]
  have HV := Lib.hid hv
  clear hv
  go_enter Tryd.func88, Tryd.ntmps88
  go_wp2
  go_loop [8] (fun i => ∃ k : Nat, k ≤ n ∧ i = .int .i64 k ∧ Hid (k ≤ rightI s x)) (fun i => n - (intOf i).toNat)
  case atStart => exact ⟨0, by omega, by go_num, Lib.hid (Nat.zero_le _)⟩
  case round =>
    obtain ⟨k, hk, rfl, hlow⟩ := hrel
    by_cases hlt : k < n
    · obtain ⟨ad, y, rfl, hy, hcy⟩ := h.at_ hlt
      have hyD : s.getD k 0 = y := by rw [List.getD_eq_getElem?_getD, hy.out]; rfl
      have HC := Lib.hid (fun w' (hw : w = w') => (closD_ok Bx y x w' (hw ▸ HX.out)))
      by_cases hxy : x ≤ y
      · have hr : rightI s x = k := by
          have h1 := hlow.out
          rcases Nat.lt_or_ge k (rightI s x) with h2 | h2
          · have := rightI_lt h2; omega
          · omega
        have hne : ¬ k = n := by omega
        have HV2 : Hid (v = k) := Lib.hid (by have := HV.out; rw [hr, if_neg hne] at this; exact this.symm)
        clear hyD hlow hr
        have hd : decide (x ≤ y) = true := by simpa using hxy
        go_wp2_with fail
        refine (HC.out _ rfl).mono ?_; rintro e w' ⟨rfl, rfl⟩
        go_wp2
        go_ret
        exact ⟨by rw [HV2.out]; rfl, rfl⟩
      · have hr : k + 1 ≤ rightI s x := by
          have h1 := hlow.out
          rcases Nat.lt_or_ge k (rightI s x) with h2 | h2
          · omega
          · exfalso
            have e : rightI s x = k := by omega
            have := rightI_ge (s := s) (x := x) (by rw [e, HL.out]; exact hlt)
            rw [e, hyD] at this
            exact hxy this
        have HR := Lib.hid hr
        clear hyD hlow hr
        have hd : decide (x ≤ y) = false := by simpa using hxy
        go_wp2_with fail
        refine (HC.out _ rfl).mono ?_; rintro e w' ⟨rfl, rfl⟩
        go_wp2
        go_round
        case rel => exact ⟨k + 1, by omega, by go_num, HR⟩
        case measure => simp [intOf]; omega
    · obtain rfl : k = n := by omega
      have hr : rightI s x = k := by have := rightI_le s x; have h1 := HL.out; have h2 := hlow.out; omega
      have HV2 : Hid (v = -1) := Lib.hid (by have := HV.out; rw [hr, if_pos rfl] at this; exact this.symm)
      clear hr
      go_wp2
      go_ret
      exact ⟨by rw [HV2.out]; rfl, rfl⟩

theorem Row.base_lo {w : World} {base base' : Nat} {e : TypeId} {v : Value} {n : Nat} {xs : List Value} (h : Row w base e v n xs) (hb : base' ≤ base) : Row w base' e v n xs := by
  refine ⟨h.1, ?_⟩
  rcases h.2 with h | ⟨g, cap, cur, h1, h2, h3⟩
  · exact .inl h
  · exact .inr ⟨g, cap, cur, h1, by omega, h3⟩

theorem double_no (A Ac : Option Addr) (n c m cc : Nat) (s a : List Int) (w : World) (h : RI w A n s) (hc : RI w Ac m a) (hn : n ≤ 9223372036854775807) (hm : m ≤ 9223372036854775807) (hg : ¬ GoodS s a) :
    Calls Tryd.prog 42 #[.slice A n c, .slice Ac m cc] w fun e w' =>
      e = .returned (.tuple #[.int .i64 0, .slice none 0 0, .iface 65 (.int .i64 (serveE s a))]) ∧ w = w' := by
  have HG := Lib.hid hg
  clear hg
  go_enter Tryd.func42, Tryd.ntmps42
  go_wp2_with fail
  refine (scheck_no _ _ _ _ _ _ _ _ _ h hc hn hm HG.out).mono ?_; rintro e w' ⟨rfl, rfl⟩
  go_wp2
  exact bodyPost_ret (v := .tuple #[.int .i64 0, .slice none 0 0, .iface 65 (.int .i64 (serveE s a))]) (by simp [results, Tryd.results42, go_sem]) rfl ⟨rfl, rfl⟩

set_option maxRecDepth 100000 in
set_option maxHeartbeats 4000000 in
theorem double_ok (A Ac : Option Addr) (n c m cc : Nat) (s a0 : List Int) (w : World) (h : RI w A n s) (hc : RI w Ac m a0) (hg : GoodS s a0) :
    Calls Tryd.prog 42 #[.slice A n c, .slice Ac m cc] w fun e w' => ∃ A' c', e = .returned (.tuple #[.int .i64 (runS dstep s a0).1, .slice A' n c', .nilIface]) ∧
      Row w' w.heap.size 3 (.slice A' n c') n ((runS dstep s a0).2.map (Value.int .i64)) ∧ Below w.heap.size w w' := by
  have HG := Lib.hid hg
  have hmx : Tryd.prog.follows .mixedOrders = true := by kernel_rfl
  have hn3 : n ≤ 3 := by have := h.len; have := HG.out.2.1; omega
  have hm20 : m ≤ 20 := by have := hc.len; have := HG.out.2.2.1; omega
  have hn0 : 0 < n := by
    have h0 := h.len
    have := HG.out.1
    rcases Nat.eq_zero_or_pos n with e | e
    · exact absurd (List.eq_nil_of_length_eq_zero (by omega)) this
    · exact e
  have HON := Lib.hid (show onL n s from ⟨h.len, HG.out.2.2.2.1⟩)
  have hB0 := (Below.refl w.heap.size w).alloc (Nat.le_refl _) (.cells #[.slice A n c] 22)
  have hx0 : Boxed (w.alloc (.cells #[.slice A n c] 22)) w.heap.size 22 (.slice A n c) := Boxed.new w _ _
  have h0 := h.below hB0
  clear hg
  go_enter Tryd.func42, Tryd.ntmps42
  go_wp2_with fail
  refine (scheck_ok _ _ _ _ _ _ _ _ _ h hc HG.out).mono ?_; rintro e w' ⟨rfl, rfl⟩
  go_wp2_with fail
  refine (values_ok A n c w).mono ?_; rintro e w' ⟨rfl, rfl⟩
  go_wp2_with fail
  refine (sorted_ok w.heap.size A n c s _ h0 hx0.lt hx0.cell (by omega)).mono ?_; rintro e w1 ⟨A1, c1, rfl, R1, hB1⟩
  have hB := hB0.trans (hB1.mono hB0.size)
  have hs1 : w.heap.size + 1 ≤ w1.heap.size := by have := hB1.size; simp at this; exact this
  rw [World.size_alloc] at R1
  obtain ⟨g, rfl, hgb, hgs⟩ : ∃ g, A1 = some ⟨g, 0, none⟩ ∧ w.heap.size < g ∧ g < w1.heap.size := by
    rcases R1.2 with ⟨e, _⟩ | ⟨g, cap, cur, e, hb, hh, _⟩
    · cases e; omega
    · cases e; exact ⟨g, rfl, hb, (Array.getElem?_eq_some_iff.1 hh).1⟩
  have hcc1 : n ≤ c1 := by
    obtain ⟨A10, c10, hv10, hc10, _⟩ := R1.form
    cases hv10; exact hc10
  clear h0 hx0 hB0 hB1
  go_wp2
  go_loopw [9, 25] (fun v9 i wr => ∃ (j : Nat) (sm : Int) (q : List Int), j ≤ m ∧ i = .int .i64 j ∧ v9 = .int .i64 sm ∧ Hid (runS dstep s (a0.take j) = (sm, q)) ∧ Row wr (w.heap.size + 1) 3 (.slice (some ⟨g, 0, none⟩) n c1) n (q.map (Value.int .i64)) ∧ Below w.heap.size w wr) (fun _ i _ => m - (intOf i).toNat)
  case atStart => exact ⟨0, 0, sortI s, by omega, by go_num, by go_num, Lib.hid rfl, R1, hB⟩
  case round =>
    obtain ⟨j, sm, q, hj, rfl, rfl, hq, R, hBr⟩ := hrel
    have hrs := hBr.size
    by_cases hlt : j < m
    · obtain ⟨adc, x, rfl, hx, hcx⟩ := (hc.below hBr).at_ hlt
      have hxin := HG.out.2.2.2.2 x (List.mem_of_getElem? hx.out)
      have hrg := runS_in' (f := dstep) (fun s x => dstep_in) HON.out (a0.take j) (fun y hy => HG.out.2.2.2.2 y (List.mem_of_mem_take hy))
      rw [hq.out] at hrg
      obtain ⟨m1, m2, hqn⟩ := hrg
      have hjl : (a0.take j).length ≤ 20 := by rw [List.length_take]; have := HG.out.2.2.1; omega
      have hsm : 0 ≤ sm ∧ sm ≤ 240 := ⟨m1, by dsimp only at m2; omega⟩
      have hnext : Hid (runS dstep s (a0.take (j + 1)) = (sm + (dstep q x).1, sortI (dstep q x).2)) := Lib.hid (by rw [take_succ_of hx.out, runS_snoc, hq.out])
      have hql : q.length = n := hqn.1
      have HQ := Lib.hid hqn
      clear m1 m2 hqn hjl
      go_wp2_with fail
      have gX := (Below.refl wr.heap.size wr).alloc (Nat.le_refl _) (.cells #[.int .i64 x] 3)
      have bx := Boxed.new wr 3 (.int .i64 x)
      obtain ⟨WX, hWX⟩ : ∃ WX, wr.alloc (.cells #[.int .i64 x] 3) = WX := ⟨_, rfl⟩
      rw [hWX] at gX bx ⊢
      have RX := R.below gX
      have hBX := hBr.trans (gX.mono hrs)
      clear hWX
      refine (indexFunc_ok _ n c1 q wr.heap.size x WX (Row.reads RX) bx.cell (by omega)).mono ?_
      rintro e w' ⟨rfl, rfl⟩
      obtain ⟨r, hr⟩ : ∃ r, rightI q x = r := ⟨_, rfl⟩
      have hrn : r ≤ n := by rw [← hr, ← hql]; exact rightI_le q x
      rw [hr]
      have cx := bx.cell
      have HCE : Hid (∀ k, k < n → WX.cell? ⟨g, k, none⟩ = some (.int .i64 (q.getD k 0))) := Lib.hid (fun k hk => by
        rw [World.ownsRow.cellAt RX k (by omega), List.getElem?_map, List.getD_eq_getElem?_getD, List.getElem?_eq_getElem (by omega)]; rfl)
      have HFR : Hid (∀ k, WX.frozen? ⟨g, k, none⟩ = false) := Lib.hid (fun k => World.ownsRow.frozenAt RX k)
      have HSO : Hid (∀ d k u, Calls Tryd.prog 91 #[.slice (some ⟨g, 0, none⟩) n c1] ((WX.drewN d).setCell ⟨g, k, none⟩ (.int .i64 u)) fun e w' => e = .returned (.tuple #[]) ∧
          Row w' (w.heap.size + 1) 3 (.slice (some ⟨g, 0, none⟩) n c1) n ((sortI (q.set k u)).map (Value.int .i64)) ∧ Below w.heap.size w w') := Lib.hid (fun d k u => by
        obtain ⟨y1, y2⟩ := World.ownsRow.stored (RX.drewN d) k (.int .i64 u)
        have y3 : Below w.heap.size w ((WX.drewN d).setCell ⟨g, k, none⟩ (.int .i64 u)) := (belowN hBX d).grown y2 (by have := hBX.size; exact this) (fun b hb => by cases hb; omega)
        exact (sort_own (w.heap.size + 1) _ n c1 (q.set k u) _ (by rw [List.map_set]; exact y1) (by omega)).mono fun _ _ ⟨z1, z2, z3⟩ => ⟨z1, z2, y3.grown z3 y3.size (fun b hb => by cases hb; show w.heap.size ≤ g; omega)⟩)
      have HAP : Hid (∀ y W, 0 ≤ y ∧ y ≤ 12 → Calls Tryd.prog 90 #[.int .i64 y, .int .i64 x] W fun e w' => e = .returned (.int .i64 (absI y x)) ∧ w' = W) := Lib.hid (fun y W hy => (apart_any y x _ hy hxin).mono fun _ _ ⟨x1, x2⟩ => ⟨x1, x2.symm⟩)
      have HRX := Lib.hid RX
      clear R hBr bx gX RX
      by_cases e1 : r = n
      · rw [if_pos e1]
        have hD : dstep q x = (absI (q.getD (n - 1) 0) x, q.set (n - 1) x) := by unfold dstep; rw [if_pos (by rw [hr, e1, hql]), hql]
        obtain ⟨n1, hn1⟩ : ∃ n1, n - 1 = n1 := ⟨_, rfl⟩
        rw [hn1] at hD
        have hz1 : ((n : Int) - 1) = n1 := by omega
        have hn1n : n1 < n := by omega
        have hw1 : IntKind.i64.wrap (n1 : Int) = n1 := IntWalk.i64_in _ (by omega)
        obtain ⟨y, hy⟩ : ∃ y, q.getD n1 0 = y := ⟨_, rfl⟩
        have hyin := onL_getD HQ.out n1
        have cy := HCE.out n1 hn1n
        rw [hy] at hyin cy hD
        have hfr := HFR.out n1
        have hab := absI_in hyin hxin
        obtain ⟨ab, hab2⟩ : ∃ ab, absI y x = ab := ⟨_, rfl⟩
        have HAP2 : Hid (∀ W, Calls Tryd.prog 90 #[.int .i64 y, .int .i64 x] W fun e w' => e = .returned (.int .i64 ab) ∧ w' = W) := Lib.hid (fun W => by have := HAP.out y W hyin; rwa [hab2] at this)
        rw [hab2] at hab hD
        have hws : wrap64 (sm + ab) = sm + ab := IntWalk.wrap64_in _ (by omega)
        have HN : Hid (runS dstep s (a0.take (j + 1)) = (sm + ab, sortI (q.set n1 x))) := Lib.hid (by have := hnext.out; rwa [hD] at this)
        clear hD hy hab2 hn1 hnext
        go_wp2
        go_quiet (fail)
        go_wp2
        go_quiet ((go_at_call 90; exact (HAP2.out _).mono (fun _ _ ⟨h1, h2⟩ => ⟨h1, _, h2⟩)))
        go_wp2_with fail
        refine (HSO.out _ _ _).mono ?_; rintro e w3 ⟨rfl, R3, hB3⟩
        go_wp2
        go_roundw
        case rel => exact ⟨j + 1, _, _, by omega, by go_num, by go_num, HN, R3, hB3⟩
        case measure => simp [intOf]; omega
      · rw [if_neg e1]
        have hrl : r < n := by omega
        obtain ⟨y, hy⟩ : ∃ y, q.getD r 0 = y := ⟨_, rfl⟩
        have hyin := onL_getD HQ.out r
        have cy := HCE.out r hrl
        rw [hy] at hyin cy
        have hfr := HFR.out r
        by_cases e2 : r = 0 ∨ y = x
        · have hD : dstep q x = (absI y x, q.set r x) := by unfold dstep; rw [if_neg (by rw [hr, hql]; exact e1), if_pos (by rw [hr, hy]; exact e2), hr, hy]
          have hab := absI_in hyin hxin
          obtain ⟨ab, hab2⟩ : ∃ ab, absI y x = ab := ⟨_, rfl⟩
          have HAP2 : Hid (∀ W, Calls Tryd.prog 90 #[.int .i64 y, .int .i64 x] W fun e w' => e = .returned (.int .i64 ab) ∧ w' = W) := Lib.hid (fun W => by have := HAP.out y W hyin; rwa [hab2] at this)
          rw [hab2] at hab hD
          have hws : wrap64 (sm + ab) = sm + ab := IntWalk.wrap64_in _ (by omega)
          have HN : Hid (runS dstep s (a0.take (j + 1)) = (sm + ab, sortI (q.set r x))) := Lib.hid (by have := hnext.out; rwa [hD] at this)
          clear hD hab2 hnext hy
          have hri : (0 : Int) ≤ r := by omega
          have hrni : (r : Int) < n := by omega
          rcases Nat.eq_zero_or_pos r with e3 | e3
          · subst e3
            clear e2
            go_wp2
            go_quiet (fail)
            go_wp2
            go_quiet ((go_at_call 90; exact (HAP2.out _).mono (fun _ _ ⟨h1, h2⟩ => ⟨h1, _, h2⟩)))
            go_wp2_with fail
            refine (HSO.out _ _ _).mono ?_; rintro e w3 ⟨rfl, R3, hB3⟩
            go_wp2
            go_roundw
            case rel => exact ⟨j + 1, _, _, by omega, by go_num, by go_num, HN, R3, hB3⟩
            case measure => simp [intOf]; omega
          · obtain rfl : y = x := by omega
            have hr0 : ((r : Int) == 0) = false := by simp; omega
            have hr1 : decide ((0 : Int) < r) = true := by simp; omega
            have hyy : (y == y) = true := by simp
            clear e2
            go_wp2
            go_quiet (fail)
            go_wp2
            go_quiet ((go_at_call 90; exact (HAP2.out _).mono (fun _ _ ⟨h1, h2⟩ => ⟨h1, _, h2⟩)))
            go_wp2_with fail
            refine (HSO.out _ _ _).mono ?_; rintro e w3 ⟨rfl, R3, hB3⟩
            go_wp2
            go_roundw
            case rel => exact ⟨j + 1, _, _, by omega, by go_num, by go_num, HN, R3, hB3⟩
            case measure => simp [intOf]; omega
        · have hrp : 0 < r := by omega
          have hyx : x < y := by
            have := rightI_ge (s := q) (x := x) (by rw [hr, hql]; exact hrl)
            rw [hr, hy] at this; omega
          obtain ⟨r1, hr1⟩ : ∃ r1, r - 1 = r1 := ⟨_, rfl⟩
          obtain ⟨p, hp⟩ : ∃ p, q.getD r1 0 = p := ⟨_, rfl⟩
          have hpx : p < x := by
            have := rightI_lt (s := q) (x := x) (i := r1) (by rw [hr]; omega)
            rwa [hp] at this
          have hpin := onL_getD HQ.out r1
          have cp := HCE.out r1 (by omega)
          rw [hp] at hpin cp
          have hfr1 := HFR.out r1
          obtain ⟨d, hd⟩ : ∃ d, min (x - p) (y - x) = d := ⟨_, rfl⟩
          have hD : dstep q x = (2 * d, (q.set r1 (p + d)).set r (y - d)) := by
            have hm : midD q x = d := by unfold midD; rw [hr, hr1, hp, hy]; exact hd
            unfold dstep
            rw [if_neg (by rw [hr, hql]; exact e1), if_neg (by rw [hr, hy]; exact e2), hm, hr, hr1, hp, hy]
          have hdr : 0 < d ∧ d ≤ x - p ∧ d ≤ y - x := by omega
          have HN : Hid (runS dstep s (a0.take (j + 1)) = (sm + 2 * d, sortI ((q.set r1 (p + d)).set r (y - d)))) := Lib.hid (by have := hnext.out; rwa [hD] at this)
          have hw1 : IntKind.i64.wrap (r1 : Int) = r1 := IntWalk.i64_in _ (by omega)
          have hz1 : ((r : Int) - 1) = r1 := by omega
          have hr0 : ((r : Int) == 0) = false := by simp; omega
          have hrp2 : decide ((0 : Int) < r) = true := by simp; omega
          have hyy : (y == x) = false := by simp; omega
          have hrlt : ¬ (r : Int) < 0 := by omega
          have hrni : (r : Int) < n := by omega
          have hrni1 : (r1 : Int) < n := by omega
          have hwa : IntKind.i64.wrap (x - p) = x - p := IntWalk.i64_in _ (by omega)
          have hwb : IntKind.i64.wrap (y - x) = y - x := IntWalk.i64_in _ (by omega)
          have hwc : wrap64 (p + d) = p + d := IntWalk.wrap64_in _ (by omega)
          have hwd : wrap64 (y - d) = y - d := IntWalk.wrap64_in _ (by omega)
          have hwe : wrap64 (2 * d) = 2 * d := IntWalk.wrap64_in _ (by omega)
          have hwf : wrap64 (sm + 2 * d) = sm + 2 * d := IntWalk.wrap64_in _ (by omega)
          have HR1 := Lib.hid hr1
          clear hD hnext hr1 hp hy e2
          go_wp2
          go_quiet (fail)
          go_wp2
          refine wp_region_still_lit hmx (by kernel_rfl) ?_
          obtain ⟨WY, hWY⟩ : ∃ WY, ({ (WX.drewN nq) with drawn := (WX.drewN nq).drawn + 1 } : World) = WY := ⟨_, rfl⟩
          have cx' : WY.cell? ⟨wr.heap.size, 0, none⟩ = some (.int .i64 x) := hWY ▸ cx
          have cy' : WY.cell? ⟨g, r, none⟩ = some (.int .i64 y) := hWY ▸ cy
          have cp' : WY.cell? ⟨g, r1, none⟩ = some (.int .i64 p) := hWY ▸ cp
          have RY : Row WY (w.heap.size + 1) 3 (.slice (some ⟨g, 0, none⟩) n c1) n (q.map (Value.int .i64)) := hWY ▸ (HRX.out.drewN nq).drewN 1
          have BY : Below w.heap.size w WY := hWY ▸ belowN (belowN hBX nq) 1
          have hfr' : WY.frozen? ⟨g, r, none⟩ = false := World.ownsRow.frozenAt RY r
          have hfr1' : WY.frozen? ⟨g, r1, none⟩ = false := World.ownsRow.frozenAt RY r1
          rw [hWY]
          clear hWY cx cy cp hfr hfr1
          repeat still_step
          refine wpStill_nil ?_
          clear hd hwa hwb
          obtain ⟨RZ, gZ⟩ := World.ownsRow.stored RY r1 (.int .i64 (p + d))
          have BZ : Below w.heap.size w (WY.setCell ⟨g, r1, none⟩ (.int .i64 (p + d))) := BY.grown gZ (by have := BY.size; exact this) (fun b hb => by cases hb; omega)
          have hrr : r1 ≠ r := by omega
          have hcs : (WY.setCell ⟨g, r1, none⟩ (.int .i64 (p + d))).cell? ⟨g, r, none⟩ = some (.int .i64 y) := by
            rw [World.ownsRow.cellAt RZ r (by omega), List.getElem?_set, if_neg hrr]
            exact (World.ownsRow.cellAt RY r (by omega)).symm.trans cy'
          have hfs : (WY.setCell ⟨g, r1, none⟩ (.int .i64 (p + d))).frozen? ⟨g, r, none⟩ = false := World.ownsRow.frozenAt RZ r
          obtain ⟨RV, gV⟩ := World.ownsRow.stored RZ r (.int .i64 (y - d))
          have BV := BZ.grown gV (by have := BZ.size; exact this) (fun b hb => by cases hb; omega)
          have HRV := Lib.hid RV
          have HBV := Lib.hid BV
          clear RZ gZ BZ RV gV BV hz1 hw1 hrni1 hcs
          obtain rfl := HR1.out
          repeat (first | go_skip | go_guarded | go_step)
          obtain ⟨WV, hWV⟩ : ∃ WV, ((WY.setCell ⟨g, r - 1, none⟩ (.int .i64 (p + d))).setCell ⟨g, r, none⟩ (.int .i64 (y - d))) = WV := ⟨_, rfl⟩
          rw [hWV] at HRV HBV ⊢
          clear hWV
          go_wp2_with fail
          refine (sort_own (w.heap.size + 1) _ n c1 ((q.set (r - 1) (p + d)).set r (y - d)) _ (by rw [List.map_set, List.map_set]; exact HRV.out) (by omega)).mono ?_
          rintro e w3 ⟨rfl, R3, g3⟩
          have hB3 := HBV.out.grown g3 HBV.out.size (fun b hb => by cases hb; show w.heap.size ≤ g; omega)
          go_wp2
          go_roundw
          case rel => exact ⟨j + 1, _, _, by omega, by go_num, by go_num, HN, R3, hB3⟩
          case measure => simp [intOf]; omega
    · obtain rfl : j = m := by omega
      rw [List.take_of_length_le (by rw [hc.len]; omega)] at hq
      go_wp2
      have hv := hq.out
      exact bodyPost_ret (v := .tuple #[.int .i64 sm, .slice (some ⟨g, 0, none⟩) n c1, .nilIface]) (by simp [results, Tryd.results42, go_sem]) rfl ⟨_, _, by rw [hv], by rw [hv]; exact Row.base_lo R (by omega), hBr⟩

theorem near_no (A Ac : Option Addr) (n c m cc : Nat) (s a : List Int) (w : World) (h : RI w A n s) (hc : RI w Ac m a) (hn : n ≤ 9223372036854775807) (hm : m ≤ 9223372036854775807) (hg : ¬ GoodS s a) :
    Calls Tryd.prog 43 #[.slice A n c, .slice Ac m cc] w fun e w' =>
      e = .returned (.tuple #[.int .i64 0, .slice none 0 0, .iface 65 (.int .i64 (serveE s a))]) ∧ w = w' := by
  have HG := Lib.hid hg
  clear hg
  go_enter Tryd.func43, Tryd.ntmps43
  go_wp2_with fail
  refine (scheck_no _ _ _ _ _ _ _ _ _ h hc hn hm HG.out).mono ?_; rintro e w' ⟨rfl, rfl⟩
  go_wp2
  exact bodyPost_ret (v := .tuple #[.int .i64 0, .slice none 0 0, .iface 65 (.int .i64 (serveE s a))]) (by simp [results, Tryd.results43, go_sem]) rfl ⟨rfl, rfl⟩

set_option maxRecDepth 100000 in
set_option maxHeartbeats 4000000 in
theorem near_ok (A Ac : Option Addr) (n c m cc : Nat) (s a0 : List Int) (w : World) (h : RI w A n s) (hc : RI w Ac m a0) (hg : GoodS s a0) :
    Calls Tryd.prog 43 #[.slice A n c, .slice Ac m cc] w fun e w' => ∃ A' c', e = .returned (.tuple #[.int .i64 (runS nstep s a0).1, .slice A' n c', .nilIface]) ∧
      Row w' w.heap.size 3 (.slice A' n c') n ((runS nstep s a0).2.map (Value.int .i64)) ∧ Below w.heap.size w w' := by
  have HG := Lib.hid hg
  have hn3 : n ≤ 3 := by have := h.len; have := HG.out.2.1; omega
  have hm20 : m ≤ 20 := by have := hc.len; have := HG.out.2.2.1; omega
  have hn0 : 0 < n := by
    have h0 := h.len
    have := HG.out.1
    rcases Nat.eq_zero_or_pos n with e | e
    · exact absurd (List.eq_nil_of_length_eq_zero (by omega)) this
    · exact e
  have HON := Lib.hid (show onL n s from ⟨h.len, HG.out.2.2.2.1⟩)
  have hB0 := (Below.refl w.heap.size w).alloc (Nat.le_refl _) (.cells #[.slice A n c] 22)
  have hx0 : Boxed (w.alloc (.cells #[.slice A n c] 22)) w.heap.size 22 (.slice A n c) := Boxed.new w _ _
  have h0 := h.below hB0
  clear hg
  go_enter Tryd.func43, Tryd.ntmps43
  go_wp2_with fail
  refine (scheck_ok _ _ _ _ _ _ _ _ _ h hc HG.out).mono ?_; rintro e w' ⟨rfl, rfl⟩
  go_wp2_with fail
  refine (values_ok A n c w).mono ?_; rintro e w' ⟨rfl, rfl⟩
  go_wp2_with fail
  refine (sorted_ok w.heap.size A n c s _ h0 hx0.lt hx0.cell (by omega)).mono ?_; rintro e w1 ⟨A1, c1, rfl, R1, hB1⟩
  have hB := hB0.trans (hB1.mono hB0.size)
  rw [World.size_alloc] at R1
  obtain ⟨g, rfl, hgb, hgs⟩ : ∃ g, A1 = some ⟨g, 0, none⟩ ∧ w.heap.size < g ∧ g < w1.heap.size := by
    rcases R1.2 with ⟨e, _⟩ | ⟨g, cap, cur, e, hb, hh, _⟩
    · cases e; omega
    · cases e; exact ⟨g, rfl, hb, (Array.getElem?_eq_some_iff.1 hh).1⟩
  clear h0 hx0 hB0 hB1
  go_wp2
  go_loopw [9, 25] (fun v9 i wr => ∃ (j : Nat) (sm : Int) (q : List Int), j ≤ m ∧ i = .int .i64 j ∧ v9 = .int .i64 sm ∧ Hid (runS nstep s (a0.take j) = (sm, q)) ∧ Row wr (w.heap.size + 1) 3 (.slice (some ⟨g, 0, none⟩) n c1) n (q.map (Value.int .i64)) ∧ Below w.heap.size w wr) (fun _ i _ => m - (intOf i).toNat)
  case atStart => exact ⟨0, 0, sortI s, by omega, by go_num, by go_num, Lib.hid rfl, R1, hB⟩
  case round =>
    obtain ⟨j, sm, q, hj, rfl, rfl, hq, R, hBr⟩ := hrel
    have hrs := hBr.size
    by_cases hlt : j < m
    · obtain ⟨adc, x, rfl, hx, hcx⟩ := (hc.below hBr).at_ hlt
      have hxin := HG.out.2.2.2.2 x (List.mem_of_getElem? hx.out)
      have hrg := runS_in' (f := nstep) (fun s x => nstep_in) HON.out (a0.take j) (fun y hy => HG.out.2.2.2.2 y (List.mem_of_mem_take hy))
      rw [hq.out] at hrg
      obtain ⟨m1, m2, hqn⟩ := hrg
      have hjl : (a0.take j).length ≤ 20 := by rw [List.length_take]; have := HG.out.2.2.1; omega
      have hsm : 0 ≤ sm ∧ sm ≤ 240 := ⟨m1, by dsimp only at m2; omega⟩
      have hnext : Hid (runS nstep s (a0.take (j + 1)) = (sm + (nstep q x).1, sortI (nstep q x).2)) := Lib.hid (by rw [take_succ_of hx.out, runS_snoc, hq.out])
      have hql : q.length = n := hqn.1
      have HQ := Lib.hid hqn
      have hqne : q ≠ [] := fun e => by rw [e] at hql; simp at hql; omega
      have HBL : Hid (∀ k, k ≤ n → bestI q x k < n) := Lib.hid (fun k hk => by have := bestI_lt q x hqne k (by omega); omega)
      have HAP : Hid (∀ y W, 0 ≤ y ∧ y ≤ 12 → Calls Tryd.prog 90 #[.int .i64 y, .int .i64 x] W fun e w' => e = .returned (.int .i64 (absI y x)) ∧ w' = W) := Lib.hid (fun y W hy => (apart_any y x _ hy hxin).mono fun _ _ ⟨x1, x2⟩ => ⟨x1, x2.symm⟩)
      clear m1 m2 hqn hjl hqne
      go_wp2_with fail
      go_loopw [12, 31] (fun v12 i W => ∃ k b : Nat, k ≤ n ∧ i = .int .i64 k ∧ v12 = .int .i64 b ∧ Hid (bestI q x k = b) ∧ Row W (w.heap.size + 1) 3 (.slice (some ⟨g, 0, none⟩) n c1) n (q.map (Value.int .i64)) ∧ Below w.heap.size w W) (fun _ i _ => n - (intOf i).toNat)
      case atStart => exact ⟨0, 0, by omega, by go_num, by go_num, Lib.hid rfl, R, hBr⟩
      case round =>
        clear R hBr
        obtain ⟨k, b, hk, rfl, rfl, hb, R, hBI⟩ := hrel
        have hbn : b < n := by have := HBL.out k hk; rwa [hb.out] at this
        have HCE := Lib.hid (fun (k : Nat) (hk : k < n) => show _ = some (Value.int .i64 (q.getD k 0)) from by
          refine (World.ownsRow.cellAt R k (by omega)).trans ?_
          rw [List.getElem?_map, List.getD_eq_getElem?_getD, List.getElem?_eq_getElem (by omega)]; rfl)
        obtain ⟨y, hy⟩ : ∃ y, q.getD b 0 = y := ⟨_, rfl⟩
        have hyin := onL_getD HQ.out b
        have cy := HCE.out b hbn
        rw [hy] at hyin cy
        have hab := absI_in hyin hxin
        obtain ⟨ab, hab2⟩ : ∃ ab, absI y x = ab := ⟨_, rfl⟩
        have HAY : Hid (∀ W, Calls Tryd.prog 90 #[.int .i64 y, .int .i64 x] W fun e w' => e = .returned (.int .i64 ab) ∧ w' = W) := Lib.hid (fun W => by have := HAP.out y W hyin; rwa [hab2] at this)
        rw [hab2] at hab
        by_cases hlk : k < n
        · obtain ⟨z, hz⟩ : ∃ z, q.getD k 0 = z := ⟨_, rfl⟩
          have hzin := onL_getD HQ.out k
          have cz := HCE.out k hlk
          rw [hz] at hzin cz
          obtain ⟨az, haz⟩ : ∃ az, absI z x = az := ⟨_, rfl⟩
          have HAZ : Hid (∀ W, Calls Tryd.prog 90 #[.int .i64 z, .int .i64 x] W fun e w' => e = .returned (.int .i64 az) ∧ w' = W) := Lib.hid (fun W => by have := HAP.out z W hzin; rwa [haz] at this)
          have HBS : Hid (bestI q x (k + 1) = if az < ab then k else b) := Lib.hid (by
            show (if absI (q.getD k 0) x < absI (q.getD (bestI q x k) 0) x then k else bestI q x k) = _
            rw [hb.out, hz, hy, haz, hab2])
          clear hz hy haz hab2
          have hbi : (b : Int) < n := by omega
          have hki : (k : Int) < n := by omega
          have HR := Lib.hid R
          clear R
          go_wp2
          go_quiet (first
            | (go_at_call_of 90 (Value.int .i64 z); exact (HAZ.out _).mono (fun _ _ ⟨h1, h2⟩ => ⟨h1, _, h2⟩))
            | (go_at_call_of 90 (Value.int .i64 y); exact (HAY.out _).mono (fun _ _ ⟨h1, h2⟩ => ⟨h1, _, h2⟩)))
          by_cases h2 : az < ab
          · have hdd : decide (az < ab) = true := by simpa using h2
            have HBS2 : Hid (bestI q x (k + 1) = k) := Lib.hid (by have := HBS.out; rwa [if_pos h2] at this)
            clear HBS
            go_wp2
            go_roundw
            case rel => exact ⟨k + 1, k, by omega, by go_num, by go_num, HBS2, HR.out.drewN _, belowN hBI _⟩
            case measure => simp [intOf]; omega
          · have hdd : decide (az < ab) = false := by simpa using h2
            have HBS2 : Hid (bestI q x (k + 1) = b) := Lib.hid (by have := HBS.out; rwa [if_neg h2] at this)
            clear HBS
            go_wp2
            go_roundw
            case rel => exact ⟨k + 1, b, by omega, by go_num, by go_num, HBS2, HR.out.drewN _, belowN hBI _⟩
            case measure => simp [intOf]; omega
        · obtain rfl : k = n := by omega
          have hD : nstep q x = (ab, q.set b x) := by unfold nstep; rw [hql, hb.out, hy, hab2]
          have HN : Hid (runS nstep s (a0.take (j + 1)) = (sm + ab, sortI (q.set b x))) := Lib.hid (by have := hnext.out; rwa [hD] at this)
          clear hD hy hab2 hnext
          have hbi : (b : Int) < k := by omega
          have hws : wrap64 (sm + ab) = sm + ab := IntWalk.wrap64_in _ (by omega)
          obtain ⟨RS, gS⟩ := World.ownsRow.stored R b (.int .i64 x)
          have BS := hBI.grown gS (by have := hBI.size; exact this) (fun b hb => by cases hb; omega)
          have hfr : wr.frozen? ⟨g, b, none⟩ = false := World.ownsRow.frozenAt R b
          have HRS := Lib.hid RS
          have HBS := Lib.hid BS
          clear RS gS BS R
          go_wp2_with fail
          refine (HAY.out _).mono ?_; rintro e w' ⟨rfl, rfl⟩
          go_wp2_with fail
          refine (sort_own (w.heap.size + 1) _ k c1 (q.set b x) _ (by rw [List.map_set]; exact HRS.out) (by omega)).mono ?_
          rintro e w3 ⟨rfl, R3, g3⟩
          have hB3 := HBS.out.grown g3 HBS.out.size (fun b hb => by cases hb; show w.heap.size ≤ g; omega)
          go_wp2
          go_roundw
          case rel => exact ⟨j + 1, _, _, by omega, by go_num, by go_num, HN, R3, hB3⟩
          case measure => simp [intOf]; omega
    · obtain rfl : j = m := by omega
      rw [List.take_of_length_le (by rw [hc.len]; omega)] at hq
      go_wp2
      have hv := hq.out
      exact bodyPost_ret (v := .tuple #[.int .i64 sm, .slice (some ⟨g, 0, none⟩) n c1, .nilIface]) (by simp [results, Tryd.results43, go_sem]) rfl ⟨_, _, by rw [hv], by rw [hv]; exact Row.base_lo R (by omega), hBr⟩
end Go.Proofs.YtmeamgeojcbljaaDoor
