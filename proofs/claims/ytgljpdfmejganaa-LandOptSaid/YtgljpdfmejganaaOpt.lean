/- The walk of opt.Run: what it returns, for every input. -/
import Derived.Test.YtgljpdfmejganaaInts
import Derived.Test.YtgljpdfmejganaaLib
import Derived.Test.YtgljpdfmejganaaSorts
import Derived.Test.YtgljpdfmejganaaOptRun
import Derived.Deep.QuietTactic
import Derived.BigQuiet
import Derived.Outline
namespace Go.Proofs.Ytgljpdfmejganaa
open Go.ChangeShapes Go.WideShapes Go.ChangeAt Go.RowKit

theorem Row.base_le {w : World} {base base' : Nat} {e : TypeId} {v : Value} {n : Nat} {xs : List Value} (h : Row w base e v n xs) (hb : base' ≤ base) : Row w base' e v n xs := by
  refine ⟨h.1, ?_⟩
  rcases h.2 with hn | ⟨g, cap, cur, rfl, hb', rest⟩
  · exact .inl hn
  · exact .inr ⟨g, cap, cur, rfl, by omega, rest⟩

theorem next_q (A : Option Addr) (n c : Nat) (l : List Int) (x : Int) (w : World) (h : RI w A n l) (hn : n ≤ 9223372036854775807) :
    Calls Try.prog 30 #[.slice A n c, .int .i64 x] w fun e w' => e = .returned (.int .i64 (l.idxOf x)) ∧ w' = w := by
  have HL := Lib.hid h.len
  by_cases hm : x ∈ l
  · have HE := Lib.hid (ixI_mem hm)
    clear hm
    generalize l.idxOf x = j at *
    have hj : (0 : Int) ≤ j := by omega
    go_enter Try.func30, Try.ntmps30
    go_wp2_with fail
    refine (index_any _ _ _ _ _ _ h hn).mono ?_; rintro e w' ⟨rfl, rfl⟩
    rw [HE.out]
    go_wp2
    go_ret
    exact ⟨rfl, rfl⟩
  · have HE := Lib.hid (ixI_not hm)
    have HN := Lib.hid (show l.idxOf x = n by rw [List.idxOf_eq_length hm]; exact HL.out)
    clear hm
    have hj : ¬ (0 : Int) ≤ -1 := by omega
    go_enter Try.func30, Try.ntmps30
    go_wp2_with fail
    refine (index_any _ _ _ _ _ _ h hn).mono ?_; rintro e w' ⟨rfl, rfl⟩
    rw [HE.out]
    go_wp2
    go_ret
    rw [HN.out]
    exact ⟨rfl, rfl⟩

set_option maxHeartbeats 1000000 in
/-- The closure that tells which of two pages is asked for later. -/
theorem later_q (A : Option Addr) (n c : Nat) (l : List Int) (a b : Int) (ra pa : Addr) (k ia ib : Nat) (w : World) (h : RI w A n l) (hra : w.cell? ra = some (.slice A n c)) (hpa : w.cell? pa = some (.int .i64 k)) (hk : k < n) (hnc : n ≤ c) (hn : n ≤ 40)
    (hia : (l.drop k).idxOf a = ia) (hib : (l.drop k).idxOf b = ib) (h1 : ia ≤ 40) (h2 : ib ≤ 40) :
    Calls Try.prog 29 #[.int .i64 a, .int .i64 b, .pointer (some ra), .pointer (some pa)] w fun e w' => e = .returned (.int .i64 ((ia : Int) - ib)) ∧ ∃ d, w' = w.drewN d := by
  obtain ⟨r, rfl⟩ : ∃ r, n = k + r := ⟨n - k, by omega⟩
  have hck : ¬ c = k := by omega
  have hx := RI.cut h (k := k) (cap := c) (by omega) hnc
  rw [if_neg hck, Nat.add_sub_cancel_left] at hx
  have HX := Lib.hid hx
  have HA := Lib.hid hia
  have HB := Lib.hid hib
  clear hx hia hib
  have hf0 : (0 : Int) ≤ k := by omega
  have hf1 : (k : Int) ≤ (k : Int) + r := by omega
  have qa := fun d => next_q _ r (c - k) _ a _ (HX.out.drewN d) (by omega)
  have qb := fun d => next_q _ r (c - k) _ b _ (HX.out.drewN d) (by omega)
  rw [HA.out] at qa
  rw [HB.out] at qb
  have CA := Lib.hid qa
  have CB := Lib.hid qb
  clear qa qb
  go_enter Try.func29, Try.ntmps29
  go_wp2
  go_quiet (first
    | (go_at_call_of 30 (Value.int .i64 a); exact Calls.quiet_of_same (CA.out _))
    | (go_at_call_of 30 (Value.int .i64 b); exact Calls.quiet_of_same (CB.out _)))
  go_wp2
  go_ret
  exact ⟨rfl, _, rfl⟩

theorem opt_no (A : Option Addr) (n c : Nat) (l : List Int) (slots : Int) (w : World) (h : RI w A n l) (hn : n ≤ 9223372036854775807) (hg : ¬ GoodReqs l slots) :
    Calls Try.prog 8 #[.slice A n c, .int .i64 slots] w fun e w' =>
      e = .returned (.tuple #[.slice none 0 0, .slice none 0 0, .slice none 0 0, .iface 108 (.int .i64 (reqsE l slots))]) ∧ Below w.heap.size w w' := by
  have HG := Lib.hid hg
  clear hg
  have hB0 := (Below.refl w.heap.size w).alloc (Nat.le_refl _) (.cells #[.slice A n c] 22)
  go_enter Try.func8, Try.ntmps8
  go_wp2_with fail
  refine (reqs_no _ _ _ _ _ _ (h.below hB0) hn HG.out).mono ?_; rintro e w' ⟨rfl, rfl⟩
  go_wp2
  exact bodyPost_ret (v := .tuple #[.slice none 0 0, .slice none 0 0, .slice none 0 0, .iface 108 (.int .i64 (reqsE l slots))]) (by simp [results, Try.results8, go_sem]) rfl ⟨rfl, hB0⟩

/-- What opt.Run hands back. -/
def OptRes (w w' : World) (e : Ending) (n : Nat) (r : List Bool × List Int × List Int) : Prop :=
  ∃ A1 c1 A2 n2 c2 A3 n3 c3, e = .returned (.tuple #[.slice A1 n c1, .slice A2 n2 c2, .slice A3 n3 c3, .nilIface]) ∧ Row w' w.heap.size 4 (.slice A1 n c1) n (r.1.map Value.bool) ∧
    Row w' w.heap.size 3 (.slice A2 n2 c2) n2 (r.2.1.map (Value.int .i64)) ∧ Row w' w.heap.size 3 (.slice A3 n3 c3) n3 (r.2.2.map (Value.int .i64)) ∧ n2 ≤ 40 ∧ n3 ≤ 8 ∧ Below w.heap.size w w'

def OptInv (s : Nat) (l : List Int) (w wr : World) (v9 : Value) (A10 : Option Addr) (n10 c10 : Nat) (v11 : Value) (n11 k : Nat) : Prop :=
  ∃ hits outs held, optS s hits outs held (l.drop k) = optF s [] l ∧ Row wr w.heap.size 4 v9 k (hits.map Value.bool) ∧ Row wr w.heap.size 3 (.slice A10 n10 c10) n10 (held.map (Value.int .i64)) ∧
    Row wr w.heap.size 3 v11 n11 (outs.map (Value.int .i64)) ∧ Apart (Value.slice A10 n10 c10).ownBlock v11.ownBlock ∧ n10 ≤ s ∧ n11 ≤ k ∧ Below w.heap.size w wr
theorem drop_atO {l : List Int} {k : Nat} {y : Int} (h : l[k]? = some y) : l.drop k = y :: l.drop (k + 1) := by
  obtain ⟨hk, rfl⟩ := List.getElem?_eq_some_iff.1 h
  exact List.drop_eq_getElem_cons hk

set_option maxRecDepth 100000 in
set_option maxHeartbeats 4000000 in
theorem opt_ok (A : Option Addr) (n c : Nat) (l : List Int) (slots : Int) (wI : World) (hI : RI wI A n l) (hnc : n ≤ c) (hg : GoodReqs l slots) :
    Calls Try.prog 8 #[.slice A n c, .int .i64 slots] wI fun e w' => OptRes wI w' e n (optF slots.toNat [] l) := by
  obtain ⟨s, rfl⟩ : ∃ s : Nat, slots = s := ⟨slots.toNat, by have := hg.2.2.1; omega⟩
  have HL := Lib.hid hI.len
  have HG := Lib.hid hg
  have hn : n ≤ 40 := by have := HL.out; have := hg.1; omega
  have hs1 : 1 ≤ s := by have := hg.2.2.1; omega
  have hs2 : s ≤ 8 := by have := hg.2.2.2; omega
  clear hg
  rw [Int.toNat_natCast]
  have hmf : ∀ (fn : Fn) (first cap : Array Value) (w : World), (Instr.makeFunc fn first cap).run Try.prog w = .ok (.func fn first cap) w := fun _ _ _ _ => rfl
  have hB0 := (Below.refl wI.heap.size wI).alloc (Nat.le_refl _) (.cells #[.slice A n c] 22)
  have hra : (wI.alloc (.cells #[.slice A n c] 22)).cell? ⟨wI.heap.size, 0, none⟩ = some (.slice A n c) := by rw [World.cell?_alloc_at _ _ _ _ rfl]; rfl
  have h := hI.below hB0
  go_enter Try.func8, Try.ntmps8
  go_wp2_with fail
  have HB0 := Lib.hid hB0
  clear hB0
  generalize wI.alloc (.cells #[.slice A n c] 22) = w at *
  generalize (⟨wI.heap.size, 0, none⟩ : Addr) = ra at *
  have hral := cell_lt hra
  refine (reqs_ok _ _ _ _ _ _ h HG.out).mono ?_; rintro e w' ⟨rfl, rfl⟩
  go_wp2
  go_loopw [9, 10, 11, 12, 13, 14, 15, 16, 17, 26] (fun v9 v10 v11 _ _ _ _ _ _ i wr => ∃ k n10 c10 n11 : Nat, ∃ A10, k ≤ n ∧ i = .int .i64 k ∧ v10 = .slice A10 n10 c10 ∧ OptInv s l w wr v9 A10 n10 c10 v11 n11 k) (fun _ _ _ _ _ _ _ _ _ i _ => n - (intOf i).toNat)
  case atStart => exact ⟨0, 0, 0, 0, none, by omega, by go_num, rfl, [], [], [], by simp [optS], Row.nil_ _ _ _, Row.nil_ _ _ _, Row.nil_ _ _ _, .inl rfl, by omega, by omega, Below.refl _ _⟩
  case round =>
    obtain ⟨k, n10, c10, n11, A10, hk, rfl, rfl, hits, outs, held, HF, R9, R10, R11, hap, hn10, hn11, hB⟩ := hrel
    have HF' := Lib.hid HF
    have HAP := Lib.hid hap
    clear HF hap
    have hbs := hB.size
    have hrar : wr.cell? ra = some (.slice A n c) := by rw [hB.cell hral]; exact hra
    by_cases hlt : k < n
    · obtain ⟨ad, y, rfl, HY, hc⟩ := (h.below hB).at_ hlt
      have HD := Lib.hid (drop_atO HY.out)
      have hBA := hB.alloc hbs (.cells #[.int .i64 (k : Int)] 3)
      have hpa : (wr.alloc (.cells #[.int .i64 (k : Int)] 3)).cell? ⟨wr.heap.size, 0, none⟩ = some (.int .i64 (k : Int)) := by rw [World.cell?_alloc_at _ _ _ _ rfl]; rfl
      have R9A : Row (wr.alloc (.cells #[.int .i64 (k : Int)] 3)) w.heap.size 4 _ _ _ := World.ownsRow.alloc R9 _
      have R10A : Row (wr.alloc (.cells #[.int .i64 (k : Int)] 3)) w.heap.size 3 _ _ _ := World.ownsRow.alloc R10 _
      have R11A : Row (wr.alloc (.cells #[.int .i64 (k : Int)] 3)) w.heap.size 3 _ _ _ := World.ownsRow.alloc R11 _
      have L9 := Lib.hid R9.lt
      have L10 := Lib.hid R10.lt
      have L11 := Lib.hid R11.lt
      have hbA := hBA.size
      go_wp2_with fail
      generalize wr.alloc (.cells #[.int .i64 (k : Int)] 3) = wA at *
      refine (contains_any _ _ _ _ _ _ (Row.reads R10A) (by omega)).mono ?_; rintro e w' ⟨rfl, rfl⟩
      by_cases hm : y ∈ held
      · have HB := Lib.hid ((hasB_iff held y).2 hm)
        have HN : Hid (optS s (hits ++ [true]) outs held (l.drop (k + 1)) = optF s [] l) := Lib.hid (by rw [← HF'.out, HD.out, optS_hit hm])
        clear hm
        rw [HB.out]
        go_wp2_with (at_builtin; refine wpList_push _ rfl (.tmp 34) (.tmp 36) _ rfl w.heap.size 4 _ _ Try.underlying28 infoB rfl (by decide) _ _ _ rfl R9A (.bool true) rfl rfl (by omega) hbA ?_; intro v' w1 R9' g9)
        go_roundw
        case rel => exact ⟨k + 1, n10, c10, n11, A10, by omega, by go_num, rfl, hits ++ [true], outs, held, HN.out, by simpa using R9', Row.kept R10A g9 R9A (by decide), Row.kept R11A g9 R9A (by decide), HAP.out, hn10, by omega, hBA.grown g9 hbA (fun b hb => (R9A.lt b hb).1)⟩
        case measure => simp [intOf]; omega
      · have HB := Lib.hid ((hasB_false held y).2 hm)
        have hl10 : held.length = n10 := by have := R10.len; simpa using this
        rw [HB.out]
        by_cases hfull : n10 = s
        · have hS : (sortI held).length = n10 := by rw [sortI_len]; exact hl10
          have hFULL : Hid (∀ b z, bestIx (fun x => (l.drop k).idxOf x) (sortI held) s = b → (sortI held)[b]? = some z → optS s (hits ++ [false]) (outs ++ [z]) ((sortI held).take b ++ (sortI held).drop (b + 1) ++ [y]) (l.drop (k + 1)) = optF s [] l) := Lib.hid (by
            intro b z e1 e2
            rw [HD.out] at e1
            rw [← HF'.out, HD.out, optS_full hm (by omega) e1 e2])
          have HS := Lib.hid hS
          clear hm hl10 hS
          have hfb : ((n10 : Int) == (s : Int)) = true := by simp [hfull]
          subst hfull
          go_wp2_with (at_builtin; refine wpList_push _ rfl (.tmp 34) (.tmp 36) _ rfl w.heap.size 4 _ _ Try.underlying28 infoB rfl (by decide) _ _ _ rfl R9A (.bool false) rfl rfl (by omega) hbA ?_; intro v' w1 R9' g9)
          have hpa1 : w1.cell? ⟨wr.heap.size, 0, none⟩ = some (.int .i64 (k : Int)) := g9.cell hpa (fun he => by have := (L9.out _ he.symm).2; simp at this)
          have R10' := Row.kept R10A g9 R9A (by decide)
          have R11' := Row.kept R11A g9 R9A (by decide)
          have hB1 := hBA.grown g9 hbA (fun b hb => (R9A.lt b hb).1)
          have hb1 := hB1.size
          refine (sort_own _ _ _ _ _ _ R10' (by omega)).mono ?_; rintro e w2 ⟨rfl, R10s, gs⟩
          have hpa2 : w2.cell? ⟨wr.heap.size, 0, none⟩ = some (.int .i64 (k : Int)) := gs.cell hpa1 (fun he => by have := (L10.out _ he.symm).2; simp at this)
          have R9s := Row.kept R9' gs R10' (by decide)
          have R11s := Row.apart R11' gs HAP.out.symm
          have hB2 := hB1.grown gs hb1 (fun b hb => (R10'.lt b hb).1)
          have hb2 := hB2.size
          have hra2 : w2.cell? ra = some (.slice (some ad) n c) := by rw [hB2.cell hral]; exact hra
          have hr2 := h.below hB2
          have HRS := Lib.hid (Row.reads R10s)
          have hcl : Hid (∀ (a b : Int) (d : Nat), Calls Try.prog 29 #[.int .i64 a, .int .i64 b, .pointer (some ra), .pointer (some ⟨wr.heap.size, 0, none⟩)] (w2.drewN d) fun e w' => e = .returned (.int .i64 ((((l.drop k).idxOf a : Nat) : Int) - (((l.drop k).idxOf b : Nat) : Int))) ∧ ∃ m, w' = (w2.drewN d).drewN m) := Lib.hid (fun a b d =>
            later_q _ _ _ l a b ra _ k _ _ (w2.drewN d) (hr2.drewN d) hra2 hpa2 hlt hnc hn rfl rfl
              (by have := List.idxOf_le_length (l := l.drop k) (a := a); have := HL.out; rw [List.length_drop] at *; omega) (by have := List.idxOf_le_length (l := l.drop k) (a := b); have := HL.out; rw [List.length_drop] at *; omega))
          have HIX := Lib.hid (show ∀ a : Int, (l.drop k).idxOf a ≤ 40 from fun a => by have := List.idxOf_le_length (l := l.drop k) (a := a); have := HL.out; rw [List.length_drop] at *; omega)
          go_wp2
          go_loopw [16, 17, 48] (fun v16 _ j wj => ∃ t b d : Nat, t ≤ n10 ∧ j = .int .i64 t ∧ b < n10 ∧ v16 = .int .i64 b ∧ wj = w2.drewN d ∧ Hid (bestIx (fun x => (l.drop k).idxOf x) (sortI held) t = b)) (fun _ _ j _ => n10 - (intOf j).toNat)
          case atStart => exact ⟨0, 0, 0, by omega, by go_num, by omega, by go_num, rfl, rfl⟩
          case round =>
            obtain ⟨t, b, d, ht, rfl, hbn, rfl, rfl, HBI⟩ := hrel
            by_cases hlt' : t < n10
            · obtain ⟨adh, a, hA10, HZ, hca⟩ := HRS.out.at_ hlt'
              obtain ⟨adh', z, hA10', HZ', hcz⟩ := HRS.out.at_ hbn
              subst hA10
              injection hA10' with hA10'
              subst hA10'
              have hgt : (sortI held).getD t 0 = a := by rw [List.getD_eq_getElem?_getD, HZ.out]; rfl
              have hgb : (sortI held).getD b 0 = z := by rw [List.getD_eq_getElem?_getD, HZ'.out]; rfl
              have hstep : bestIx (fun x => (l.drop k).idxOf x) (sortI held) (t + 1) = if (l.drop k).idxOf z < (l.drop k).idxOf a then t else b := by rw [bestIx, HBI.out, hgt, hgb]
              have HST := Lib.hid hstep
              clear hstep hgt hgb
              have c2 := fun d' => hcl.out a z (d + d')
              simp only [← World.drewN_drewN] at c2
              have i1 := HIX.out a
              have i2 := HIX.out z
              by_cases hlr : (l.drop k).idxOf z < (l.drop k).idxOf a
              · rw [if_pos hlr] at HST
                generalize (l.drop k).idxOf z = iz at *
                generalize (l.drop k).idxOf a = ia at *
                have C2 := Lib.hid c2
                clear c2
                have hcaj : (w2.drewN d).cell? (adh.add t) = some (.int .i64 a) := hca
                have hczj : (w2.drewN d).cell? (adh.add b) = some (.int .i64 z) := hcz
                generalize hwj : w2.drewN d = wj at *
                go_wp2
                go_quiet (exact Calls.quiet_of (C2.out _))
                go_wp2
                go_roundw
                case rel => exact ⟨t + 1, t, _, by omega, by go_num, hlt', rfl, by rw [← hwj, World.drewN_drewN], HST⟩
                case measure => simp [intOf]; omega
              · rw [if_neg hlr] at HST
                generalize (l.drop k).idxOf z = iz at *
                generalize (l.drop k).idxOf a = ia at *
                have C2 := Lib.hid c2
                clear c2
                have hcaj : (w2.drewN d).cell? (adh.add t) = some (.int .i64 a) := hca
                have hczj : (w2.drewN d).cell? (adh.add b) = some (.int .i64 z) := hcz
                generalize hwj : w2.drewN d = wj at *
                go_wp2
                go_quiet (exact Calls.quiet_of (C2.out _))
                go_wp2
                go_roundw
                case rel => exact ⟨t + 1, b, _, by omega, by go_num, hbn, rfl, by rw [← hwj, World.drewN_drewN], HST⟩
                case measure => simp [intOf]; omega
            · have htn : t = n10 := by omega
              have HBN : Hid (bestIx (fun x => (l.drop k).idxOf x) (sortI held) n10 = b) := Lib.hid (by rw [← htn]; exact HBI.out)
              obtain ⟨adh, z, hA10, HZ, hcz⟩ := HRS.out.at_ hbn
              have HN := Lib.hid (hFULL.out b z HBN.out HZ.out)
              subst hA10
              have hB2d := belowN hB2 d
              have R9d := R9s.drewN d
              have R10d := R10s.drewN d
              have R11d := R11s.drewN d
              have hczd : (w2.drewN d).cell? (adh.add b) = some (.int .i64 z) := hcz
              have hb2d := hB2d.size
              generalize w2.drewN d = w3 at *
              go_wp2_with (at_builtin; refine wpList_push_at _ rfl (.tmp 64) (.tmp 69) _ rfl w.heap.size 3 _ _ Try.underlying22 infoI rfl (by decide) _ _ _ rfl R11d (.int .i64 z) rfl rfl (by omega) hb2d ?_; intro v11' w4 R11' g11 far11)
              have R10e := Row.apart R10d g11 HAP.out
              have R9e := Row.kept R9d g11 R11d (by decide)
              have hB4 := hB2d.grown g11 hb2d (fun b hb => (R11d.lt b hb).1)
              have hb4 := hB4.size
              have HAP4 := Lib.hid (Apart.far HAP.out far11 (fun b hb => (R10d.lt b hb).2))
              have hdel := delete_own _ _ _ c10 (sortI held) b (b + 1) _ R10e (by omega) (by omega) (by omega)
              rw [show ((b + 1 : Nat) : Int) = (b : Int) + 1 by omega] at hdel
              have HDEL := Lib.hid hdel
              clear hdel
              go_wp2_with fail
              refine HDEL.out.mono ?_; rintro e w5 ⟨v10', rfl, R10f, g10, hv10⟩
              have R9f := Row.kept R9e g10 R10e (by decide)
              have R11f := Row.apart R11' g10 HAP4.out.symm
              have hB5 := hB4.grown g10 hb4 (fun b hb => (R10e.lt b hb).1)
              have hb5 := hB5.size
              have HV10 := Lib.hid hv10
              clear hv10
              go_wp2_with (at_builtin; refine wpList_push_at _ rfl (.tmp 76) (.tmp 78) _ rfl w.heap.size 3 _ _ Try.underlying22 infoI rfl (by decide) _ _ _ rfl R10f (.int .i64 y) rfl rfl (by omega) hb5 ?_; intro v10'' w6 R10g g10' far10)
              have F10 := Lib.hid R10g.form
              go_roundw
              case rel =>
                obtain ⟨A', c', hv, _, _⟩ := F10.out
                have hap5 : Apart v11'.ownBlock v10'.ownBlock := by rw [HV10.out]; exact HAP4.out.symm
                refine ⟨k + 1, n10 - (b + 1 - b) + 1, c', n11 + 1, A', by omega, by go_num, hv, hits ++ [false], outs ++ [z], _, HN.out, by simpa using Row.kept R9f g10' R10f (by decide), ?_, by simpa using Row.apart R11f g10' hap5, ?_, by omega, by omega, hB5.grown g10' hb5 (fun b hb => (R10f.lt b hb).1)⟩
                · rw [← hv]; simpa using R10g
                · rw [← hv]; exact (Apart.far hap5 far10 (fun b hb => (R11f.lt b hb).2)).symm
              case measure => simp [intOf]; omega
        · have HN : Hid (optS s (hits ++ [false]) outs (held ++ [y]) (l.drop (k + 1)) = optF s [] l) := Lib.hid (by rw [← HF'.out, HD.out, optS_room hm (by omega)])
          have hfb : ((n10 : Int) == (s : Int)) = false := by simp; omega
          clear hm hl10
          go_wp2_with (first
            | (at_builtin; refine wpList_push _ rfl (.tmp 34) (.tmp 36) _ rfl w.heap.size 4 _ _ Try.underlying28 infoB rfl (by decide) _ _ _ rfl R9A (.bool false) rfl rfl (by omega) hbA ?_; intro v' w1 R9' g9
               have R10' := Row.kept R10A g9 R9A (by decide)
               have R11' := Row.kept R11A g9 R9A (by decide)
               have hB1 := hBA.grown g9 hbA (fun b hb => (R9A.lt b hb).1)
               have hb1 := hB1.size)
            | (at_builtin; refine wpList_push_at _ rfl (.tmp 76) (.tmp 78) _ rfl w.heap.size 3 _ _ Try.underlying22 infoI rfl (by decide) _ _ _ rfl R10' (.int .i64 y) rfl rfl (by omega) hb1 ?_; intro v10' w2 R10'' g10 far10))
          have F10 := Lib.hid R10''.form
          go_roundw
          case rel =>
            obtain ⟨A', c', hv, _, _⟩ := F10.out
            refine ⟨k + 1, n10 + 1, c', n11, A', by omega, by go_num, hv, hits ++ [false], outs, _, HN.out, by simpa using Row.kept R9' g10 R10' (by decide), ?_, Row.apart R11' g10 HAP.out.symm, ?_, by omega, by omega, hB1.grown g10 hb1 (fun b hb => (R10'.lt b hb).1)⟩
            · rw [← hv]; simpa using R10''
            · rw [← hv]; exact (Apart.far HAP.out.symm far10 (fun b hb => (R11'.lt b hb).2)).symm
          case measure => simp [intOf]; omega
    · have HE := Lib.hid (show k = n by omega)
      have HEND : Hid (optF s [] l = (hits, outs, sortI held)) := Lib.hid (by
        rw [← HF'.out, List.drop_eq_nil_of_le (show l.length ≤ k by have := HL.out; omega), optS_nil])
      go_wp2_with fail
      refine (sort_own _ _ _ _ _ _ R10 (by omega)).mono ?_; rintro e w2 ⟨rfl, R10s, gs⟩
      have R9s := Row.kept R9 gs R10 (by decide)
      have R11s := Row.apart R11 gs HAP.out.symm
      have hB2 := hB.grown gs hbs (fun b hb => (R10.lt b hb).1)
      have F9 := Lib.hid R9s.form
      have F11 := Lib.hid R11s.form
      go_wp2
      obtain ⟨A1, c1, hv9, _, _⟩ := F9.out
      obtain ⟨A2, c2, hv11, _, _⟩ := F11.out
      have hz := HB0.out
      refine bodyPost_ret (v := .tuple #[u9, u11, .slice A10 n10 c10, .nilIface]) (by simp [results, Try.results8, go_sem]) rfl ?_
      rw [HEND.out]
      rw [hv9] at R9s
      rw [hv11] at R11s
      refine ⟨A1, c1, A2, n11, c2, A10, n10, c10, ?_, ?_, R11s.base_le hz.size, R10s.base_le hz.size, by omega, by omega, hz.trans (hB2.mono hz.size)⟩
      · rw [hv9, hv11, HE.out]
      · rw [← HE.out]; exact R9s.base_le hz.size
end Go.Proofs.Ytgljpdfmejganaa
