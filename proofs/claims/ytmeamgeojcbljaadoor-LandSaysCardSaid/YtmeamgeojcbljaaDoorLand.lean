/- The walk of landlord.Run: what it returns, for every input. -/
import Derived.Test.YtmeamgeojcbljaaDoorTenants
import Derived.Test.YtmeamgeojcbljaaDoorLandCheck
import Derived.IntWalk
import Derived.StillTailTactics
namespace Go.Proofs.YtmeamgeojcbljaaDoor
open Go.ChangeShapes Go.WideShapes Go.ChangeAt Go.RowKit

theorem ldrun_no (A Ac : Option Addr) (n c m cc : Nat) (l cost : List Int) (slots : Int) (w : World) (h : RI w A n l) (hc : RI w Ac m cost) (hn : n ≤ 9223372036854775807) (hm : m ≤ 9223372036854775807) (hg : ¬ GoodL l cost slots) :
    Calls Tryd.prog 28 #[.slice A n c, .slice Ac m cc, .int .i64 slots] w fun e w' =>
      e = .returned (.tuple #[.int .i64 0, .slice none 0 0, .slice none 0 0, .iface 65 (.int .i64 (landE l cost slots))]) ∧ w = w' := by
  have HG := Lib.hid hg
  clear hg
  go_enter Tryd.func28, Tryd.ntmps28
  go_wp2_with fail
  refine (ldcheck_no _ _ _ _ _ _ _ _ _ _ h hc hn hm HG.out).mono ?_; rintro e w' ⟨rfl, rfl⟩
  go_wp2
  exact bodyPost_ret (v := .tuple #[.int .i64 0, .slice none 0 0, .slice none 0 0, .iface 65 (.int .i64 (landE l cost slots))]) (by simp [results, Tryd.results28, go_sem]) rfl ⟨rfl, rfl⟩

/-- What landlord.Run hands back. -/
def LandRes (w w' : World) (e : Ending) (c : Int × List (Int × Int)) : Prop :=
  ∃ A1 n1 c1 A2 c2, e = .returned (.tuple #[.int .i64 c.1, .slice A1 n1 c1, .slice A2 n1 c2, .nilIface]) ∧ Row w' w.heap.size 3 (.slice A1 n1 c1) n1 ((c.2.map Prod.fst).map (Value.int .i64)) ∧
    Row w' w.heap.size 3 (.slice A2 n1 c2) n1 ((c.2.map Prod.snd).map (Value.int .i64)) ∧ n1 ≤ 8 ∧ Below w.heap.size w w'

theorem still_tail {P : Program} {id : Nat} {Q : Exit → Act → World → Prop} {a : Act} {w : World} {l : List Oper} (n : Nat) (hm : P.follows .mixedOrders = true) (hB : Region.lexTailB .any l.toArray n = true)
    (h : wpStill P l.toArray w.drew (fun a' => wpList P l.toArray Q (l.drop n) a' w.drew) (l.take n) a) : (Code.region id l.toArray true).wp P Q a w := wp_region_still_tail n hm hB h
theorem own_drew {w : World} {base : Nat} {e : TypeId} {z : Nat} {v : Value} {n : Nat} {xs : List Value} (h : w.ownsRow base e z v n xs) : w.drew.ownsRow base e z v n xs := h
theorem cell_drew (w : World) (a : Addr) : w.drew.cell? a = w.cell? a := rfl
theorem mem_at {h : List (Int × Int)} {y : Int} (hm : y ∈ h.map Prod.fst) : ∃ b, h[(h.map Prod.fst).idxOf y]? = some (y, b) := by
  have hlt := List.idxOf_lt_length_iff.2 hm
  have h1 : (h.map Prod.fst)[(h.map Prod.fst).idxOf y]? = some y := by
    rw [List.getElem?_eq_getElem hlt, List.getElem_idxOf hlt]
  rw [List.getElem?_map] at h1
  cases hs : h[(h.map Prod.fst).idxOf y]? with
  | none => rw [hs] at h1; cases h1
  | some s =>
    rw [hs] at h1
    obtain ⟨a, b⟩ := s
    simp at h1
    subst h1
    exact ⟨b, rfl⟩
theorem take_succT {l : List (Int × Int)} {k : Nat} {t : Int × Int} (h : l[k]? = some t) : l.take (k + 1) = l.take k ++ [t] := by rw [List.take_add_one, h]; rfl
/-- The least of the first j credits. -/
def leastU (h : List (Int × Int)) (j : Nat) : Int := ((h.take j).map Prod.snd).foldl min (h.getD 0 (0, 0)).2
theorem leastU_succ {h : List (Int × Int)} {j : Nat} {t : Int × Int} (ht : h[j]? = some t) : leastU h (j + 1) = min (leastU h j) t.2 := by
  unfold leastU
  rw [take_succT ht, List.map_append, List.foldl_append]; rfl
theorem leastU_all (h : List (Int × Int)) : leastU h h.length = leastH h := by unfold leastU leastH; rw [List.take_length]
theorem leastU_in {h : List (Int × Int)} (hb : ∀ t ∈ h, 0 ≤ t.2 ∧ t.2 ≤ 20) (hn : 0 < h.length) (j : Nat) : 0 ≤ leastU h j ∧ leastU h j ≤ 20 := by
  unfold leastU
  have h0 := hb h[0] (List.getElem_mem hn)
  have e : (h.getD 0 (0, 0)) = h[0] := by rw [List.getD_eq_getElem?_getD, List.getElem?_eq_getElem hn]; rfl
  rw [e]
  rcases foldl_min_mem ((h.take j).map Prod.snd) h[0].2 with e | e
  · rw [e]; exact h0
  · obtain ⟨t, ht, e2⟩ := List.mem_map.1 e
    rw [← e2]; exact hb t (List.mem_of_mem_take ht)
/-- The first j have paid. -/
def paid (h : List (Int × Int)) (d : Int) (j : Nat) : List (Int × Int) := lowered (h.take j) d ++ h.drop j
theorem paid_zero (h : List (Int × Int)) (d : Int) : paid h d 0 = h := by simp [paid, lowered]
theorem paid_all (h : List (Int × Int)) (d : Int) : paid h d h.length = lowered h d := by simp [paid]
theorem paid_at {h : List (Int × Int)} {d : Int} {j : Nat} {t : Int × Int} (ht : h[j]? = some t) : (paid h d j)[j]? = some t := by
  have hj := (List.getElem?_eq_some_iff.1 ht).1
  unfold paid
  rw [List.getElem?_append_right (by rw [lowered_len, List.length_take]; omega), lowered_len, List.length_take, List.getElem?_drop]
  rw [show j + (j - min j h.length) = j by omega]; exact ht
theorem paid_succ {h : List (Int × Int)} {d : Int} {j : Nat} {t : Int × Int} (ht : h[j]? = some t) : (paid h d j).set j (t.1, t.2 - d) = paid h d (j + 1) := by
  have hj := (List.getElem?_eq_some_iff.1 ht).1
  have e : (lowered (h.take j) d).length = j := by rw [lowered_len, List.length_take]; omega
  unfold paid
  rw [List.set_append_right _ _ (by omega), e, Nat.sub_self, take_succT ht]
  have e2 : h.drop j = t :: h.drop (j + 1) := by
    rw [List.drop_eq_getElem_cons hj]
    rw [List.getElem?_eq_getElem hj] at ht
    injection ht with ht
    rw [ht]
  rw [e2, List.set_cons_zero]
  simp [lowered]

def LandInv (cost : List Int) (s : Nat) (l : List Int) (w wr : World) (A : Option Addr) (n12 c12 k : Nat) (sum : Int) : Prop :=
  ∃ held, landRun cost s (l.take k) = (sum, held) ∧ RowT wr w.heap.size (.slice A n12 c12) n12 held ∧ n12 ≤ s ∧ Below w.heap.size w wr

set_option maxRecDepth 100000 in
set_option maxHeartbeats 1500000 in
theorem ldrun_ok (A Ac : Option Addr) (n c m cc : Nat) (l cost : List Int) (slots : Int) (w : World) (h : RI w A n l) (hc : RI w Ac m cost) (hg : GoodL l cost slots) :
    Calls Tryd.prog 28 #[.slice A n c, .slice Ac m cc, .int .i64 slots] w fun e w' => LandRes w w' e (landRun cost slots.toNat l) := by
  obtain ⟨s, rfl⟩ : ∃ s : Nat, slots = s := ⟨slots.toNat, by have := hg.2.2.2.2.1; omega⟩
  have HL := Lib.hid h.len
  have HM := Lib.hid hc.len
  have HG := Lib.hid hg
  have hn : n ≤ 40 := by have := HL.out; have := hg.1; omega
  have hm6 : m ≤ 6 := by have := HM.out; have := hg.2.1; omega
  have hs1 : 1 ≤ s := by have := hg.2.2.2.2.1; omega
  have hs2 : s ≤ 8 := by have := hg.2.2.2.2.2; omega
  have HOK : Hid (∀ k, k ≤ n → LandOk s k (landRun cost s (l.take k))) := Lib.hid (fun k hk => landOk_take hg.2.2.1 hs1 l k (by rw [HL.out]; exact hk))
  clear hg
  have hmf : ∀ (fn : Fn) (first cap : Array Value) (w : World), (Instr.makeFunc fn first cap).run Tryd.prog w = .ok (.func fn first cap) w := fun _ _ _ _ => rfl
  go_enter Tryd.func28, Tryd.ntmps28
  go_wp2_with fail
  refine (ldcheck_ok _ _ _ _ _ _ _ _ _ _ h hc HG.out).mono ?_; rintro e w' ⟨rfl, rfl⟩
  go_wp2
  go_loopw [11, 12, 34] (fun v11 v12 i wr => ∃ k n12 c12 : Nat, ∃ A12, ∃ sum : Int, k ≤ n ∧ i = .int .i64 k ∧ v12 = .slice A12 n12 c12 ∧ v11 = .int .i64 sum ∧ LandInv cost s l w wr A12 n12 c12 k sum) (fun _ _ i _ => n - (intOf i).toNat)
  case atStart => exact ⟨0, 0, 0, none, 0, by omega, by go_num, rfl, by go_num, [], rfl, World.ownsRow_nil _ _ _ _, by omega, Below.refl _ _⟩
  case round =>
    obtain ⟨wo, rfl⟩ : ∃ wo, wo = wr := ⟨_, rfl⟩
    obtain ⟨k, n12, c12, A12, sum, hk, rfl, rfl, rfl, held, HF, R12, hn12, hB⟩ := hrel
    have HF' := Lib.hid HF
    have hok := HOK.out k hk
    rw [HF] at hok
    obtain ⟨_, ok2, ok3, ok4⟩ := hok
    have HC := Lib.hid ok2
    have ok3' : 0 ≤ sum := ok3
    have ok4' : sum ≤ 20 * k := ok4
    clear HF ok2 ok3 ok4
    have hbs := hB.size
    by_cases hlt : k < n
    · obtain ⟨ad, y, rfl, HY, hcy⟩ := (h.below hB).at_ hlt
      obtain ⟨y0, y1⟩ := HG.out.2.2.2.1 y (mem_of_at HY.out)
      rw [HM.out] at y1
      obtain ⟨q, rfl⟩ : ∃ q : Nat, y = q := ⟨y.toNat, by omega⟩
      have hqm : q < m := by omega
      have HST := Lib.hid (land_succ (cost := cost) (s := s) HY.out)
      have hBy := hB.alloc hbs (.cells #[.int .i64 (q : Int)] 3)
      have hyc : (wo.alloc (.cells #[.int .i64 (q : Int)] 3)).cell? ⟨wo.heap.size, 0, none⟩ = some (.int .i64 (q : Int)) := by rw [World.cell?_alloc_at _ _ _ _ rfl]; rfl
      have R12y : RowT (wo.alloc (.cells #[.int .i64 (q : Int)] 3)) w.heap.size _ _ _ := World.ownsRow.alloc R12 _
      go_wp2_with fail
      refine (indexTenant _ _ _ _ (q : Int) _ _ (RowT.reads R12y) (by omega) hyc).mono ?_; rintro e w2 ⟨rfl, hB2⟩
      have hBy2 := hBy.trans (hB2.mono hBy.size)
      have hyc2 : w2.cell? ⟨wo.heap.size, 0, none⟩ = some (.int .i64 (q : Int)) := by rw [hB2.cell (cell_lt hyc)]; exact hyc
      have R12z : RowT w2 w.heap.size _ _ _ := ownT_below R12y hB2
      clear R12y
      have hb2 := hBy2.size
      obtain ⟨adc, z, rfl, HZ, hcz⟩ := (hc.below hBy2).at_ hqm
      obtain ⟨z0, z1⟩ := HG.out.2.2.1 z (mem_of_at HZ.out)
      have HZD : Hid (cost.getD ((q : Int)).toNat 0 = z) := Lib.hid (by rw [Int.toNat_natCast, List.getD_eq_getElem?_getD, HZ.out]; rfl)
      by_cases hm : (q : Int) ∈ held.map Prod.fst
      · obtain ⟨b, hb⟩ := mem_at hm
        have HIX := Lib.hid (ixI_mem hm)
        have hj : (held.map Prod.fst).idxOf (q : Int) < n12 := by have h1 := List.idxOf_lt_length_iff.2 hm; have h2 := RowT.len R12z; rw [List.length_map] at h1; omega
        have HNX : Hid (landRun cost s (l.take (k + 1)) = (sum, held.set ((held.map Prod.fst).idxOf (q : Int)) ((q : Int), z))) := Lib.hid (by rw [HST.out, HF'.out, landStep, if_pos hm, HZD.out])
        clear hm
        generalize (held.map Prod.fst).idxOf (q : Int) = j at *
        have HBB := Lib.hid hb
        clear hb
        have hj0 : (0 : Int) ≤ j := by omega
        obtain ⟨g, _, rfl, _, _, _⟩ := (RowT.reads R12z).at_ hj
        have hfr := World.ownsRow.frozenAt R12z (j * 2 + 1)
        have hcell : w2.cell? ⟨g, j * 2 + 1, none⟩ = some (.int .i64 b) := by
          obtain ⟨g', s', e1, HS, hs0, hs1⟩ := (RowT.reads R12z).at_ hj
          injection e1 with e1
          injection e1 with e1
          subst e1
          have := HS.out
          rw [HBB.out] at this
          injection this with this
          subst this
          exact hs1
        obtain ⟨hst1, hst2⟩ := World.ownsRow.stored R12z (j * 2 + 1) (.int .i64 z)
        rw [cellsT_set1 held j _ z HBB.out] at hst1
        have HST1 := Lib.hid hst1
        have HST2 := Lib.hid hst2
        have HLT := Lib.hid (World.ownsRow.lt R12z)
        clear hst1 hst2
        rw [HIX.out]
        go_wp2
        go_roundw
        case rel => exact ⟨k + 1, n12, c12, _, sum, by omega, by go_num, rfl, rfl, _, HNX.out, HST1.out, hn12, hBy2.grown HST2.out hb2 (fun b hb => (HLT.out b hb).1)⟩
        case measure => simp [intOf]; omega
      · have HIX := Lib.hid (ixI_not hm)
        have hlen := RowT.len R12z
        rw [HIX.out]
        have hj0 : ¬ (0 : Int) ≤ -1 := by omega
        by_cases hroom : n12 < s
        · have hns : ((n12 : Int) == (s : Int)) = false := by simp; omega
          have HNX : Hid (landRun cost s (l.take (k + 1)) = (sum + z, held ++ [((q : Int), z)])) := Lib.hid (by rw [HST.out, HF'.out, landStep, if_neg hm, HZD.out, if_neg (by show ¬ held.length = s; omega)])
          clear hm hlen
          go_wp2
          have R12d : World.ownsRow w2.drew w.heap.size 76 2 (.slice A12 n12 c12) n12 (cellsT held) := R12z
          have hBd : Below w.heap.size w w2.drew := belowN hBy2 1
          have hbd := hBd.size
          go_region_law (refine step_pushT _ rfl (.tmp 98) (.tmp 105) _ rfl w.heap.size 76 _ _ Tryd.underlying73 infoT rfl (by decide) _ _ _ rfl R12d (.int .i64 (q : Int)) (.int .i64 z) rfl rfl rfl (by omega) hbd ?_; intro v'' w4 R12' g12; have F12 := Lib.hid (ownT_form R12'))
          all_goals
           go_wp2
           go_roundw
           case rel =>
            obtain ⟨A', c', hv, _, _⟩ := F12.out
            refine ⟨k + 1, n12 + 1, c', A', sum + z, by omega, by go_num, hv, by go_num, _, HNX.out, ?_, by omega, hBd.grown g12 hbd (fun b hb => (World.ownsRow.lt R12d b hb).1)⟩
            rw [← hv]
            show World.ownsRow _ _ _ _ _ _ (cellsT (held ++ [((q : Int), z)]))
            rw [cellsT_append]; exact R12'
           case measure => simp [intOf]; omega
        · have hns : n12 = s := by omega
          have hns' : ((n12 : Int) == (s : Int)) = true := by simp; omega
          have hh0 : 0 < held.length := by omega
          have HNX : Hid (landRun cost s (l.take (k + 1)) = (sum + z, roomed held ++ [((q : Int), z)])) := Lib.hid (by rw [HST.out, HF'.out, landStep, if_neg hm, HZD.out, if_pos (by show held.length = s; omega)])
          have HHL : Hid (held.length = n12) := Lib.hid hlen
          have HLU : Hid (∀ j, 0 ≤ leastU held j ∧ leastU held j ≤ 20) := Lib.hid (fun j => leastU_in HC.out hh0 j)
          have HCZ : Hid (∀ V, Below w.heap.size w V → V.cell? (adc.add q) = some (.int .i64 z)) := Lib.hid (by
            intro V hV
            obtain ⟨ad', z', e1, e2, e3⟩ := (hc.below hV).at_ hqm
            cases e1; rw [HZ.out] at e2; cases e2.out; exact e3)
          obtain ⟨g, s0, rfl, HS0, hc00, hc01⟩ := (RowT.reads R12z).at_ (k := 0) (by omega)
          have HB0 : Hid (s0.2 = leastU held 0) := Lib.hid (by
            unfold leastU
            rw [List.take_zero, List.getD_eq_getElem?_getD, HS0.out]; rfl)
          have hgb : w.heap.size ≤ g := (World.ownsRow.lt R12 g rfl).1
          have hgk : g < wo.heap.size := (World.ownsRow.lt R12 g rfl).2
          subst hns
          clear hm hlen hroom hh0
          obtain ⟨q0, b0⟩ := s0
          rw [Nat.zero_mul] at hc00 hc01
          have hn1 : 1 ≤ n12 := by omega
          have hn1' : (0 : Int) < n12 := by omega
          go_wp2
          go_loopw [16, 67] (fun v16 i wj => ∃ j : Nat, ∃ d : Int, j ≤ n12 ∧ i = .int .i64 j ∧ v16 = .int .i64 d ∧ 0 ≤ d ∧ d ≤ 20 ∧ Hid (d = leastU held j) ∧ RowT wj w.heap.size (.slice (some ⟨g, 0, none⟩) n12 c12) n12 held ∧ wj.cell? ⟨wo.heap.size, 0, none⟩ = some (.int .i64 (q : Int)) ∧ Below w.heap.size w wj) (fun _ i _ => n12 - (intOf i).toNat)
          case atStart => exact ⟨0, b0, by omega, by go_num, rfl, by have := HB0.out; have := HLU.out 0; simp at *; omega, by have := HB0.out; have := HLU.out 0; simp at *; omega, HB0, R12z, hyc2, hBy2⟩
          case round =>
            obtain ⟨j, d, hj, rfl, rfl, hd0, hd1, HD, R12j, hycj, hBj⟩ := hrel
            have hbj := hBj.size
            by_cases hlj : j < n12
            · obtain ⟨g', ⟨q', b'⟩, e1, HS, hs0, hs1⟩ := (RowT.reads R12j).at_ hlj
              injection e1 with e1
              injection e1 with e1
              subst e1
              have HN := Lib.hid (leastU_succ HS.out)
              have hb' := HC.out _ (List.mem_of_getElem? HS.out)
              have hb0 : 0 ≤ b' := hb'.1
              have hb1 : b' ≤ 20 := hb'.2
              clear hb'
              have hBt := hBj.alloc hbj (.cells #[.int .i64 q', .int .i64 b'] 76)
              have R12t : RowT (wr.alloc (.cells #[.int .i64 q', .int .i64 b'] 76)) w.heap.size _ _ _ := World.ownsRow.alloc R12j _
              have hyct : (wr.alloc (.cells #[.int .i64 q', .int .i64 b'] 76)).cell? ⟨wo.heap.size, 0, none⟩ = some (.int .i64 (q : Int)) := by rw [World.cell?_alloc_lt _ _ _ (cell_lt hycj)]; exact hycj
              by_cases hdb : d ≤ b'
              · have hdb' : ¬ b' < d := by omega
                go_wp2
                go_roundw
                case rel => exact ⟨j + 1, d, by omega, by go_num, by first | rfl | (congr 1; omega), hd0, hd1, Lib.hid (by rw [HN.out, ← HD.out]; show d = min d b'; omega), R12t, hyct, hBt⟩
                case measure => simp [intOf]; omega
              · have hdb' : b' < d := by omega
                go_wp2
                go_roundw
                case rel => exact ⟨j + 1, b', by omega, by go_num, by first | rfl | (congr 1; omega), hb0, hb1, Lib.hid (by rw [HN.out, ← HD.out]; show b' = min d b'; omega), R12t, hyct, hBt⟩
                case measure => simp [intOf]; omega
            · have HJ : Hid (d = leastH held) := Lib.hid (by rw [HD.out, ← leastU_all, HHL.out, show j = n12 by omega])
              have RP0 : RowT wr w.heap.size (.slice (some ⟨g, 0, none⟩) n12 c12) n12 (paid held d 0) := by rw [paid_zero]; exact R12j
              clear R12j
              go_wp2
              go_loopw [78] (fun i wj => ∃ j : Nat, j ≤ n12 ∧ i = .int .i64 j ∧ RowT wj w.heap.size (.slice (some ⟨g, 0, none⟩) n12 c12) n12 (paid held d j) ∧ wj.cell? ⟨wo.heap.size, 0, none⟩ = some (.int .i64 (q : Int)) ∧ Below w.heap.size w wj) (fun i _ => n12 - (intOf i).toNat)
              case atStart => exact ⟨0, by omega, by go_num, RP0, hycj, hBj⟩
              case round =>
                obtain ⟨j, hj, rfl, RP, hycp, hBp⟩ := hrel
                have hbp := hBp.size
                by_cases hlj : j < n12
                · obtain ⟨t, ht⟩ : ∃ t, held[j]? = some t := ⟨held[j]'(by have := HHL.out; omega), List.getElem?_eq_getElem _⟩
                  obtain ⟨q', b'⟩ := t
                  have HT := Lib.hid ht
                  have hb' := HC.out _ (List.mem_of_getElem? ht)
                  have hb0 : 0 ≤ b' := hb'.1
                  have hb1 : b' ≤ 20 := hb'.2
                  clear hb' ht
                  have HPA := Lib.hid (paid_at (d := d) HT.out)
                  have HPS := Lib.hid (paid_succ (d := d) HT.out)
                  obtain ⟨g', t', e1, HS, hs0, hs1⟩ := (RowT.reads RP).at_ hlj
                  injection e1 with e1
                  injection e1 with e1
                  subst e1
                  have ett := HS.out
                  rw [HPA.out] at ett
                  injection ett with ett
                  subst ett
                  have hfr := World.ownsRow.frozenAt RP (j * 2 + 1)
                  obtain ⟨hst1, hst2⟩ := World.ownsRow.stored RP (j * 2 + 1) (.int .i64 (b' - d))
                  rw [cellsT_set1 (paid held d j) j _ (b' - d) HPA.out, HPS.out] at hst1
                  have HST1 := Lib.hid hst1
                  have HST2 := Lib.hid hst2
                  clear hst1 hst2
                  go_wp2
                  go_roundw
                  case rel => exact ⟨j + 1, by omega, by go_num, HST1.out, HST2.out.cell hycp (fun he => by injection he with he; simp at he; omega), hBp.grown HST2.out hbp (fun b hb => by injection hb with hb; omega)⟩
                  case measure => simp [intOf]; omega
                · have hjn : j = n12 := by omega
                  have RL : RowT wr w.heap.size (.slice (some ⟨g, 0, none⟩) n12 c12) n12 (lowered held (leastH held)) := by
                    have := RP
                    rw [hjn, ← HHL.out, paid_all, HJ.out, HHL.out] at this; exact this
                  have hz : (0 : Int) ∈ (lowered held (leastH held)).map Prod.snd := lowered_zero (by have := HHL.out; omega)
                  have HIX2 := Lib.hid (ixI_mem hz)
                  have hi : ((lowered held (leastH held)).map Prod.snd).idxOf 0 < n12 := by
                    have h1 := List.idxOf_lt_length_iff.2 hz
                    rw [List.length_map, lowered_len, HHL.out] at h1; exact h1
                  have HRM : Hid (roomed held = (lowered held (leastH held)).take (((lowered held (leastH held)).map Prod.snd).idxOf 0) ++ (lowered held (leastH held)).drop (((lowered held (leastH held)).map Prod.snd).idxOf 0 + 1)) := Lib.hid rfl
                  have HCP : Hid (n12 ≤ c12) := Lib.hid (by
                    obtain ⟨A', c', e1, e2, _⟩ := ownT_form RL
                    injection e1 with _ _ e1
                    omega)
                  have hnc := HCP.out
                  clear RP hz
                  generalize hlo : lowered held (leastH held) = lo at *
                  clear hlo
                  go_wp2_with fail
                  refine (indexBroke _ _ _ _ _ (RowT.reads RL) (by omega)).mono ?_; rintro e w5 ⟨rfl, hB5⟩
                  rw [HIX2.out]
                  have RL5 : RowT w5 w.heap.size _ _ _ := ownT_below RL hB5
                  have hyc5 : w5.cell? ⟨wo.heap.size, 0, none⟩ = some (.int .i64 (q : Int)) := by rw [hB5.cell (cell_lt hycp)]; exact hycp
                  have hB05 := hBp.trans (hB5.mono hbp)
                  have hb5 := hB05.size
                  clear HIX2 RL hB5
                  generalize (lo.map Prod.snd).idxOf 0 = i at *
                  go_wp2_with fail
                  refine (deleteT _ _ _ _ _ _ _ RL5 hi hnc (by omega)).mono ?_; rintro e w6 ⟨rfl, R6, g6⟩
                  rw [← HRM.out] at R6
                  have hyc6 : w6.cell? ⟨wo.heap.size, 0, none⟩ = some (.int .i64 (q : Int)) := g6.cell hyc5 (fun he => by injection he with he; simp at he; omega)
                  have hB6 : Below w.heap.size w w6 := hB05.grown g6 hb5 (fun b hb => by injection hb with hb; omega)
                  have hb6 := hB6.size
                  have hcz6 := HCZ.out w6 hB6
                  go_wp2
                  have R6d : World.ownsRow w6.drew w.heap.size 76 2 (.slice (some ⟨g, 0, none⟩) (n12 - 1) c12) (n12 - 1) (cellsT (roomed held)) := R6
                  have hBd : Below w.heap.size w w6.drew := belowN hB6 1
                  have hbd := hBd.size
                  go_region_law (refine step_pushT _ rfl (.tmp 98) (.tmp 105) _ rfl w.heap.size 76 _ _ Tryd.underlying73 infoT rfl (by decide) _ _ _ rfl R6d (.int .i64 (q : Int)) (.int .i64 z) rfl rfl rfl (by omega) hbd ?_; intro v'' w7 R7 g7; have F7 := Lib.hid (ownT_form R7))
                  all_goals
                    go_wp2
                    go_roundw
                    case rel =>
                      obtain ⟨A', c', hv, _, _⟩ := F7.out
                      refine ⟨k + 1, n12 - 1 + 1, c', A', sum + z, by omega, by go_num, hv, by go_num, _, HNX.out, ?_, by omega, hBd.grown g7 hbd (fun b hb => (World.ownsRow.lt R6d b hb).1)⟩
                      rw [← hv]
                      show World.ownsRow _ _ _ _ _ _ (cellsT (roomed held ++ [((q : Int), z)]))
                      rw [cellsT_append]; exact R7
                    case measure => simp [intOf]; omega
    · have HE := Lib.hid (show k = n by omega)
      have HL12 := Lib.hid (RowT.len R12)
      have hnn12 : n12 ≤ 8 := by omega
      have HFN : Hid (landRun cost s l = (sum, held)) := Lib.hid (by have := HF'.out; rwa [List.take_of_length_le (by have := HL.out; have := HE.out; omega)] at this)
      go_wp2
      go_loopw [21, 22, 110] (fun v21 v22 i wj => ∃ j : Nat, ∃ A21 c21 A22 c22, j ≤ n12 ∧ i = .int .i64 j ∧ v21 = .slice A21 j c21 ∧ v22 = .slice A22 j c22 ∧
        Row wj w.heap.size 3 (.slice A21 j c21) j (((held.map Prod.fst).take j).map (Value.int .i64)) ∧ Row wj w.heap.size 3 (.slice A22 j c22) j (((held.map Prod.snd).take j).map (Value.int .i64)) ∧
        Apart (Value.slice A21 j c21).ownBlock (Value.slice A22 j c22).ownBlock ∧ RowT wj w.heap.size (.slice A12 n12 c12) n12 held ∧ Below w.heap.size w wj) (fun _ _ i _ => n12 - (intOf i).toNat)
      case atStart => exact ⟨0, none, 0, none, 0, by omega, by go_num, rfl, rfl, by simpa using Row.nil_ _ _ _, by simpa using Row.nil_ _ _ _, .inl rfl, R12, hB⟩
      case round =>
        obtain ⟨j, A21, c21, A22, c22, hj, rfl, rfl, rfl, R21, R22, AP, RT, hBj⟩ := hrel
        by_cases hlj : j < n12
        · obtain ⟨g, ⟨q, b⟩, rfl, HS, hs0, hs1⟩ := (RowT.reads RT).at_ hlj
          have HT1 : Hid ((held.map Prod.fst).take (j + 1) = (held.map Prod.fst).take j ++ [q]) := Lib.hid (take_succ_of (mem_fstT_of_at HS.out))
          have HT2 : Hid ((held.map Prod.snd).take (j + 1) = (held.map Prod.snd).take j ++ [b]) := Lib.hid (take_succ_of (mem_sndT_of_at HS.out))
          have HAP := Lib.hid AP
          have HN21 := Lib.hid (fun k hk => (R21.lt k hk).2)
          have HN22 := Lib.hid (fun k hk => (R22.lt k hk).2)
          have HLT21 := Lib.hid (fun k hk => (R21.lt k hk).1)
          have HLT22 := Lib.hid (fun k hk => (R22.lt k hk).1)
          have HBW := Lib.hid hBj.size
          go_wp2
          obtain ⟨B, hBB⟩ : ∃ B, B = wr.heap.size := ⟨_, rfl⟩
          obtain ⟨W0, hW0⟩ : ∃ W0, W0 = wr.alloc (.cells #[.int .i64 q, .int .i64 b] 76) := ⟨_, rfl⟩
          have HSZ : Hid (W0.heap.size = B + 1) := Lib.hid (by rw [hW0, hBB]; simp)
          have hb0 : W0.cell? ⟨B, 0, none⟩ = some (.int .i64 q) := by rw [hW0, hBB]; rw [World.cell?_alloc_at _ _ _ _ rfl]; rfl
          have hb1 : W0.cell? ⟨B, 1, none⟩ = some (.int .i64 b) := by rw [hW0, hBB]; rw [World.cell?_alloc_at _ _ _ _ rfl]; rfl
          have hB0 : Below w.heap.size w W0 := by rw [hW0]; exact hBj.alloc hBj.size _
          have RT0 : World.ownsRow W0 w.heap.size 76 2 (.slice (some ⟨g, 0, none⟩) n12 c12) n12 (cellsT held) := by rw [hW0]; exact World.ownsRow.alloc RT _
          have R21' : Row W0 w.heap.size 3 (.slice A21 j c21) j (((held.map Prod.fst).take j).map (Value.int .i64)) := by rw [hW0]; exact World.ownsRow.alloc R21 _
          have R22' : Row W0 w.heap.size 3 (.slice A22 j c22) j (((held.map Prod.snd).take j).map (Value.int .i64)) := by rw [hW0]; exact World.ownsRow.alloc R22 _
          have hb0q : (W0.alloc (.cells #[.int .i64 b] 3)).cell? ⟨B, 0, none⟩ = some (.int .i64 q) := by rw [World.cell?_alloc_lt _ _ _ (cell_lt hb0)]; exact hb0
          have hb1q : (W0.alloc (.cells #[.int .i64 q] 3)).cell? ⟨B, 1, none⟩ = some (.int .i64 b) := by rw [World.cell?_alloc_lt _ _ _ (cell_lt hb1)]; exact hb1
          rw [← hBB] at HN21 HN22 HBW
          clear R21 R22 RT AP
          have R21 := R21'
          have R22 := R22'
          clear R21' R22'
          rw [← hW0, ← hBB]
          clear hs0 hs1 hBj
          clear hW0 hBB
          go_region_law (first
            | (refine step_push2 _ rfl (.tmp 114) (.tmp 117) _ rfl w.heap.size 3 _ _ Tryd.underlying22 infoI rfl (by decide) _ _ _ _ rfl (by first | exact R21 | exact own_drew R21 | exact own_drew (World.ownsRow.alloc R21 _) | exact own_drew (World.ownsRow.alloc (World.ownsRow.alloc R21 _) _) | exact World.ownsRow.alloc R21 _) _ q rfl (by first | assumption | (refine (World.cell?_alloc_at _ _ _ _ ?_).trans ?_ <;> first | rfl | (simp; done)) | (rw [cell_drew]; refine (World.cell?_alloc_at _ _ _ _ ?_).trans ?_ <;> first | rfl | (simp; done)) | (rw [cell_drew]; refine (World.cell?_alloc_lt _ _ _ ?_).trans ?_; (focus (simp; done)); (refine (World.cell?_alloc_at _ _ _ _ ?_).trans ?_ <;> first | rfl | (simp; done)))) (by omega) (by have := HBW.out; have := HSZ.out; simp; omega) ?_; intro ga ca w1 R21n g1 far1; have AP1 : Apart (Value.slice (some ⟨ga, 0, none⟩) (j + 1) ca).ownBlock (Value.slice A22 j c22).ownBlock := (HAP.out.symm.far far1 (fun k hk => by have := HN22.out k hk; have := HSZ.out; simp; omega)).symm; have R22n := Row.apart (by first | exact R22 | exact own_drew R22 | exact own_drew (World.ownsRow.alloc R22 _) | exact own_drew (World.ownsRow.alloc (World.ownsRow.alloc R22 _) _) | exact World.ownsRow.alloc R22 _) g1 HAP.out.symm; have RTn := ownT_kept (by first | exact RT0 | exact own_drew RT0 | exact own_drew (World.ownsRow.alloc RT0 _) | exact own_drew (World.ownsRow.alloc (World.ownsRow.alloc RT0 _) _) | exact World.ownsRow.alloc RT0 _) g1 (by first | exact R21 | exact own_drew R21 | exact own_drew (World.ownsRow.alloc R21 _) | exact own_drew (World.ownsRow.alloc (World.ownsRow.alloc R21 _) _) | exact World.ownsRow.alloc R21 _) (by decide); have hB1 := Below.grown (by first | exact belowN (hB0.alloc hB0.size _) 1 | exact belowN ((hB0.alloc hB0.size _).alloc (hB0.alloc hB0.size _).size _) 1) g1 (by have := HBW.out; have := HSZ.out; simp; omega) (fun b hb => HLT21.out b hb); have hbx : w1.cell? ⟨B, 1, none⟩ = some (.int .i64 b) := g1.cell (by first | (rw [cell_drew, World.cell?_alloc_lt _ _ _ (by have := HSZ.out; simp; omega)]; assumption) | (rw [cell_drew, World.cell?_alloc_lt _ _ _ (by have := HSZ.out; simp; omega), World.cell?_alloc_lt _ _ _ (by have := HSZ.out; simp; omega)]; assumption)) (fun he => absurd (HN21.out _ he.symm) (by have := HSZ.out; simp <;> omega)); first | (refine (have hel : w1.cell? ⟨W0.heap.size, 0, none⟩ = some (.int .i64 b) := ?hx; ?_); (case hx => (refine g1.cell ?_ (fun he => absurd (HN21.out _ he.symm) (by have := HSZ.out; simp <;> omega)); (first | assumption | (refine (World.cell?_alloc_at _ _ _ _ ?_).trans ?_ <;> first | rfl | (simp; done)) | (rw [cell_drew]; refine (World.cell?_alloc_at _ _ _ _ ?_).trans ?_ <;> first | rfl | (simp; done)) | (rw [cell_drew]; refine (World.cell?_alloc_lt _ _ _ ?_).trans ?_; (focus (simp; done)); (refine (World.cell?_alloc_at _ _ _ _ ?_).trans ?_ <;> first | rfl | (simp; done))))))) | (refine (have hel : w1.cell? ⟨W0.heap.size + 1, 0, none⟩ = some (.int .i64 b) := ?hx; ?_); (case hx => (refine g1.cell ?_ (fun he => absurd (HN21.out _ he.symm) (by have := HSZ.out; simp <;> omega)); (first | assumption | (refine (World.cell?_alloc_at _ _ _ _ ?_).trans ?_ <;> first | rfl | (simp; done)) | (rw [cell_drew]; refine (World.cell?_alloc_at _ _ _ _ ?_).trans ?_ <;> first | rfl | (simp; done)) | (rw [cell_drew]; refine (World.cell?_alloc_lt _ _ _ ?_).trans ?_; (focus (simp; done)); (refine (World.cell?_alloc_at _ _ _ _ ?_).trans ?_ <;> first | rfl | (simp; done))))))) | skip)
            | (refine step_push2 _ rfl (.tmp 119) (.tmp 122) _ rfl w.heap.size 3 _ _ Tryd.underlying22 infoI rfl (by decide) _ _ _ _ rfl (by first | exact R22n | exact own_drew R22n | exact own_drew (World.ownsRow.alloc R22n _) | exact own_drew (World.ownsRow.alloc (World.ownsRow.alloc R22n _) _) | exact World.ownsRow.alloc R22n _) _ b rfl (by first | assumption | (refine (World.cell?_alloc_at _ _ _ _ ?_).trans ?_ <;> first | rfl | (simp; done)) | (rw [cell_drew]; refine (World.cell?_alloc_at _ _ _ _ ?_).trans ?_ <;> first | rfl | (simp; done)) | (rw [cell_drew]; refine (World.cell?_alloc_lt _ _ _ ?_).trans ?_; (focus (simp; done)); (refine (World.cell?_alloc_at _ _ _ _ ?_).trans ?_ <;> first | rfl | (simp; done)))) (by omega) (by have := hB1.size; simp; omega) ?_; intro gb cb w2 R22f g2 far2; have APf : Apart (Value.slice (some ⟨ga, 0, none⟩) (j + 1) ca).ownBlock (Value.slice (some ⟨gb, 0, none⟩) (j + 1) cb).ownBlock := AP1.far far2 (fun k hk => by have := (R21n.lt k hk).2; simp; omega); have R21f := Row.apart (by first | exact R21n | exact own_drew R21n | exact own_drew (World.ownsRow.alloc R21n _) | exact own_drew (World.ownsRow.alloc (World.ownsRow.alloc R21n _) _) | exact World.ownsRow.alloc R21n _) g2 AP1; have RTf := ownT_kept (by first | exact RTn | exact own_drew RTn | exact own_drew (World.ownsRow.alloc RTn _) | exact own_drew (World.ownsRow.alloc (World.ownsRow.alloc RTn _) _) | exact World.ownsRow.alloc RTn _) g2 (by first | exact R22n | exact own_drew R22n | exact own_drew (World.ownsRow.alloc R22n _) | exact own_drew (World.ownsRow.alloc (World.ownsRow.alloc R22n _) _) | exact World.ownsRow.alloc R22n _) (by decide); have hBf := Below.grown (by first | exact hB1 | exact hB1.alloc hB1.size _) g2 (by have := hB1.size; simp; omega) (fun b hb => HLT22.out b hb)))
          all_goals
            go_wp2
            go_roundw
            case rel =>
              refine ⟨j + 1, _, ca, _, cb, by omega, by go_num, rfl, rfl, ?_, ?_, APf, RTf, hBf⟩
              · rw [HT1.out, List.map_append]; exact R21f
              · rw [HT2.out, List.map_append]; exact R22f
            case measure => simp [intOf]; omega
        · have hjn : j = n12 := by omega
          have H1 : Hid ((held.map Prod.fst).take n12 = held.map Prod.fst) := Lib.hid (List.take_of_length_le (by have := HL12.out; simp; omega))
          have H2 : Hid ((held.map Prod.snd).take n12 = held.map Prod.snd) := Lib.hid (List.take_of_length_le (by have := HL12.out; simp; omega))
          subst hjn
          go_wp2
          exact bodyPost_ret (v := .tuple #[.int .i64 sum, .slice A21 j c21, .slice A22 j c22, .nilIface]) (by simp [results, Tryd.results28, go_sem]) rfl ⟨A21, j, c21, A22, c22, by rw [Int.toNat_natCast, HFN.out], by rw [Int.toNat_natCast, HFN.out]; have h1 := R21; rw [H1.out] at h1; exact h1, by rw [Int.toNat_natCast, HFN.out]; have h1 := R22; rw [H2.out] at h1; exact h1, hnn12, hBj⟩
end Go.Proofs.YtmeamgeojcbljaaDoor
