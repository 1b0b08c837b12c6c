/- The walk of clock.Run: what it returns, for every input. -/
import Derived.Test.YtpamnnnihfjdkaaDoorSlots
import Derived.Test.YtpamnnnihfjdkaaDoorClockPlain
import Derived.IntWalk
import Derived.Deep.LoopGhost
namespace Go.Proofs.YtpamnnnihfjdkaaDoor
open Go.ChangeShapes Go.WideShapes Go.ChangeAt Go.RowKit

def ClockInv (s : Nat) (l : List Int) (w wr : World) (v9 : Value) (A10 : Option Addr) (n10 c10 k hand : Nat) : Prop :=
  ∃ hits held, clockRun s (l.take k) = ⟨hits, held, hand⟩ ∧ Row wr w.heap.size 4 v9 k (hits.map Value.bool) ∧ RowS wr w.heap.size (.slice A10 n10 c10) n10 held ∧ n10 ≤ s ∧ hand < s ∧ Below w.heap.size w wr

/-- In the middle of a sweep of the hand. -/
def ClockSweep (w wj : World) (v9 v10 : Value) (s k hand hand' : Nat) (y : Int) (b : Nat) (hits : List Bool) (held cur : List (Int × Bool)) (m : Nat) : Prop :=
  Row wj w.heap.size 4 v9 (k + 1) ((hits.map Value.bool) ++ [.bool false]) ∧ RowS wj w.heap.size v10 s cur ∧ Below w.heap.size w wj ∧ wj.cell? ⟨b, 0, none⟩ = some (.int .i64 y) ∧ sweepM s cur hand' = sweepM s held hand ∧ m = marks cur

/-- While the pages are told. -/
def ClockPages (w wj : World) (v9 v10 v15 : Value) (k n10 j : Nat) (hits : List Bool) (held : List (Int × Bool)) : Prop :=
  Row wj w.heap.size 4 v9 k (hits.map Value.bool) ∧ RowS wj w.heap.size v10 n10 held ∧ Row wj w.heap.size 3 v15 j (((held.map Prod.fst).take j).map (Value.int .i64)) ∧ Below w.heap.size w wj

/-- What clock.Run hands back. -/
def ClockRes (w w' : World) (e : Ending) (n : Nat) (c : CSt) : Prop :=
  ∃ A1 c1 A2 n2 c2, e = .returned (.tuple #[.slice A1 n c1, .slice A2 n2 c2, .int .i64 ((c.hand : Nat) : Int), .nilIface]) ∧ Row w' w.heap.size 4 (.slice A1 n c1) n (c.hits.map Value.bool) ∧
    Row w' w.heap.size 3 (.slice A2 n2 c2) n2 ((c.held.map Prod.fst).map (Value.int .i64)) ∧ n2 ≤ 8 ∧ Below w.heap.size w w'

theorem clock_no (A : Option Addr) (n c : Nat) (l : List Int) (slots : Int) (w : World) (h : RI w A n l) (hn : n ≤ 9223372036854775807) (hg : ¬ GoodReqs l slots) :
    Calls Tryd.prog 8 #[.slice A n c, .int .i64 slots] w fun e w' =>
      e = .returned (.tuple #[.slice none 0 0, .slice none 0 0, .int .i64 0, .iface 53 (.int .i64 (reqsE l slots))]) ∧ w = w' := by
  have HG := Lib.hid hg
  clear hg
  go_enter Tryd.func8, Tryd.ntmps8
  go_wp2_with fail
  refine (reqs_no _ _ _ _ _ _ h hn HG.out).mono ?_; rintro e w' ⟨rfl, rfl⟩
  go_wp2
  exact bodyPost_ret (v := .tuple #[.slice none 0 0, .slice none 0 0, .int .i64 0, .iface 53 (.int .i64 (reqsE l slots))]) (by simp [results, Tryd.results8, go_sem]) rfl ⟨rfl, rfl⟩

set_option maxRecDepth 100000 in
set_option maxHeartbeats 4000000 in
theorem clock_ok (A : Option Addr) (n c : Nat) (l : List Int) (slots : Int) (w : World) (h : RI w A n l) (hg : GoodReqs l slots) :
    Calls Tryd.prog 8 #[.slice A n c, .int .i64 slots] w fun e w' => ClockRes w w' e n (clockRun slots.toNat l) := by
  obtain ⟨s, rfl⟩ : ∃ s : Nat, slots = s := ⟨slots.toNat, by have := hg.2.2.1; omega⟩
  have HL := Lib.hid h.len
  have HG := Lib.hid hg
  have hn : n ≤ 40 := by have := HL.out; have := hg.1; omega
  have hs1 : 1 ≤ s := by have := hg.2.2.1; omega
  have hs2 : s ≤ 8 := by have := hg.2.2.2; omega
  clear hg
  have hmf : ∀ (fn : Fn) (first cap : Array Value) (w : World), (Instr.makeFunc fn first cap).run Tryd.prog w = .ok (.func fn first cap) w := fun _ _ _ _ => rfl
  go_enter Tryd.func8, Tryd.ntmps8
  go_wp2_with fail
  refine (reqs_ok _ _ _ _ _ _ h HG.out).mono ?_; rintro e w' ⟨rfl, rfl⟩
  go_wp2
  go_loopw [9, 10, 11, 13, 14, 26] (fun v9 v10 v11 _ _ i wr => ∃ k n10 c10 hand : Nat, ∃ A10, k ≤ n ∧ i = .int .i64 k ∧ v10 = .slice A10 n10 c10 ∧ v11 = .int .i64 hand ∧ ClockInv s l w wr v9 A10 n10 c10 k hand) (fun _ _ _ _ _ i _ => n - (intOf i).toNat)
  case atStart => exact ⟨0, 0, 0, 0, none, by omega, by go_num, rfl, by go_num, [], [], rfl, Row.nil_ _ _ _, World.ownsRow_nil _ _ _ _, by omega, by omega, Below.refl _ _⟩
  case round =>
    obtain ⟨k, n10, c10, hand, A10, hk, rfl, rfl, rfl, hits, held, HF, R9, R10, hn10, hhand, hB⟩ := hrel
    have HF' := Lib.hid HF
    clear HF
    have hbs := hB.size
    by_cases hlt : k < n
    · obtain ⟨ad, y, rfl, HY, hc⟩ := (h.below hB).at_ hlt
      have HST := Lib.hid (clock_succ (s := s) HY.out)
      have hBy := hB.alloc hbs (.cells #[.int .i64 y] 3)
      have hyc : (wr.alloc (.cells #[.int .i64 y] 3)).cell? ⟨wr.heap.size, 0, none⟩ = some (.int .i64 y) := by rw [World.cell?_alloc_at _ _ _ _ rfl]; rfl
      have R9y : Row (wr.alloc (.cells #[.int .i64 y] 3)) w.heap.size 4 _ _ _ := World.ownsRow.alloc R9 _
      have R10y : RowS (wr.alloc (.cells #[.int .i64 y] 3)) w.heap.size _ _ _ := World.ownsRow.alloc R10 _
      go_wp2_with fail
      refine (indexSlot _ _ _ _ y _ _ (RowS.reads R10y) (by omega) hyc).mono ?_; rintro e w2 ⟨rfl, hB2⟩
      have hBy2 := hBy.trans (hB2.mono hBy.size)
      have hyc2 : w2.cell? ⟨wr.heap.size, 0, none⟩ = some (.int .i64 y) := by rw [hB2.cell (cell_lt hyc)]; exact hyc
      have R9z := Row.below R9y hB2
      have R10z : RowS w2 w.heap.size _ _ _ := own_below R10y hB2
      clear R9y R10y
      have hb2 := hBy2.size
      by_cases hm : y ∈ held.map Prod.fst
      · obtain ⟨b, hb⟩ := held_at hm
        have HIX := Lib.hid (ixI_mem hm)
        have hj : (held.map Prod.fst).idxOf y < n10 := by have h1 := List.idxOf_lt_length_iff.2 hm; have h2 := RowS.len R10z; rw [List.length_map] at h1; omega
        have HNX : Hid (clockRun s (l.take (k + 1)) = ⟨hits ++ [true], held.set ((held.map Prod.fst).idxOf y) (y, true), hand⟩) := Lib.hid (by rw [HST.out, HF'.out, clockStep, if_pos hm])
        clear hm
        generalize (held.map Prod.fst).idxOf y = j at *
        have HB := Lib.hid hb
        clear hb
        have hj0 : (0 : Int) ≤ j := by omega
        rw [HIX.out]
        go_wp2_with (at_builtin; refine wpList_push _ rfl (.tmp 33) (.tmp 36) _ rfl w.heap.size 4 _ _ Tryd.underlying24 infoB rfl (by decide) _ _ _ rfl R9z (.bool true) rfl rfl (by omega) hb2 ?_; intro v' w3 R9' g9; have hB3 := hBy2.grown g9 hb2 (fun b hb => (R9z.lt b hb).1); have R10' := own_kept R10z g9 R9z (by decide); obtain ⟨g, s', rfl, HS, hs0, hs1⟩ := (RowS.reads R10').at_ hj; have hfr := World.ownsRow.frozenAt R10' (j * 2 + 1))
        have hst := World.ownsRow.stored R10' (j * 2 + 1) (.bool true)
        go_roundw
        case rel =>
          obtain ⟨hst1, hst2⟩ := hst
          rw [cellsS_set1 held j _ true HB.out] at hst1
          exact ⟨k + 1, n10, c10, hand, _, by omega, by go_num, rfl, rfl, hits ++ [true], _, HNX.out, by simpa [Row] using own_kept R9' hst2 R10' (by decide), hst1, hn10, hhand, hB3.grown hst2 hB3.size (fun b hb => (World.ownsRow.lt R10' b hb).1)⟩
        case measure => simp [intOf]; omega
      · have HIX := Lib.hid (ixI_not hm)
        have hlen := RowS.len R10z
        rw [HIX.out]
        have hj0 : ¬ (0 : Int) ≤ -1 := by omega
        by_cases hroom : n10 < s
        · have HNX : Hid (clockRun s (l.take (k + 1)) = ⟨hits ++ [false], held ++ [(y, true)], hand⟩) := Lib.hid (by rw [HST.out, HF'.out, clockStep, if_neg hm, if_pos (by show held.length < s; omega)])
          clear hm hlen
          go_wp2_with (first
            | (at_builtin; refine wpList_push _ rfl (.tmp 33) (.tmp 36) _ rfl w.heap.size 4 _ _ Tryd.underlying24 infoB rfl (by decide) _ _ _ rfl R9z (.bool false) rfl rfl (by omega) hb2 ?_; intro v' w3 R9' g9; have hB3 := hBy2.grown g9 hb2 (fun b hb => (R9z.lt b hb).1); have R10' := own_kept R10z g9 R9z (by decide); have hyc3 : w3.cell? ⟨wr.heap.size, 0, none⟩ = some (.int .i64 y) := g9.cell hyc2 (fun he => by have := (R9.lt _ he.symm).2; simp at this); have hb3 := hB3.size)
            | (at_builtin; refine wpList_pushS _ rfl (.tmp 72) (.tmp 75) _ rfl w.heap.size 51 _ _ Tryd.underlying48 infoS rfl (by decide) _ _ _ rfl R10' (.int .i64 y) (.bool true) rfl rfl rfl (by omega) hb3 ?_; intro v'' w4 R10'' g10))
          have F10 := Lib.hid (own_form R10'')
          go_roundw
          case rel =>
            obtain ⟨A', c', hv, _, _⟩ := F10.out
            refine ⟨k + 1, n10 + 1, c', hand, A', by omega, by go_num, hv, rfl, hits ++ [false], _, HNX.out, by simpa [Row] using own_kept R9' g10 R10' (by decide), ?_, by omega, hhand, hB3.grown g10 hb3 (fun b hb => (World.ownsRow.lt R10' b hb).1)⟩
            rw [← hv]
            show World.ownsRow _ _ _ _ _ _ (cellsS (held ++ [(y, true)]))
            rw [cellsS_append]; exact R10''
          case measure => simp [intOf]; omega
        · have hns : n10 = s := by omega
          have HNX : Hid (clockRun s (l.take (k + 1)) = ⟨hits ++ [false], (sweepM s held hand).1.set (sweepM s held hand).2 (y, true), ((sweepM s held hand).2 + 1) % s⟩) := Lib.hid (by rw [HST.out, HF'.out, clockStep, if_neg hm, if_neg (by show ¬ held.length < s; omega)])
          subst hns
          clear hm hlen hroom
          go_wp2_with (at_builtin; refine wpList_push _ rfl (.tmp 33) (.tmp 36) _ rfl w.heap.size 4 _ _ Tryd.underlying24 infoB rfl (by decide) _ _ _ rfl R9z (.bool false) rfl rfl (by omega) hb2 ?_; intro v' w3 R9' g9; have hB3 := hBy2.grown g9 hb2 (fun b hb => (R9z.lt b hb).1); have R10' := own_kept R10z g9 R9z (by decide); have hyc3 : w3.cell? ⟨wr.heap.size, 0, none⟩ = some (.int .i64 y) := g9.cell hyc2 (fun he => by have := (R9.lt _ he.symm).2; simp at this); have hb3 := hB3.size; have hA10 := (RowS.reads R10').at_ (k := 0) (by omega); have hbk := World.ownsRow.lt R10)
          obtain ⟨g, _, rfl, _, _, _⟩ := hA10
          have hgk : g < wr.heap.size := (hbk g rfl).2
          have hgb : w.heap.size ≤ g := (hbk g rfl).1
          clear hbk
          have hB3' := hB3
          go_loopg [11] (marks held) (fun m v11 wj => ∃ hand' : Nat, ∃ cur, v11 = .int .i64 hand' ∧ hand' < n10 ∧ ClockSweep w wj v' (.slice (some ⟨g, 0, none⟩) n10 c10) n10 k hand hand' y wr.heap.size hits held cur m)
          case atStart => exact ⟨hand, held, rfl, hhand, R9', R10', hB3, hyc3, rfl, rfl⟩
          case round =>
            obtain ⟨hand', cur, rfl, hhand', R9', R10', hB3, hyc3, hsw, hmk⟩ := hrel
            have HSW := Lib.hid hsw
            have HMK := Lib.hid hmk
            clear hsw hmk
            obtain ⟨g', ⟨q, mk⟩, hg', HS, hs0, hs1⟩ := (RowS.reads R10').at_ hhand'
            injection hg' with hg'
            injection hg' with hg'
            subst hg'
            have hfr := World.ownsRow.frozenAt R10' (hand' * 2 + 1)
            have hfr0 := World.ownsRow.frozenAt R10' (hand' * 2)
            have hhi : (hand' : Int) < n10 := by omega
            have hmod : (hand' + 1) % n10 < n10 := Nat.mod_lt _ (by omega)
            have hmodI : ((hand' : Int) + 1) % (n10 : Int) = (((hand' + 1) % n10 : Nat) : Int) := by simp
            have HMOD := Lib.hid hmodI
            clear hmodI
            cases mk
            · have HE := Lib.hid (HSW.out.symm.trans (sweepM_stop HS.out))
              have hst := World.ownsRow.stored R10' (hand' * 2) (.int .i64 y)
              obtain ⟨hst1, hst2⟩ := hst
              have hst' := World.ownsRow.stored hst1 (hand' * 2 + 1) (.bool true)
              obtain ⟨hst3, hst4⟩ := hst'
              have hlc : hand' < cur.length := by have := RowS.len R10'; omega
              rw [cellsS_set2 cur hand' y true hlc] at hst3
              have HST3 := Lib.hid hst3
              have HG := Lib.hid (grownBy_trans hst2 hst4)
              clear hst1 hst2 hst3 hst4
              go_wp2
              go_roundw
              case rel =>
                have hm1 := hmod
                refine ⟨k + 1, n10, c10, (hand' + 1) % n10, _, by omega, by go_num, rfl, by first | rfl | rw [HMOD.out], hits ++ [false], _, by rw [HNX.out, HE.out], ?_, HST3.out, by omega, hm1, ?_⟩
                · simpa [Row] using own_kept R9' HG.out R10' (by decide)
                · exact hB3.grown HG.out hB3.size (fun b hb => by injection hb with hb; omega)
              case measure => simp [intOf]; omega
            · have hst := World.ownsRow.stored R10' (hand' * 2 + 1) (.bool false)
              obtain ⟨hst1, hst2⟩ := hst
              rw [cellsS_set1 cur hand' _ false HS.out] at hst1
              have HST1 := Lib.hid hst1
              have HG := Lib.hid hst2
              have HSW2 := Lib.hid (HSW.out ▸ (sweepM_on (s := n10) HS.out).symm)
              have HMS := Lib.hid (marks_set _ _ _ HS.out)
              clear hst1 hst2
              go_wp2
              go_roundg (marks (cur.set hand' (q, false)))
              case measure => have h1 := HMS.out; have h2 := HMK.out; omega
              case rel =>
                refine ⟨(hand' + 1) % n10, cur.set hand' (q, false), by first | rfl | rw [HMOD.out], hmod, ?_, HST1.out, ?_, ?_, HSW2.out, rfl⟩
                · exact own_kept (v' := .slice (some ⟨g, 0, none⟩) n10 c10) R9' HG.out R10' (by decide)
                · exact hB3.grown HG.out hB3.size (fun b hb => by injection hb with hb; omega)
                · exact HG.out.cell hyc3 (fun he => by injection he with he; simp at he; omega)
    · have HE := Lib.hid (show k = n by omega)
      have hl10 := RowS.len R10
      have HL10 := Lib.hid hl10
      clear hl10
      have F9 := Lib.hid R9.form
      have hnn10 : n10 ≤ 8 := by omega
      have HFN : Hid (clockRun s l = ⟨hits, held, hand⟩) := Lib.hid (by have := HF'.out; rwa [List.take_of_length_le (by have := HL.out; have := HE.out; omega)] at this)
      have hke := HE.out
      subst hke
      go_wp2
      go_loopw [15, 17, 80] (fun v15 _ i wj => ∃ j : Nat, ∃ A15 c15, j ≤ n10 ∧ i = .int .i64 j ∧ v15 = .slice A15 j c15 ∧ ClockPages w wj u9 (.slice A10 n10 c10) v15 k n10 j hits held) (fun _ _ i _ => n10 - (intOf i).toNat)
      case atStart => exact ⟨0, none, 0, by omega, by go_num, rfl, R9, R10, by simpa using Row.nil_ _ _ _, hB⟩
      case round =>
        obtain ⟨j, A15, c15, hj, rfl, rfl, R9, R10, R15, hB⟩ := hrel
        have hbs := hB.size
        by_cases hlj : j < n10
        · obtain ⟨g, ⟨q, mk⟩, rfl, HS, hs0, hs1⟩ := (RowS.reads R10).at_ hlj
          have HT : Hid ((held.map Prod.fst).take (j + 1) = (held.map Prod.fst).take j ++ [q]) := Lib.hid (take_succ_of (mem_fst_of_at HS.out))
          have hBy := hB.alloc hbs (.cells #[.int .i64 q, .bool mk] 51)
          have hby := hBy.size
          have HSZ : Hid ((wr.alloc (.cells #[.int .i64 q, .bool mk] 51)).heap.size = wr.heap.size + 1) := Lib.hid (by simp)
          have R15y : Row (wr.alloc (.cells #[.int .i64 q, .bool mk] 51)) w.heap.size 3 _ _ _ := World.ownsRow.alloc R15 _
          have R9y : Row (wr.alloc (.cells #[.int .i64 q, .bool mk] 51)) w.heap.size 4 _ _ _ := World.ownsRow.alloc R9 _
          have R10y : RowS (wr.alloc (.cells #[.int .i64 q, .bool mk] 51)) w.heap.size _ _ _ := World.ownsRow.alloc R10 _
          go_wp2_with (at_builtin; refine wpList_push _ rfl (.tmp 84) (.tmp 87) _ rfl w.heap.size 3 _ _ Tryd.underlying22 infoI rfl (by decide) _ _ _ rfl R15y (.int .i64 q) (by show Value.slice (some ⟨wr.heap.size + 1, 0, none⟩) 1 1 = _; rw [HSZ.out]) rfl (by omega) hby ?_; intro v' w4 R15' g15)
          have F15 := Lib.hid R15'.form
          go_roundw
          case rel =>
            obtain ⟨A', c', hv, _, _⟩ := F15.out
            refine ⟨j + 1, A', c', by omega, by go_num, hv, own_kept R9y g15 R15y (by decide), own_kept R10y g15 R15y (by decide), ?_, hBy.grown g15 hby (fun b hb => (R15y.lt b hb).1)⟩
            rw [HT.out, List.map_append]; exact R15'
          case measure => simp [intOf]; omega
        · have hjn : j = n10 := by omega
          have HTT : Hid ((held.map Prod.fst).take n10 = held.map Prod.fst) := Lib.hid (List.take_of_length_le (by have := HL10.out; simp; omega))
          subst hjn
          go_wp2
          obtain ⟨A1, c1, hv9, _, _⟩ := F9.out
          subst hv9
          exact bodyPost_ret (v := .tuple #[.slice A1 k c1, .slice A15 j c15, .int .i64 ((hand : Nat) : Int), .nilIface]) (by simp [results, Tryd.results8, go_sem]) rfl ⟨A1, c1, A15, j, c15, by rw [Int.toNat_natCast, HFN.out], by rw [Int.toNat_natCast, HFN.out]; exact R9, by rw [Int.toNat_natCast, HFN.out]; have h1 := R15; rw [HTT.out] at h1; exact h1, hnn10, hB⟩
end Go.Proofs.YtpamnnnihfjdkaaDoor
