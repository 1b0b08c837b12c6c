/- core.Memo at lists.row: All hands over the entries, in whatever order. -/
import Derived.Test.YtmeamgeojcbljaaDoorMemoW
import Derived.Test.YtmeamgeojcbljaaDoorRound
import Derived.RangeFuncMany
import Derived.Sort.MapsRangeIn
import Derived.TacticsInMore
import Derived.RegionIn
import Derived.LoopNIn
import Derived.LoopIn
import Derived.Shelf.Abstract
namespace Go.Proofs.YtmeamgeojcbljaaDoor
open Go.RowKit Go.Maps Go.ChangeAt Go.Shelf

abbrev encsW (p : (List Int) × Int) : Array Value := #[encW p.1, .int .i64 p.2]

set_option maxHeartbeats 1000000 in
theorem all_W (p : Nat) (w : World) : Calls Tryd.prog 79 #[.pointer (some ⟨p, 0, none⟩)] w fun e w' =>
    e = .returned (.func (.func 100) #[] #[.pointer (some ⟨w.heap.size, 0, none⟩)]) ∧ w' = w.alloc (.cells #[.pointer (some ⟨p, 0, none⟩)] 96) := by
  go_enter Tryd.func79, Tryd.ntmps79
  go_wp2
  go_ret
  exact ⟨rfl, rfl⟩

theorem ranges_itW {P : Program} {k : TypeId} {R : Value → Option (DataW Unit × List MemPlace)} {w w' : World} {b r n : Nat} {D : DataW Unit} {left : Lit → Bool} {cnt : Nat} (h : w.ranges P k R b r n D left cnt) (hk : KeepsIt b w w') : w'.ranges P k R b r n D left cnt := by
  have hb := h.owns.lt
  obtain ⟨es, clock, since, seen, c0, h1, h2, h3, h4, h5, h6⟩ := h
  exact ⟨es, clock, since, seen, c0, (hk.block hb).trans h1, h2, h3, h4, hk.iter r _ h5 rfl, h6⟩

set_option maxRecDepth 100000 in
set_option maxHeartbeats 2000000 in
theorem alls_W (n : Nat) (B p b : Nat) (L : List ((List Int) × Int)) (w : World) (hB : B < w.heap.size) (hc : w.cell? ⟨B, 0, none⟩ = some (.pointer (some ⟨p, 0, none⟩))) (hM : MemoW w p (some b) L) :
    SeqB Fence.wide n Tryd.prog 100 #[.pointer (some ⟨B, 0, none⟩)] encsW (KeepsIt b) (fun xs => L.Perm xs) (fun ps x => ∃ rest, L.Perm (ps ++ x :: rest)) w := by
  intro l J W hW hJ hY h0
  have hc' : W.cell? ⟨B, 0, none⟩ = some (.pointer (some ⟨p, 0, none⟩)) := (hW.cell (p := ⟨B, 0, none⟩) hB).trans hc
  have hM' : MemoW W p (some b) L := hM.keep fun k hk _ => hW.block k hk
  have hc0 := hM'.1.cell
  have hg := Lib.hid hM'.good
  obtain ⟨_, es, hperm, hown⟩ := hM'.2
  have hpm := Lib.hid hperm
  clear hM hM' hc hperm
  refine callsIn_of_wp Tryd.func100 rfl trivial ?_ rfl
  simp only [Tryd.ntmps100, List.size_toArray, List.length_cons, List.length_nil, Nat.reduceAdd, Nat.reduceSub, Array.replicate_succ, Array.replicate_zero, List.push_toArray, List.append_toArray, List.nil_append, List.cons_append]
  gi_wp2_with (first
    | (gi_at_range; refine wpListIn_range_own _ rfl _ 97 rfl 102 3 keyRdW.law Tryd.underlying97 _ b L.length _ rfl hown ?_; intro w0 hrg0 hg0 hs0)
    | gi_in)
  try go_frame
  gi_loopw [3, 4] (fun _ _ wr => ∃ (left : Lit → Bool) (cnt : Nat) (ps : List ((List Int) × Int)), wr.ranges (H := Unit) Tryd.prog 102 (plainElem Tryd.prog 3) b W.heap.size L.length (.map es) left cnt ∧ Come litW L ps left ∧ J ps wr)
    (fun _ _ wr => wr.rangeLeft b W.heap.size)
  case atStart =>
    exact ⟨_, _, [], hrg0, Come.start keyRdW hg hpm hown, hJ [] W w0 none h0 hg0 (fun r e => by cases e)⟩
  case round =>
    obtain ⟨left, cnt, ps, hrg, hC, hJs⟩ := hrel
    gi_wp2_with (first
      | (gi_at_next; refine wpListIn_next_ranges _ rfl _ rfl 102 keyRdW.law (plainElem Tryd.prog 3) encW (Value.int .i64) (fun key kl hk => by obtain ⟨x, hx, e, _⟩ := keyRdW.inv _ _ hk; exact ⟨x, e⟩) (fun v y hv => by obtain ⟨c, rfl, _⟩ := plainElem_int_inv Tryd.underlying3 hv; exact ⟨c, rfl⟩) b W.heap.size L.length _ _ _ rfl hrg ?_ ?_)
      | gi_in)
    · intro hc0 hl0
      gi_wp2
      go_end0
      exact ⟨⟨_, rfl⟩, ps, hC.all hl0, hJs⟩
    · intro x c kl yd yp w2 cnt2 hkey2 hlk hv hat hrg2 hlt hg2 hs2 hen
      obtain ⟨x', hx', ex, rfl⟩ := keyRdW.inv _ _ hkey2
      obtain rfl : x = x' := keyRdW.einj _ _ ex
      obtain ⟨a0, a1, a2, a3, rfl⟩ := okP_decW hx'
      obtain ⟨c', ec, ez, hwc⟩ := plainElem_int_inv Tryd.underlying3 hv
      obtain rfl : c = c' := by simpa using ec
      obtain rfl : yd = .lit (.int .i64 c) := (Prod.mk.inj ez).1
      have hJ2 : J ps w2 := hJ ps wr w2 (some W.heap.size) hJs hg2 (fun r e => by cases e; obtain ⟨_, _, _, _, _, _, _, _, _, h5, _⟩ := hrg; exact ⟨Nat.le_refl _, _, h5, rfl⟩)
      have hJ3 : J ps (w2.alloc (.cells #[.int .i64 a0, .int .i64 a1, .int .i64 a2, .int .i64 a3] 102)) := hJ ps w2 _ none hJ2 (World.grownBy_alloc w2 _ none) (fun r e => by cases e)
      obtain ⟨hP, hC2⟩ := hC.step keyRdW hg hpm hx' hlk hat
      obtain ⟨fn, tmps, assign, body, hy, hR⟩ := hY ps ([a0, a1, a2, a3], c) (w2.alloc (.cells #[.int .i64 a0, .int .i64 a1, .int .i64 a2, .int .i64 a3] 102)) hJ3 hP
      have hy' : (Instr.yield l #[.agg #[.int .i64 a0, .int .i64 a1, .int .i64 a2, .int .i64 a3], .int .i64 c]).run Tryd.prog (w2.alloc (.cells #[.int .i64 a0, .int .i64 a1, .int .i64 a2, .int .i64 a3] 102)) = _ := hy
      have hen' : (Instr.entry (.pointer (some ⟨W.heap.size, 0, none⟩))).run Tryd.prog w2 = .ok (.tuple #[.agg #[.int .i64 a0, .int .i64 a1, .int .i64 a2, .int .i64 a3], .int .i64 c]) w2 := hen
      have hbx : (w2.alloc (.cells #[.int .i64 a0, .int .i64 a1, .int .i64 a2, .int .i64 a3] 102)).heap[w2.heap.size]? = some (.cells #[.int .i64 a0, .int .i64 a1, .int .i64 a2, .int .i64 a3] 102 (0, 0)) := World.alloc_heap_new w2 _
      have hrgA := hrg2.alloc (.cells #[.int .i64 a0, .int .i64 a1, .int .i64 a2, .int .i64 a3] 102)
      clear hs2 hW hc' hc0 hy hen
      rw [show encW [a0, a1, a2, a3] = .agg #[.int .i64 a0, .int .i64 a1, .int .i64 a2, .int .i64 a3] from rfl]
      gi_wp2
      refine ⟨fun h => (by cases h), hR.mono ?_⟩
      rintro e W3 ⟨rfl, hJ4, hk3⟩
      gi_wp2
      have hrg3 := ranges_itW hrgA hk3
      go_roundw
      case rel => exact ⟨_, cnt2, ps ++ [([a0, a1, a2, a3], c)], hrg3, hC2, hJ4⟩
      case measure => rw [hrg3.left_eq, hrg.left_eq]; exact hlt
end Go.Proofs.YtmeamgeojcbljaaDoor
