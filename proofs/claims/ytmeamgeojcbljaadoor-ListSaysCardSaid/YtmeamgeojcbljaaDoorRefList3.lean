/- The walk of larderwickref1.Rows: all rows of some things. -/
import Derived.Test.YtmeamgeojcbljaaDoorRefList1
namespace Go.Proofs.YtmeamgeojcbljaaDoor
open Go.ChangeShapes Go.WideShapes Go.ChangeAt Go.RowKit

theorem infoL : (Tryd.prog.info? 22).map (fun i => (i.zero, i.size, i.bytes)) = some (some (.slice none 0 0), 1, 24) := by kernel_rfl
/-- Values that are rows of this call's own, which read as those lists. -/
def RowsV (w : World) (base : Nat) (vs : List Value) (L : List (List Int)) : Prop :=
  vs.length = L.length ∧ ∀ (i : Nat) (l : List Int), L[i]? = some l → ∃ A c, vs[i]? = some (.slice A l.length c) ∧ Row w base 3 (.slice A l.length c) l.length (l.map (Value.int .i64))
section
variable {w w' : World} {base : Nat} {vs : List Value} {L : List (List Int)}
theorem RowsV.nil_ (w : World) (base : Nat) : RowsV w base [] [] := ⟨rfl, fun i l h => by simp at h⟩
theorem RowsV.below (h : RowsV w base vs L) (hb : Below w.heap.size w w') : RowsV w' base vs L :=
  ⟨h.1, fun i l hl => by obtain ⟨A, c, h1, h2⟩ := h.2 i l hl; exact ⟨A, c, h1, h2.below hb⟩⟩
theorem RowsV.base_down {base' : Nat} (h : RowsV w base vs L) (hb : base' ≤ base) : RowsV w base' vs L :=
  ⟨h.1, fun i l hl => by obtain ⟨A, c, h1, h2⟩ := h.2 i l hl; exact ⟨A, c, h1, h2.base_down hb⟩⟩
theorem RowsV.kept {base' n : Nat} {v : Value} {xs : List Value} (h : RowsV w base vs L) (hg : w.grownBy w' v.ownBlock) (h' : Row w base' 22 v n xs) : RowsV w' base vs L :=
  ⟨h.1, fun i l hl => by obtain ⟨A, c, h1, h2⟩ := h.2 i l hl; exact ⟨A, c, h1, h2.kept hg h' (by decide)⟩⟩
theorem RowsV.push (h : RowsV w base vs L) {A : Option Addr} {n c : Nat} {l : List Int} (hn : l.length = n) (hr : Row w base 3 (.slice A n c) n (l.map (Value.int .i64))) : RowsV w base (vs ++ [.slice A n c]) (L ++ [l]) := by
  subst hn
  refine ⟨by simp [h.1], fun i l' hl => ?_⟩
  rcases Nat.lt_or_ge i L.length with hi | hi
  · rw [List.getElem?_append_left hi] at hl
    obtain ⟨A, c, h1, h2⟩ := h.2 i l' hl
    exact ⟨A, c, by rw [List.getElem?_append_left (by rw [h.1]; exact hi)]; exact h1, h2⟩
  · rw [List.getElem?_append_right hi] at hl
    have hi2 := (List.getElem?_eq_some_iff.1 hl).1
    simp at hi2
    obtain rfl : i = L.length := by omega
    simp at hl
    subst hl
    exact ⟨A, c, by rw [List.getElem?_append_right (by rw [h.1]; omega), h.1]; simp, hr⟩
end
/-- A cell of a row. -/
theorem Row.cellv {w : World} {base : Nat} {e : TypeId} {A : Option Addr} {n c : Nat} {xs : List Value} (h : Row w base e (.slice A n c) n xs) {k : Nat} {v : Value} (hv : xs[k]? = some v) : ∃ g, A = some ⟨g, 0, none⟩ ∧ base ≤ g ∧ w.cell? ⟨g, k, none⟩ = some v := by
  have hk := (List.getElem?_eq_some_iff.1 hv).1
  rw [h.len] at hk
  rcases h.2 with ⟨hn, h0⟩ | ⟨g, cap, cur, hn, hb, hh, _⟩
  · omega
  · injection hn with hA
    subst hA
    refine ⟨g, rfl, hb, ?_⟩
    have := World.ownsRow.cells (v := .slice (some ⟨g, 0, none⟩) n c) h (g := g) rfl k _ hv
    rwa [add_zero_at] at this

def RowsP (n : Nat) (w : World) (e : Ending) (w' : World) : Prop :=
  ∃ A N c vs, e = .returned (.slice A N c) ∧ N = (rowsR n).length ∧ Row w' w.heap.size 22 (.slice A N c) N vs ∧ RowsV w' w.heap.size vs (rowsR n) ∧ Below w.heap.size w w'

theorem rrows_zero (w : World) : Calls Tryd.prog 70 #[.int .i64 0] w (RowsP 0 w) := by
  have hR : Row (w.alloc (.cells #[.slice none 0 0] 22)) w.heap.size 22 (.slice (some ⟨w.heap.size, 0, none⟩) 1 1) 1 [.slice none 0 0] :=
    World.ownsRow_lit (base := w.heap.size) (e := 22) (size := 1) w #[.slice none 0 0] 1 (Nat.le_refl _) (by simp [maxLen]) rfl
  have hV : RowsV (w.alloc (.cells #[.slice none 0 0] 22)) w.heap.size [.slice none 0 0] [[]] :=
    (RowsV.nil_ _ _).push (n := 0) rfl (Row.nil_ _ _ _)
  have hB := (Below.refl w.heap.size w).alloc (Nat.le_refl _) (.cells #[.slice none 0 0] 22)
  go_enter Tryd.func70, Tryd.ntmps70
  go_wp2
  go_ret
  exact ⟨_, 1, 1, _, rfl, rfl, hR, hV, hB⟩

def partR (n i k : Nat) : List (List Int) := (((rowsR n).take i).flatMap fun r => (List.range (n + 1)).map fun k => putL r k n) ++ (List.range k).map fun k => putL ((rowsR n).getD i []) k n
theorem partR_zero (n : Nat) : partR n 0 0 = [] := rfl
theorem partR_succ (n i k : Nat) : partR n i (k + 1) = partR n i k ++ [putL ((rowsR n).getD i []) k n] := by
  unfold partR
  rw [List.range_succ (n := k), List.map_append, List.append_assoc, List.map_singleton]
theorem partR_next {n i : Nat} (h : i < (rowsR n).length) : partR n i (n + 1) = partR n (i + 1) 0 := by
  unfold partR
  rw [List.take_succ_eq_append_getElem h, List.flatMap_append, List.flatMap_singleton, List.getD_eq_getElem?_getD, List.getElem?_eq_getElem h]
  simp
theorem partR_all (n : Nat) : partR n (rowsR n).length 0 = rowsR (n + 1) := by
  unfold partR
  rw [List.take_length]
  simp [rowsR]

set_option maxRecDepth 100000 in
set_option maxHeartbeats 2000000 in
theorem rrows_succ (n N : Nat) (hN : N = n + 1) (hn : n ≤ 3) (IH : ∀ w, Calls Tryd.prog 70 #[.int .i64 n] w (RowsP n w)) (w : World) :
    Calls Tryd.prog 70 #[.int .i64 N] w (RowsP N w) := by
  have HIH := Lib.hid (IH w)
  have hw : (N : Int) - 1 = n := by omega
  have HNN := Lib.hid hN
  have hN1 : 1 ≤ N := by omega
  have hN4 : N ≤ 4 := by omega
  have hN0 : ¬ (N : Int) = 0 := by omega
  have HW := Lib.hid hw
  have HML := Lib.hid (rowsR_many n (in04 (by omega))).2
  have HLN := Lib.hid (rowsR_len n (in04 (by omega)))
  clear hw hN IH
  go_enter Tryd.func70, Tryd.ntmps70
  go_wp2_with fail
  rw [HW.out]
  refine HIH.out.mono ?_; rintro e w1 ⟨A1, M, c1, vs1, rfl, hM, R1, V1, hB1⟩
  have HMM := Lib.hid hM
  have hM24 : M ≤ 24 := by rw [hM]; exact HML.out
  clear hM HIH
  have hb1 := hB1.size
  go_wp2
  go_loopw [3, 5] (fun v3 i wr => ∃ (i0 q : Nat) (vs : List Value), i0 ≤ M ∧ i = .int .i64 i0 ∧ q ≤ 4 * i0 ∧ Row wr w1.heap.size 22 v3 q vs ∧ RowsV wr w1.heap.size vs (partR n i0 0) ∧ Below w1.heap.size w1 wr) (fun _ i _ => M - (intOf i).toNat)
  case atStart => exact ⟨0, 0, [], by omega, by go_num, by omega, Row.nil_ _ _ _, by rw [partR_zero]; exact RowsV.nil_ _ _, Below.refl _ _⟩
  case round =>
    obtain ⟨W0, hW0⟩ : ∃ W0, W0 = wr := ⟨_, rfl⟩
    subst hW0
    obtain ⟨i0, q, vs, hi0, rfl, hq, R3, V3, hB3⟩ := hrel
    by_cases hlt : i0 < M
    · obtain ⟨r, hr⟩ : ∃ r, (rowsR n)[i0]? = some r := ⟨_, List.getElem?_eq_getElem (by rw [← HMM.out]; exact hlt)⟩
      have HRL := Lib.hid (HLN.out r (List.mem_of_getElem? hr))
      have HRR := Lib.hid hr
      clear hr
      go_wp2
      go_loopw [3, 6] (fun v3 i wr => ∃ (k q : Nat) (vs : List Value), k ≤ N ∧ i = .int .i64 k ∧ q ≤ 4 * i0 + k ∧ Row wr w1.heap.size 22 v3 q vs ∧ RowsV wr w1.heap.size vs (partR n i0 k) ∧ Below w1.heap.size w1 wr) (fun _ i _ => N - (intOf i).toNat)
      case atStart => exact ⟨0, q, vs, by omega, by go_num, by omega, R3, V3, hB3⟩
      case round =>
        clear R3 V3 hB3 hq vs q
        obtain ⟨W1, hW1⟩ : ∃ W1, W1 = wr := ⟨_, rfl⟩
        subst hW1
        obtain ⟨k, q, vs, hk, rfl, hq, R3, V3, hB3⟩ := hrel
        by_cases hlk : k < N
        · obtain ⟨A2, c2, hv2, R2⟩ := (V1.below hB3).2 i0 r HRR.out
          rw [HRL.out] at hv2 R2
          obtain ⟨g, rfl, hg, hc⟩ := (R1.below hB3).cellv hv2
          have HPUT := Lib.hid (rput_ok (f := k) (x := (n : Int)) R2 (by have := HNN.out; omega) (by omega))
          rw [← HNN.out] at HPUT
          have HPL := Lib.hid (show (putL r k (n : Int)).length = N by rw [putL_len, HRL.out, HNN.out])
          clear hv2 R2
          go_wp2_with fail
          rw [HW.out]
          refine HPUT.out.mono ?_; rintro e w2 ⟨A3, c3, rfl, R5, hB2⟩
          have hb3 := hB3.size
          have hB4 := hB3.trans (hB2.mono hb3)
          have hb4 := hB4.size
          have R3b := R3.below hB2
          have V4 := (V3.below hB2).push HPL.out (R5.base_down hb3)
          have V4' : RowsV w2 w1.heap.size (vs ++ [.slice A3 N c3]) (partR n i0 (k + 1)) := by
            rw [partR_succ, List.getD_eq_getElem?_getD, HRR.out]; exact V4
          clear R3 V3 V4 R5
          go_wp2_with (at_builtin; refine wpList_push8 _ rfl (.tmp 24) (.tmp 33) _ rfl w1.heap.size 22 _ _ Tryd.underlying93 infoL rfl _ _ _ rfl R3b (.slice A3 N c3) rfl rfl (by simp only [maxLen]; omega) (by omega) hb4 ?_; intro v' w3 R6 g6)
          go_roundw
          case rel => exact ⟨k + 1, q + 1, _, by omega, by go_num, by omega, R6, V4'.kept g6 R3b, hB4.grown g6 hb4 (fun b hb => (R3b.lt b hb).1)⟩
          case measure => simp [intOf]; omega
        · obtain rfl : k = N := by omega
          have V3' : RowsV W1 w1.heap.size vs (partR n (i0 + 1) 0) := by rw [← partR_next (by rw [← HMM.out]; exact hlt), ← HNN.out]; exact V3
          go_wp2
          go_roundw
          case rel => exact ⟨i0 + 1, q, vs, by omega, by go_num, by omega, R3, V3', hB3⟩
          case measure => simp [intOf]; omega
    · obtain rfl : i0 = M := by omega
      have F3 := Lib.hid R3.form
      go_wp2
      go_ret
      obtain ⟨A3, c3, hv, _, _⟩ := F3.out
      rw [HMM.out, partR_all, ← HNN.out] at V3
      rw [hv] at R3
      have hlen : q = (rowsR N).length := by rw [← V3.1]; exact R3.len.symm
      exact ⟨A3, q, c3, vs, by rw [hv]; rfl, hlen, R3.base_down hb1, V3.base_down hb1, hB1.trans (hB3.mono hb1)⟩
theorem rrows_ok : ∀ (n : Nat), n ≤ 4 → ∀ w, Calls Tryd.prog 70 #[.int .i64 n] w (RowsP n w)
  | 0, _, w => rrows_zero w
  | n + 1, h, w => rrows_succ n (n + 1) rfl (by omega) (rrows_ok n (by omega)) w
end Go.Proofs.YtmeamgeojcbljaaDoor
