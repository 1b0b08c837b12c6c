/- The walk of larderwickref1.LeastAcks: from the end. -/
import Derived.Test.YtmeamgeojcbljaaDoorRefAcks
import Derived.Test.YtmeamgeojcbljaaDoorAckLeast
import Derived.StillTailTactics
import Derived.Deep.OwnRows
import Derived.Laws.OwnMore
namespace Go.Proofs.YtmeamgeojcbljaaDoor
open Go.ChangeShapes Go.WideShapes Go.ChangeAt Go.RowKit

/-- The least cost of telling all. -/
def LeastP (p : Int) (l : List Int) (m : Int) : Prop := Part p l m ∧ ∀ c, Part p l c → m ≤ c
theorem LeastP.uniq {p : Int} {l : List Int} {m m' : Int} (h : LeastP p l m) (h' : LeastP p l m') : m = m' := by
  have := h.2 m' h'.1
  have := h'.2 m h.1
  omega
theorem LeastP.nil {p : Int} (hp : 0 ≤ p) : LeastP p [] 0 := ⟨.nil, fun c hc => hc.nonneg hp⟩
theorem LeastP.bound {p : Int} (hp : 0 ≤ p) {l : List Int} {m : Int} (h : LeastP p l m) (hl : ∀ x ∈ l, 0 ≤ x ∧ x ≤ 1000) (hn : l.length ≤ 20) : 0 ≤ m ∧ m ≤ p + 20000 := by
  refine ⟨h.1.nonneg hp, ?_⟩
  induction l using list_snoc_ind with
  | h0 => have := h.2 0 .nil; omega
  | h1 a T _ =>
    have h1 := h.2 _ (by have := Part.mk (p := p) (b := []) (c := 0) a T .nil; rwa [List.append_nil] at this)
    have hT := hl T (by simp)
    have h2 := lateI_le (a ++ [T]) T (fun t ht => (hl t ht).1) hT.1
    have h3 : (((a ++ [T]).length : Nat) : Int) * T ≤ 20 * 1000 := Int.mul_le_mul (by omega) hT.2 hT.1 (by omega)
    omega
/-- The costs of the rests, from the end. -/
def IsBack (p : Int) (l B : List Int) (i : Nat) : Prop := B.length = l.length + 1 ∧ ∀ j, i ≤ j → j ≤ l.length → LeastP p (l.drop j) (B.getD j 0)
def backC (p : Int) (l B : List Int) (i t : Nat) : Int := p + lateI ((l.take (i + t + 1)).drop i) (l.getD (i + t) 0) + B.getD (i + t + 1) 0
theorem isBack_init {p : Int} (hp : 0 ≤ p) (l : List Int) : IsBack p l (List.replicate (l.length + 1) 0) l.length := by
  refine ⟨by simp, fun j h1 h2 => ?_⟩
  have : j = l.length := by omega
  subst this
  rw [List.drop_length]
  have e : (List.replicate (l.length + 1) (0 : Int)).getD l.length 0 = 0 := by
    rw [List.getD_eq_getElem?_getD, List.getElem?_replicate]; simp
  rw [e]
  exact .nil hp
theorem back_least {p : Int} {l B : List Int} {i : Nat} (hi : i < l.length) (h : IsBack p l B (i + 1)) {m : Int} (hm : MinUp (backC p l B i) (l.length - i) m) : LeastP p (l.drop i) m := by
  rcases hm with ⟨h1, _⟩ | ⟨_, _, h3, t, h4, h5⟩
  · omega
  constructor
  · have hy : l[i + t]? = some (l.getD (i + t) 0) := by
      rw [List.getD_eq_getElem?_getD, List.getElem?_eq_getElem (by omega)]; rfl
    have hP := (h.2 (i + t + 1) (by omega) (by omega)).1
    have hM := Part.mk (p := p) ((l.take (i + t)).drop i) (l.getD (i + t) 0) hP
    rw [← take_drop_last (by omega) hy] at hM
    rw [h5]
    have e : l.drop i = (l.take (i + t + 1)).drop i ++ l.drop (i + t + 1) := by
      have e2 : l.drop i = (l.take (i + t + 1) ++ l.drop (i + t + 1)).drop i := by rw [List.take_append_drop]
      rw [e2, List.drop_append_of_le_length (by rw [List.length_take]; omega)]
    rw [e]; exact hM
  · intro c hc
    generalize hL : l.drop i = L at hc
    cases hc with
    | nil => have := congrArg List.length hL; simp at this; omega
    | cons a b T c hb hT =>
      have hlen : (l.drop i).length = (a ++ [T] ++ b).length := by rw [hL]
      simp at hlen
      have hy : l[i + a.length]? = some T := by rw [← List.getElem?_drop, hL]; simp
      have e3 : (l.take (i + a.length + 1)).drop i = a ++ [T] := by
        rw [List.drop_take, hL, show i + a.length + 1 - i = (a ++ [T]).length by simp; omega, List.take_left]
      have eb : l.drop (i + a.length + 1) = b := by
        rw [Nat.add_assoc, ← List.drop_drop, hL, show a.length + 1 = (a ++ [T]).length by simp, List.drop_left]
      have h6 := h3 a.length (by omega)
      have h7 := (h.2 (i + a.length + 1) (by omega) (by omega)).2 c (by rw [eb]; exact hb)
      unfold backC at h6
      rw [e3, show l.getD (i + a.length) 0 = T by rw [List.getD_eq_getElem?_getD, hy]; rfl] at h6
      omega
theorem isBack_step {p : Int} {l B : List Int} {i : Nat} (hi : i < l.length) (h : IsBack p l B (i + 1)) {m : Int} (hm : LeastP p (l.drop i) m) : IsBack p l (B.set i m) i := by
  refine ⟨by rw [List.length_set]; exact h.1, fun j h1 h2 => ?_⟩
  rw [List.getD_eq_getElem?_getD, List.getElem?_set]
  by_cases hij : i = j
  · subst hij
    rw [if_pos rfl, if_pos (by have := h.1; omega)]; exact hm
  · rw [if_neg hij, ← List.getD_eq_getElem?_getD]
    exact h.2 j (by omega) h2
theorem best_leastP {p : Int} {l B : List Int} (h : IsBest p l B) (hB : B.length = l.length + 1) : LeastP p l (B.getD l.length 0) := ⟨best_is h hB, fun _ hc => best_least h hB hc⟩

theorem made_list (n : Nat) : (madeCells #[Value.int .i64 0] n).toList = (List.replicate n (0 : Int)).map (Value.int .i64) := by
  have e : madeCells #[Value.int .i64 0] n = Array.replicate n (.int .i64 0) := by
    unfold madeCells
    apply Array.ext
    · simp
    · intro i h1 h2
      simp [Nat.mod_one]
  rw [e]; simp
theorem made_row (w : World) (n : Nat) (hn : n ≤ maxLen) : Row (w.alloc (.cells (madeCells #[.int .i64 0] n) 3)) w.heap.size 3 (.slice (some ⟨w.heap.size, 0, none⟩) n n) n ((List.replicate n (0 : Int)).map (Value.int .i64)) := by
  have h0 := World.ownsRow_lit (base := w.heap.size) (e := 3) (size := 1) w (madeCells #[.int .i64 0] n) n (Nat.le_refl _) hn (by rw [size_madeCells]; simp)
  rw [made_list] at h0; exact h0
theorem madeN (n : Nat) (hn : n ≤ 100) (w : World) : (Instr.makeSlice 22 (.int .i64 ((n : Int) + 1)) (.int .i64 ((n : Int) + 1))).run Tryd.prog w = .ok (.slice (some ⟨w.heap.size, 0, none⟩) (n + 1) (n + 1)) (w.alloc (.cells (madeCells #[.int .i64 0] (n + 1)) 3)) :=
  run_make_row' 22 3 (.int .i64 0) 8 Tryd.underlying22 infoI rfl .i64 .i64 (n + 1) (by omega) (by omega) w
theorem lesser_q (a b : Int) (w : World) : Calls Tryd.prog 51 #[.int .i64 a, .int .i64 b] w fun e w' => e = .returned (.int .i64 (if a < 0 ∨ b < a then b else a)) ∧ w' = w := by
  by_cases h1 : a < 0
  · rw [if_pos (.inl h1)]
    go_enter Tryd.func51, Tryd.ntmps51
    go_wp2
    go_ret
    exact ⟨rfl, rfl⟩
  · by_cases h2 : b < a
    · rw [if_pos (.inr h2)]
      go_enter Tryd.func51, Tryd.ntmps51
      go_wp2
      go_ret
      exact ⟨rfl, rfl⟩
    · rw [if_neg (by omega)]
      go_enter Tryd.func51, Tryd.ntmps51
      go_wp2
      go_ret
      exact ⟨rfl, rfl⟩
theorem MinUp.less {c : Nat → Int} {j : Nat} {m : Int} (h : MinUp c j m) (h0 : 0 ≤ c j) : MinUp c (j + 1) (if m < 0 ∨ c j < m then c j else m) := by
  by_cases hm : m < 0 ∨ c j < m
  · rw [if_pos hm]; exact MinUp.new h h0 hm
  · rw [if_neg hm]; exact MinUp.old h hm

theorem still_tail {P : Program} {id : Nat} {Q : Exit → Act → World → Prop} {a : Act} {w : World} {l : List Oper} (n : Nat) (hm : P.follows .mixedOrders = true) (hB : Region.lexTailB .any l.toArray n = true)
    (h : wpStill P l.toArray w.drew (fun a' => wpList P l.toArray Q (l.drop n) a' w.drew) (l.take n) a) : (Code.region id l.toArray true).wp P Q a w := wp_region_still_tail n hm hB h

set_option maxRecDepth 100000 in
set_option maxHeartbeats 2000000 in
theorem rleast_ok (A : Option Addr) (n c : Nat) (l : List Int) (p : Int) (w : World) (h : RI w A n l) (hnc : n ≤ c) (hg : GoodA l p) :
    Calls Tryd.prog 12 #[.slice A n c, .int .i64 p] w fun e w' => ∃ k, e = .returned (.int .i64 k) ∧ LeastP p l k ∧ Below w.heap.size w w' := by
  have HL := Lib.hid h.len
  have HG := Lib.hid hg
  have hn : n ≤ 20 := by have := HL.out; have := hg.1.1; omega
  have hp1 : 1 ≤ p := hg.1.2.2.1
  have hp2 : p ≤ 20 := hg.1.2.2.2
  clear hg
  have hmk := madeN n (by omega)
  have R0 := made_row w (n + 1) (by simp [maxLen]; omega)
  have hBm := (Below.refl w.heap.size w).alloc (Nat.le_refl _) (.cells (madeCells #[.int .i64 0] (n + 1)) 3)
  have HI0 : Hid (IsBack p l (List.replicate (n + 1) 0) n) := Lib.hid (by have := isBack_init (p := p) (by omega) l; rwa [HL.out] at this)
  go_enter Tryd.func12, Tryd.ntmps12
  go_wp2
  clear hmk
  go_loopw [6, 7] (fun i _ wr => ∃ k : Nat, ∃ B : List Int, k ≤ n ∧ i = .int .i64 ((k : Int) - 1) ∧ Row wr w.heap.size 3 (.slice (some ⟨w.heap.size, 0, none⟩) (n + 1) (n + 1)) (n + 1) (B.map (Value.int .i64)) ∧ Hid (IsBack p l B k) ∧ Below w.heap.size w wr) (fun i _ _ => (intOf i + 1).toNat)
  case atStart => exact ⟨n, _, by omega, rfl, R0, HI0, hBm⟩
  case round =>
    obtain ⟨k, B, hk, rfl, R5, HB, hB⟩ := hrel
    have hbs := hB.size
    have HBL : Hid (B.length = n + 1) := Lib.hid (by have := HB.out.1; rw [HL.out] at this; exact this)
    rcases k with _ | i
    · have hc0 : wr.cell? ⟨w.heap.size, 0, none⟩ = some (.int .i64 (B.getD 0 0)) := by
        rw [World.ownsRow.cellAt R5 0 (by omega), List.getElem?_map, List.getElem?_eq_getElem (by have := HBL.out; omega), List.getD_eq_getElem?_getD, List.getElem?_eq_getElem (by have := HBL.out; omega)]; rfl
      have HE := Lib.hid (HB.out.2 0 (by omega) (by omega))
      rw [List.drop_zero] at HE
      generalize B.getD 0 0 = b at *
      go_wp2
      go_ret
      exact ⟨b, rfl, HE.out, hB⟩
    · have e1 : (((i + 1 : Nat) : Int) - 1) = i := by omega
      rw [e1]
      clear e1
      have hfr := World.ownsRow.frozenAt R5 i
      obtain ⟨hst1, hst2⟩ := World.ownsRow.stored R5 i (.int .i64 (-1))
      have hi0 : (0 : Int) ≤ (i : Int) := by omega
      have hB1 := hB.grown hst2 hbs (fun b hb => by injection hb with hb; omega)
      have R51 : Row (wr.setCell ⟨w.heap.size, i, none⟩ (.int .i64 (-1))) w.heap.size 3 (.slice (some ⟨w.heap.size, 0, none⟩) (n + 1) (n + 1)) (n + 1) ((B.set i (-1)).map (Value.int .i64)) := by rw [List.map_set]; exact hst1
      have hcap : i < n + 1 := by omega
      have hcell0 : wr.cell? ⟨w.heap.size, i, none⟩ = some (.int .i64 (B.getD i 0)) := by
        rw [World.ownsRow.cellAt R5 i (by omega), List.getElem?_map, List.getElem?_eq_getElem (by have := HBL.out; omega), List.getD_eq_getElem?_getD, List.getElem?_eq_getElem (by have := HBL.out; omega)]; rfl
      clear hst1 hst2
      go_wp2
      clear hfr hcell0
      go_loopw [7] (fun v7 wr => ∃ j t : Nat, ∃ m : Int, Hid (j = i + t) ∧ i ≤ j ∧ j ≤ n ∧ v7 = .int .i64 j ∧ -1 ≤ m ∧ m ≤ 40040 ∧ Row wr w.heap.size 3 (.slice (some ⟨w.heap.size, 0, none⟩) (n + 1) (n + 1)) (n + 1) ((B.set i m).map (Value.int .i64)) ∧ Hid (MinUp (backC p l B i) t m) ∧ Below w.heap.size w wr) (fun v7 _ => n - (intOf v7).toNat)
      case atStart => exact ⟨i, 0, -1, Lib.hid (by omega), by omega, by omega, by go_num, by omega, by omega, R51, Lib.hid (MinUp.none _), hB1⟩
      case round =>
        obtain ⟨j, t, m, hj, hij, hjn, rfl, hm0, hm1, RJ, HM, hBj⟩ := hrel
        have hbj := hBj.size
        by_cases hlt : j < n
        · obtain ⟨ad, y, rfl, HY, hcy⟩ := (h.below hBj).at_ hlt
          obtain ⟨y0, y1⟩ := HG.out.1.2.1 y (mem_of_at HY.out)
          have hcm : wr.cell? ⟨w.heap.size, i, none⟩ = some (.int .i64 m) := by
            rw [World.ownsRow.cellAt RJ i (by omega), List.getElem?_map, List.getElem?_set, if_pos rfl, if_pos (by have := HBL.out; omega)]; rfl
          have hcb : wr.cell? ⟨w.heap.size, j + 1, none⟩ = some (.int .i64 (B.getD (j + 1) 0)) := by
            rw [World.ownsRow.cellAt RJ (j + 1) (by omega), List.getElem?_map, List.getElem?_set, if_neg (by omega), List.getD_eq_getElem?_getD, List.getElem?_eq_getElem (by have := HBL.out; omega)]; rfl
          have hfr := World.ownsRow.frozenAt RJ i
          obtain ⟨b0, b1⟩ := LeastP.bound (by omega) (HB.out.2 (j + 1) (by omega) (by have := HL.out; omega)) (fun x hx => HG.out.1.2.1 x (List.mem_of_mem_drop hx)) (by rw [List.length_drop]; have := HL.out; omega)
          have hci : ¬ c = i := by omega
          have hT := RI.cut ((h.below hBj).take (k := j + 1) (by omega)) (k := i) (cap := c) (by omega) (by omega)
          rw [if_neg hci] at hT
          have z0 := lateI_nonneg ((l.take (j + 1)).drop i) y
          have z1 : lateI ((l.take (j + 1)).drop i) y ≤ 20000 := by
            have h2 := lateI_le ((l.take (j + 1)).drop i) y (fun t ht => (HG.out.1.2.1 t (List.mem_of_mem_take (List.mem_of_mem_drop ht))).1) y0
            have h3 : ((((l.take (j + 1)).drop i).length : Nat) : Int) * y ≤ 20 * 1000 := by
              apply Int.mul_le_mul
              · simp; omega
              · exact y1
              · exact y0
              · omega
            omega
          have HLATE : Hid (Calls Tryd.prog 50 #[.slice (some (ad.add i)) (j + 1 - i) (c - i), .int .i64 y] wr.drew fun e w'' => e = .returned (.int .i64 (lateI ((l.take (j + 1)).drop i) y)) ∧ w'' = wr.drew) := Lib.hid ((rlate_any (some (ad.add i)) (j + 1 - i) (c - i) ((l.take (j + 1)).drop i) y wr.drew hT (by omega) (fun x hx => by have := HG.out.1.2.1 x (List.mem_of_mem_take (List.mem_of_mem_drop hx)); omega) (by omega) (by omega)).mono (fun e w' h => ⟨h.1, h.2.symm⟩))
          have hcost : backC p l B i t = p + lateI ((l.take (j + 1)).drop i) y + B.getD (j + 1) 0 := by
            unfold backC
            rw [← hj.out, show l.getD j 0 = y by rw [List.getD_eq_getElem?_getD, HY.out]; rfl]
          have HN := MinUp.less HM.out (by rw [hcost]; omega)
          rw [hcost] at HN
          generalize lateI ((l.take (j + 1)).drop i) y = z at *
          generalize B.getD (j + 1) 0 = b at *
          have HLS := Lib.hid (lesser_q m (p + z + b) wr.drew)
          obtain ⟨m', hm'⟩ : ∃ m', m' = if m < 0 ∨ p + z + b < m then p + z + b else m := ⟨_, rfl⟩
          have hm'0 : -1 ≤ m' := by rw [hm']; split <;> omega
          have hm'1 : m' ≤ 40040 := by rw [hm']; split <;> omega
          rw [← hm'] at HN HLS
          have HNN := Lib.hid HN
          obtain ⟨hst1, hst2⟩ := World.ownsRow.stored RJ i (.int .i64 m')
          have HGR := Lib.hid hst2
          have HST : Hid (Row (wr.setCell ⟨w.heap.size, i, none⟩ (.int .i64 m')) w.heap.size 3 (.slice (some ⟨w.heap.size, 0, none⟩) (n + 1) (n + 1)) (n + 1) ((B.set i m').map (Value.int .i64))) := Lib.hid (by
            rw [List.map_set]
            rw [List.map_set, List.set_set] at hst1
            exact hst1)
          clear hm' HN hst1 hst2 hT hcost
          go_wp2
          have e0 : (0 : Int) ≤ (j : Int) + 1 := by omega
          have e1 : ((j : Int) + 1).toNat = j + 1 := by omega
          have e2 : IntKind.i64.wrap ((j : Int) + 1) = (j : Int) + 1 := IntWalk.i64_in _ (by omega)
          have e3 : IntKind.i64.wrap (p + z) = p + z := IntWalk.i64_in _ (by omega)
          have e4 : IntKind.i64.wrap (p + z + b) = p + z + b := IntWalk.i64_in _ (by omega)
          have e5 : (j : Int) + 1 ≤ c := by omega
          have e6 : (i : Int) ≤ (j : Int) + 1 := by omega
          have e7 : (i : Int) < (n : Int) + 1 := by omega
          have e8 : (j : Int) + 1 < (n : Int) + 1 := by omega
          refine still_tail 26 (by kernel_rfl) (by kernel_rfl) ?_
          simp only [List.take_succ_cons, List.take_zero, List.drop_succ_cons, List.drop_zero]
          repeat still_step
          still_call HLATE.out
          repeat still_step
          still_call HLS.out
          repeat still_step
          refine wpStill_nil ?_
          clear e0 e1 e2 e3 e4 e5 e6 e7 e8
          go_wp2
          go_roundw
          case rel => exact ⟨j + 1, t + 1, m', Lib.hid (by have := hj.out; omega), by omega, by omega, by go_num, by omega, by omega, HST.out, HNN, belowN (hBj.grown HGR.out hbj (fun b hb => by injection hb with hb; omega)) 1⟩
          case measure => simp [intOf]; omega
        · have hjn' : j = n := by omega
          have HLE := Lib.hid (back_least (m := m) (by have := HL.out; omega) HB.out (by have := HM.out; rwa [show l.length - i = t by have := HL.out; have := hj.out; omega]))
          have HIS := Lib.hid (isBack_step (by have := HL.out; omega) HB.out HLE.out)
          go_wp2
          go_roundw
          case rel => exact ⟨i, B.set i m, by omega, by go_num, RJ, HIS, hBj⟩
          case measure => simp [intOf] <;> omega
end Go.Proofs.YtmeamgeojcbljaaDoor
