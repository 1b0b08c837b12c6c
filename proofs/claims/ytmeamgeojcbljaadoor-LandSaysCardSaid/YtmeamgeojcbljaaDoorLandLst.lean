/- The walk of landlord.Least: it tells the least that anybody could pay. -/
import Derived.Test.YtmeamgeojcbljaaDoorLandCheck
import Derived.Test.YtmeamgeojcbljaaDoorLeastPlain
import Derived.Test.YtmeamgeojcbljaaDoorMemoLstU
import Derived.Test.YtmeamgeojcbljaaDoorThen
import Derived.WalkArith
import Derived.StillTailTactics
import Derived.Test.YtmeamgeojcbljaaDoorOnes
import Derived.Test.YtmeamgeojcbljaaDoorInfo
namespace Go.Proofs.YtmeamgeojcbljaaDoor
open Go.RowKit Go.Maps Go.ChangeAt Go.ChangeShapes Go.WideShapes Go.Shelf

theorem ldleast_no (A Ac : Option Addr) (n c m cc : Nat) (l cost : List Int) (slots : Int) (w : World) (h : RI w A n l) (hc : RI w Ac m cost) (hn : n ≤ 9223372036854775807) (hm : m ≤ 9223372036854775807) (hg : ¬ GoodL l cost slots) :
    Calls Tryd.prog 29 #[.slice A n c, .slice Ac m cc, .int .i64 slots] w fun e w' =>
      e = .returned (.tuple #[.int .i64 0, .iface 65 (.int .i64 (landE l cost slots))]) ∧ Below w.heap.size w w' := by
  have HG := Lib.hid hg
  have hB := ((Below.refl w.heap.size w).alloc (Nat.le_refl _) (.cells #[.slice Ac m cc] 22)).alloc (by simp) (.cells #[.int .i64 slots] 3)
  have h1 := h.below (hB.mono (Nat.le_refl _))
  have hc1 := hc.below (hB.mono (Nat.le_refl _))
  clear hg
  go_enter Tryd.func29, Tryd.ntmps29
  go_wp2_with fail
  refine (ldcheck_no _ _ _ _ _ _ _ _ _ _ h1 hc1 hn hm HG.out).mono ?_; rintro e w' ⟨rfl, rfl⟩
  go_wp2
  exact bodyPost_ret (v := .tuple #[.int .i64 0, .iface 65 (.int .i64 (landE l cost slots))]) (by simp [results, Tryd.results29, go_sem]) rfl ⟨rfl, hB⟩

theorem costAt' {cost : List Int} (h : AllIn cost 0 20) (x : Int) : 0 ≤ costF cost x ∧ costF cost x ≤ 20 := costAt h x.toNat
theorem or_same {k p : Nat} (h : k.testBit p = true) : k ||| 2 ^ p = k := by
  apply Nat.eq_of_testBit_eq
  intro i
  rw [Nat.testBit_or, Nat.testBit_two_pow]
  by_cases hi : p = i
  · subst hi; simp [h]
  · simp [hi]
theorem andNot_u64 {m p : Nat} (hm : m < 65536) (hp : p ≤ 15) (hb : m.testBit p = true) : bits BinOp.andNot IntKind.u64 (m : Int) (IntKind.u64.wrap (2 ^ p)) = ((m ^^^ 2 ^ p : Nat) : Int) := by
  have hq := pow_lt_16 hp
  have hx : m ^^^ 2 ^ p < 65536 := Nat.xor_lt_two_pow (n := 16) hm (Nat.pow_lt_pow_right (by omega) (by omega))
  rw [pow_u64 hp]
  show IntKind.u64.wrap (((BitVec.ofInt 64 (m : Int) &&& ~~~ BitVec.ofInt 64 ((2 ^ p : Nat) : Int)).toNat : Nat) : Int) = _
  have e : (BitVec.ofInt 64 (m : Int) &&& ~~~ BitVec.ofInt 64 ((2 ^ p : Nat) : Int)).toNat = m ^^^ 2 ^ p := by
    apply Nat.eq_of_testBit_eq
    intro i
    rw [BitVec.ofInt_natCast, BitVec.ofInt_natCast, BitVec.testBit_toNat, BitVec.getLsbD_and, BitVec.getLsbD_not, BitVec.getLsbD_ofNat, BitVec.getLsbD_ofNat, Nat.testBit_xor, Nat.testBit_two_pow]
    rcases Nat.lt_or_ge i 64 with hi | hi
    · by_cases e : p = i
      · subst e; simp [hb, hi]
      · simp [e, hi]
    · have : m.testBit i = false := Nat.testBit_lt_two_pow (Nat.lt_of_lt_of_le (show m < 2 ^ 16 by omega) (Nat.pow_le_pow_right (by omega) (by omega)))
      have h2 : p ≠ i := by omega
      simp [this, h2]
  rw [e]
  exact IntWalk.u64_in _ (by omega)
/-- What a round lays ahead of its loop. -/
def ldW (W : World) (p pn : Nat) : World := (((W.alloc (.cells #[.int .i64 p] 3)).alloc (.cells #[.map none] 82)).alloc (.cells #[.pointer (some ⟨W.heap.size + 1, 0, none⟩)] 79)).alloc (.cells #[.pointer (some ⟨pn, 0, none⟩)] 79)
theorem ldW_facts (W : World) (p pn : Nat) : (ldW W p pn).heap.size = W.heap.size + 4 ∧ Boxed (ldW W p pn) W.heap.size 3 (.int .i64 p) ∧ Boxed (ldW W p pn) (W.heap.size + 1) 82 (.map none) ∧
    Boxed (ldW W p pn) (W.heap.size + 1 + 1) 79 (.pointer (some ⟨W.heap.size + 1, 0, none⟩)) ∧ Boxed (ldW W p pn) (W.heap.size + 1 + 1 + 1) 79 (.pointer (some ⟨pn, 0, none⟩)) ∧ Below W.heap.size W (ldW W p pn) := by
  unfold ldW
  refine ⟨by simp, ((Boxed.new W _ _).alloc _ |>.alloc _).alloc _, ?_, ?_, ?_, (((Below.refl _ W).alloc (Nat.le_refl _) _).alloc (by simp) _ |>.alloc (by simp; omega) _).alloc (by simp; omega) _⟩
  · have := Boxed.new (W.alloc (.cells #[.int .i64 p] 3)) 82 (.map none)
    rw [World.size_alloc] at this
    exact (this.alloc _).alloc _
  · have := Boxed.new ((W.alloc (.cells #[.int .i64 p] 3)).alloc (.cells #[.map none] 82)) 79 (.pointer (some ⟨W.heap.size + 1, 0, none⟩))
    rw [World.size_alloc, World.size_alloc] at this
    exact this.alloc _
  · have := Boxed.new (((W.alloc (.cells #[.int .i64 p] 3)).alloc (.cells #[.map none] 82)).alloc (.cells #[.pointer (some ⟨W.heap.size + 1, 0, none⟩)] 79)) 79 (.pointer (some ⟨pn, 0, none⟩))
    rw [World.size_alloc, World.size_alloc, World.size_alloc] at this
    exact this
def goodU (k : Int) : Prop := 0 ≤ k ∧ k < 64
abbrev ThenU (W0 : World) (q : Nat) (R : Int → Int → Prop) (V : World) : Prop := ThenI Tryd.prog 68 3 82 litU okU W0 q goodU R V
theorem goodU_len (T : List (Int × Int)) (h : (T.map Prod.fst).Nodup) (hg : ∀ y ∈ T, goodU y.1) : T.length ≤ 1048576 := by
  have := nodup_bound (n := 64) h (fun x hx => by obtain ⟨y, hy, rfl⟩ := List.mem_map.1 hx; exact hg y hy)
  rw [List.length_map] at this; omega
theorem goodU_ok {x : Int} (h : goodU x) : okU x := by
  obtain ⟨h1, h2⟩ := h
  show (Lit.int .u64 x).wf = true
  exact WalkArith.wf_u64 (by omega)
theorem less_thenU {W0 V : World} {q : Nat} {R : Int → Int → Prop} (x c : Int) (h : ThenU W0 q R V) (hq : q < W0.heap.size) (hg : goodU x) (hc : (Lit.int .i64 c).wf = true) :
    Calls Tryd.prog 62 #[.pointer (some ⟨q, 0, none⟩), .int .u64 x, .int .i64 c] V fun e w' => (∃ y, e = .returned (.bool y)) ∧ ThenU W0 q (fun k c' => R k c' ∨ (k = x ∧ c' = c)) w' ∧ KeepsBook V w' ∧ KeepsC q V w' ∧
      (∀ b, b < W0.heap.size → b ≠ q → w'.heap[b]? = V.heap[b]?) :=
  ThenI.less (enc := encU) goodU_len hg (fun mb T hm hl => less_U q mb T x c V hm (goodU_ok hg) hc hl) h hq

attribute [local go_sem] Oper.semAt_some

set_option maxRecDepth 100000 in
set_option maxHeartbeats 4000000 in
theorem ldleast_ok (A Ac : Option Addr) (n c m cc : Nat) (l cost : List Int) (slots : Int) (w : World) (h : RI w A n l) (hc : RI w Ac m cost) (hg : GoodL l cost slots) :
    Calls Tryd.prog 29 #[.slice A n c, .slice Ac m cc, .int .i64 slots] w fun e w' => ∃ v, e = .returned (.tuple #[.int .i64 v, .nilIface]) ∧ LeastC (costF cost) slots.toNat l v ∧ Below w.heap.size w w' := by
  have HG := Lib.hid hg
  have hB0 := ((Below.refl w.heap.size w).alloc (Nat.le_refl _) (.cells #[.slice Ac m cc] 22)).alloc (by simp) (.cells #[.int .i64 slots] 3)
  have h1 := h.below (hB0.mono (Nat.le_refl _))
  have hc1 := hc.below (hB0.mono (Nat.le_refl _))
  have hx4 : Boxed ((w.alloc (.cells #[.slice Ac m cc] 22)).alloc (.cells #[.int .i64 slots] 3)) w.heap.size 22 (.slice Ac m cc) := (Boxed.new w _ _).alloc _
  have hx5 : Boxed ((w.alloc (.cells #[.slice Ac m cc] 22)).alloc (.cells #[.int .i64 slots] 3)) (w.heap.size + 1) 3 (.int .i64 slots) := by
    have := Boxed.new (w.alloc (.cells #[.slice Ac m cc] 22)) 3 (.int .i64 slots)
    rwa [World.size_alloc] at this
  clear hg
  refine (callsIn_wide (n := 9)).1 ?_
  refine callsIn_of_wp_marks Tryd.func29 rfl trivial ?_ rfl
  simp only [Tryd.ntmps29, List.size_toArray, List.length_cons, List.length_nil, Nat.reduceAdd, Nat.reduceSub, Array.replicate_succ, Array.replicate_zero, List.push_toArray, List.append_toArray, List.nil_append, List.cons_append]
  have hx9 : MemoU (((w.alloc (.cells #[.slice Ac m cc] 22)).alloc (.cells #[.int .i64 slots] 3)).alloc (.cells #[.map none] 82)) (w.heap.size + 1 + 1) none [] := by
    refine ⟨?_, rfl⟩
    have := Boxed.new ((w.alloc (.cells #[.slice Ac m cc] 22)).alloc (.cells #[.int .i64 slots] 3)) 82 (.map none)
    rwa [World.size_alloc, World.size_alloc] at this
  gi_wp2_with (first
    | (refine ⟨trivial, ?_⟩; gi_at_call 25; refine (callsIn_wide.2 (ldcheck_ok _ _ _ _ _ _ _ _ _ _ h1 hc1 HG.out)).mono ?_; rintro e w' ⟨rfl, rfl⟩)
    | (refine ⟨trivial, ?_⟩; gi_at_call 62; refine (callsIn_wide.2 (less_U (w.heap.size + 1 + 1) none [] 0 0 _ hx9 (show (Lit.int .u64 0).wf = true by decide) (by decide) (by simp))).mono ?_; rintro e w1 ⟨rfl, mb0, hM0, hmb0, hT0⟩)
    | fail)
  obtain ⟨b0, rfl⟩ : ∃ b0, mb0 = some b0 := by
    cases mb0 with
    | none => exact absurd (show lessL ([] : List (Int × Int)) 0 0 = [] from hM0.2) (by simp [lessL])
    | some b0 => exact ⟨b0, rfl⟩
  have hS : ∀ k, memoS (w.heap.size + 1 + 1) none k → k = w.heap.size + 1 + 1 := by
    intro k hk
    rcases hk with e | e
    · exact e
    · cases e
  have hB1 : Below w.heap.size w w1 := (hB0.alloc (by simp; omega) _).trans (hT0.below (by simp; omega) (fun k hk => by have := hS k hk; omega))
  have hx4' : Boxed w1 w.heap.size 22 (.slice Ac m cc) := (hT0.block _ (by simp; omega) (fun hk => by have := hS _ hk; omega)).trans (hx4.alloc _)
  have hx5' : Boxed w1 (w.heap.size + 1) 3 (.int .i64 slots) := (hT0.block _ (by simp) (fun hk => by have := hS _ hk; omega)).trans (hx5.alloc _)
  have hsz1 : w.heap.size + 1 + 1 + 1 ≤ w1.heap.size := by have := hT0.size; simpa using this
  clear hx4 hx5 hx9 h1 hc1 hB0 hT0 hmb0
  refine wpIn_loop (fun a W => ∃ (j pn b : Nat) (L : List (Int × Int)) (ds : List Deferred) (v11 v12 v27 v31 v32 v33 v34 v35 v36 v37 v82 v83 : Value), a = { tmps := #[.slice A n c, .slice Ac m cc, .int .i64 slots, undef, .pointer (some ⟨w.heap.size, 0, none⟩), .pointer (some ⟨w.heap.size + 1, 0, none⟩), .int .i64 0, .nilIface, .nilIface, .pointer (some ⟨pn, 0, none⟩), undef, v11, v12, undef, undef, undef, undef, .slice A n c, .slice Ac m cc, .int .i64 slots, .nilIface, .nilIface, .bool false, undef, .agg #[.map none], .pointer (some ⟨w.heap.size + 1 + 1, 0, none⟩), .pointer (some ⟨w.heap.size + 1 + 1, 0, none⟩), v27, .slice A n c, .int .i64 n, .int .i64 j, v31, v32, v33, v34, v35, v36, v37, undef, undef, undef, undef, undef, undef, undef, undef, undef, undef, undef, undef, undef, undef, undef, undef, undef, undef, undef, undef, undef, undef, undef, undef, undef, undef, undef, undef, undef, undef, undef, undef, undef, undef, undef, undef, undef, undef, undef, undef, undef, undef, undef, undef, v82, v83, undef, undef], defers := ds } ∧ j ≤ n ∧ L ≠ [] ∧ MemoU W pn (some b) L ∧ MemoR (RunTo (NxL (costF cost) slots) 0 (l.take j)) L ∧ Marks w.heap.size W ds ∧ Below w1.heap.size w1 W)
    (fun a _ => n - (intOf (a.tmps.getD 30 undef)).toNat) ?start ?round
  case start =>
    refine ⟨0, w.heap.size + 1 + 1, b0, [(0, 0)], [], _, _, _, _, _, _, _, _, _, _, _, _, rfl, by omega, by simp, by simpa [lessL] using hM0, ?_, trivial, Below.refl _ _⟩
    refine ⟨fun q hq => ?_, fun k c hk => ?_⟩
    · simp at hq; subst hq; exact ⟨rfl, rfl⟩
    · obtain ⟨rfl, rfl⟩ := hk; exact ⟨(0, 0), by simp, rfl, by simp⟩
  case round =>
    rintro a W ⟨j, pn, b, L, ds, v11, v12, v27, v31, v32, v33, v34, v35, v36, v37, v82, v83, rfl, hj, hLne, hM, hR, hMk, hBW⟩
    have hBt : Below w.heap.size w W := hB1.trans (hBW.mono (by omega))
    have hszW : w1.heap.size ≤ W.heap.size := hBW.size
    have hr := h.below hBt
    have hcs := hc.below hBt
    have b4 : Boxed W w.heap.size 22 (.slice Ac m cc) := (hBW.block _ (by omega)).trans hx4'
    have b5 : Boxed W (w.heap.size + 1) 3 (.int .i64 slots) := (hBW.block _ (by omega)).trans hx5'
    have hn40 : n ≤ 40 := by have := h.len; have := HG.out.1; omega
    have hm6 : m ≤ 6 := by have := hc.len; have := HG.out.2.1; omega
    have HR := Lib.hid hR
    clear hR
    have HL := Lib.hid (show ∀ q ∈ L, 0 ≤ q.1 ∧ q.1 < 2 ^ 6 ∧ 0 ≤ q.2 ∧ q.2 ≤ 20 * (40 : Nat) from fun q hq => by
      have := runL_in (c := 6) (by omega) (costAt' HG.out.2.2.1) (fun x hx => by have := HG.out.2.2.2.1 x (List.mem_of_mem_take hx); rw [hc.len] at this; omega) (Int.le_refl 0) (by decide) (HR.out.1 q hq)
      rw [List.length_take] at this
      obtain ⟨a1, a2, a3, a4⟩ := this
      exact ⟨a1, a2, a3, by omega⟩)
    by_cases hjn : j < n
    · obtain ⟨ad, y, rfl, hy, hcell⟩ := hr.at_ hjn
      have hyin := HG.out.2.2.2.1 y (List.mem_of_getElem? hy.out)
      rw [hc.len] at hyin
      obtain ⟨p, rfl⟩ : ∃ p : Nat, y = p := ⟨y.toNat, by omega⟩
      have hp : p < m := by omega
      clear hyin
      gi_wp2_with (first
        | (refine ⟨trivial, ?_⟩; gi_at_call 63; refine (callsIn_wide.2 (all_U pn _)).mono ?_; rintro e w' ⟨rfl, rfl⟩)
        | fail)
      change Code.wpIn _ _ _ _ _ _ (ldW W p pn)
      obtain ⟨z0, z1, z2, z3, z4, z5⟩ := ldW_facts W p pn
      have hMs := hM.lt
      have hbW : b < W.heap.size := hMs b (.inr rfl)
      have hpW : pn < W.heap.size := hMs pn (.inl rfl)
      have hM0' : MemoU (ldW W p pn) pn (some b) L := hM.keep fun k hk _ => z5.block k hk
      obtain ⟨W0, hW0⟩ : ∃ W0, ldW W p pn = W0 := ⟨_, rfl⟩
      rw [hW0] at z0 z1 z2 z3 z4 z5 hM0' ⊢
      refine range_book rfl (by omega) (gf := 98) (lb := #[.pointer (some ⟨W.heap.size + 1 + 1 + 1, 0, none⟩)]) rfl trivial (enters_of Tryd.func98 (by kernel_rfl) rfl)
        (alls_U 8 (W.heap.size + 1 + 1 + 1) pn b L W0 (by omega) z4.cell hM0') (fun h k => KeepsIt.trans h k) (fun W l o o' hl h => KeepsIt.putObj (by omega) hl h) (Below.refl _ _) (fun _ => rfl)
        (fun pre V => ThenU W0 (W.heap.size + 1) (After (NxL (costF cost) slots) p pre) V) (ThenI.own (Nat.le_refl _))
        ((ThenI.start z2).congr (fun k c => ⟨fun h => h.elim, fun h => after_nil h⟩))
        (fun x a' V => ∃ Bn, W0.heap.size ≤ Bn ∧ Boxed V Bn 3 (.int .i64 x.2) ∧ a' = { tmps := #[.slice (some ad) n c, .slice Ac m cc, .int .i64 slots, undef, .pointer (some ⟨w.heap.size, 0, none⟩), .pointer (some ⟨w.heap.size + 1, 0, none⟩), .int .i64 0, .nilIface, .nilIface, .pointer (some ⟨pn, 0, none⟩), undef, .pointer (some ⟨W.heap.size, 0, none⟩), .pointer (some ⟨W.heap.size + 1 + 1, 0, none⟩), .int .u64 x.1, .pointer (some ⟨Bn, 0, none⟩), undef, undef, .slice (some ad) n c, .slice Ac m cc, .int .i64 slots, .nilIface, .nilIface, .bool false, undef, .agg #[.map none], .pointer (some ⟨w.heap.size + 1 + 1, 0, none⟩), .pointer (some ⟨w.heap.size + 1 + 1, 0, none⟩), v27, .slice (some ad) n c, .int .i64 n, .int .i64 j, .bool true, .pointer (some (ad.add j)), .int .i64 p, .agg #[.map none], .pointer (some ⟨W.heap.size + 1, 0, none⟩), .pointer (some ⟨pn, 0, none⟩), .func (.func 98) #[] #[.pointer (some ⟨W.heap.size + 1 + 1 + 1, 0, none⟩)], .int .u64 x.1, .int .i64 x.2, undef, undef, undef, undef, undef, undef, undef, undef, undef, undef, undef, undef, undef, undef, undef, undef, undef, undef, undef, undef, undef, undef, undef, undef, undef, undef, undef, undef, undef, undef, undef, undef, undef, undef, undef, undef, undef, undef, undef, undef, undef, undef, v82, v83, undef, undef], defers := [] })
        (fun x a' => fun s A B row hs hg hr => by
          obtain ⟨Bn, h1, h2, h3⟩ := hs
          exact ⟨Bn, h1, ownB_boxed (β := Unit) s A B row h2 hg hr, h3⟩) ?assign ?body ?done
      case assign =>
        rintro lp pre x V K hI hK
        gi_wp2
        exact hK _ _ (KeepsBook.alloc _ _) (KeepsIt.below ((Below.refl _ V).alloc (Nat.le_refl _) _)) (hI.below ((Below.refl _ V).alloc (Nat.le_refl _) _)) ⟨V.heap.size, hI.turned.size, Boxed.new V _ _, rfl⟩
      case body =>
        rintro lp pre ⟨xk, xc⟩ a' V hl ⟨r, hr⟩ hI ⟨Bn, hBn, bxn, rfl⟩ ⟨rest, hP⟩
        obtain ⟨k0, k1, k2, k3⟩ := HL.out (xk, xc) (hP.mem_iff.2 (by simp))
        obtain ⟨k, rfl⟩ : ∃ k : Nat, xk = k := ⟨xk.toNat, by dsimp at k0; omega⟩
        have hk : k < 64 := by dsimp at k1; omega
        have hxc : 0 ≤ xc ∧ xc ≤ 800 := by dsimp at k2 k3; omega
        clear k0 k1 k2 k3
        have hT := hI.turned
        have v4 : Boxed V w.heap.size 22 (.slice Ac m cc) := (hT.block _ (by omega) (by omega)).trans ((z5.block _ (by omega)).trans b4)
        have v5 : Boxed V (w.heap.size + 1) 3 (.int .i64 slots) := (hT.block _ (by omega) (by omega)).trans ((z5.block _ (by omega)).trans b5)
        have v11 : Boxed V W.heap.size 3 (.int .i64 p) := (hT.block _ (by omega) (by omega)).trans z1
        have v12 : Boxed V (W.heap.size + 1 + 1) 79 (.pointer (some ⟨W.heap.size + 1, 0, none⟩)) := (hT.block _ (by omega) (by omega)).trans z3
        have hBV : Below w.heap.size w V := (hBt.trans (z5.mono (by omega))).trans (hT.below (by omega) (by omega))
        have hqW : W.heap.size + 1 < W0.heap.size := by omega
        have hszV : W0.heap.size ≤ V.heap.size := hT.size
        have hBnV : Bn < V.heap.size := bxn.lt
        have hor := or_pow_u64 (m := k) (p := p) (by omega) (by omega)
        have hnx : nxtL (costF cost) slots p k = if k.testBit p then [((k : Int), 0)] else if (pc 16 (k ||| 2 ^ p) : Int) ≤ slots then [(((k ||| 2 ^ p : Nat) : Int), costF cost p)] else (bitsL k).map fun q => ((((k ||| 2 ^ p) ^^^ 2 ^ q.toNat : Nat) : Int), costF cost p) := rfl
        obtain ⟨wn, hwn⟩ : ∃ wn, k ||| 2 ^ p = wn := ⟨_, rfl⟩
        have hwn64 : wn < 64 := by rw [← hwn]; exact Nat.or_lt_two_pow (n := 6) hk (Nat.pow_lt_pow_right (by omega) (by omega))
        rw [hwn] at hor hnx
        have bA := (Below.refl V.heap.size V).alloc (Nat.le_refl _) (.cells #[.int .u64 wn] 68)
        have u15 : Boxed (V.alloc (.cells #[.int .u64 wn] 68)) V.heap.size 68 (.int .u64 wn) := Boxed.new V _ _
        have u4 := (v4.alloc (.cells #[.int .u64 wn] 68)).cell
        have u5 := (v5.alloc (.cells #[.int .u64 wn] 68)).cell
        have u11 := (v11.alloc (.cells #[.int .u64 wn] 68)).cell
        have u12 := (v12.alloc (.cells #[.int .u64 wn] 68)).cell
        have u14 := (bxn.alloc (.cells #[.int .u64 wn] 68)).cell
        have t11 := v11.cell
        have hI1 := hI.below bA
        have u15c := u15.cell
        have hmx : Tryd.prog.follows .mixedOrders = true := by kernel_rfl
        by_cases ht : k.testBit p = true
        · rw [if_pos ht] at hnx
          have hwk : wn = k := by rw [← hwn]; exact or_same ht
          clear hwn
          subst hwk
          gi_wp2_with (first
            | (refine ⟨trivial, ?_⟩; gi_at_call 62; refine (CallsIn.inRound lp (callsIn_wide.2 (less_thenU _ _ hI1 hqW ⟨by omega, by omega⟩ (WalkArith.wf_i64 (by omega))))).mono ?_; rintro e V2 ⟨⟨y, rfl⟩, hI2, hKB, hKC, hbk⟩)
            | fail)
          exact ⟨(KeepsBook.alloc V _).trans hKB, ((KeepsBook.alloc V _).trans hKB).it (fun _ => (hbk b (by omega) (by omega)).trans (bA.block b (by omega))), hI2.congr (fun kk cc => by
            rw [after_snoc]
            constructor
            · rintro (h | ⟨rfl, rfl⟩)
              · exact .inl h
              · exact .inr ⟨0, by show (_, (0 : Int)) ∈ nxtL _ _ _ _; rw [hnx]; simp, by simp⟩
            · rintro (h | ⟨d, h1, rfl⟩)
              · exact .inl h
              · have h1 : (kk, d) ∈ nxtL (costF cost) slots p _ := h1
                rw [hnx] at h1
                simp at h1
                exact .inr ⟨h1.1, by simp [h1.2]⟩)⟩
        · rw [if_neg ht] at hnx
          have hne : ¬ ((wn : Int) = k) := fun e => ht (by
            have e2 : wn = k := by omega
            have := Nat.testBit_or k (2 ^ p) p
            rw [hwn, e2, Nat.testBit_two_pow] at this
            simpa using this)
          obtain ⟨adc, cp, hAc, hcp, hcc⟩ := (hc.below hBV).at_ hp
          have hcpc : costF cost p = cp := by unfold costF; rw [Int.toNat_natCast, List.getD_eq_getElem?_getD, hcp.out]; rfl
          have hcp20 := HG.out.2.2.1 cp (List.mem_of_getElem? hcp.out)
          subst hAc
          have hcc1 : (V.alloc (.cells #[.int .u64 wn] 68)).cell? (adc.add p) = some (.int .i64 cp) := (bA.cell (cell_lt hcc)).trans hcc
          have hpc := ones_any wn (by omega)
          have hpw : wrap64 (xc + cp) = xc + cp := IntWalk.wrap64_in _ (by omega)
          rw [hcpc] at hnx
          by_cases hle : (pc 16 wn : Int) ≤ slots
          · rw [if_pos hle] at hnx
            gi_wp2_with fail
            refine wpIn_mono (Q := fun e a' w' => e = Exit.normal ∧ a' = { tmps := #[.slice (some ad) n c, .slice (some adc) m cc, .int .i64 slots, undef, .pointer (some ⟨w.heap.size, 0, none⟩), .pointer (some ⟨w.heap.size + 1, 0, none⟩), .int .i64 0, .nilIface, .nilIface, .pointer (some ⟨pn, 0, none⟩), undef, .pointer (some ⟨W.heap.size, 0, none⟩), .pointer (some ⟨W.heap.size + 1 + 1, 0, none⟩), .int .u64 k, .pointer (some ⟨Bn, 0, none⟩), .pointer (some ⟨V.heap.size, 0, none⟩), undef, .slice (some ad) n c, .slice (some adc) m cc, .int .i64 slots, .nilIface, .nilIface, .bool false, undef, .agg #[.map none], .pointer (some ⟨w.heap.size + 1 + 1, 0, none⟩), .pointer (some ⟨w.heap.size + 1 + 1, 0, none⟩), v27, .slice (some ad) n c, .int .i64 n, .int .i64 j, .bool true, .pointer (some (ad.add j)), .int .i64 p, .agg #[.map none], .pointer (some ⟨W.heap.size + 1, 0, none⟩), .pointer (some ⟨pn, 0, none⟩), .func (.func 98) #[] #[.pointer (some ⟨W.heap.size + 1 + 1 + 1, 0, none⟩)], .int .u64 k, .int .i64 xc, .int .u64 k, .int .i64 p, .int .u64 (IntKind.u64.wrap (2 ^ p)), .int .u64 wn, undef, undef, undef, undef, undef, undef, undef, undef, undef, undef, undef, undef, undef, undef, undef, undef, .bool false, .int .u64 wn, .int .u64 k, .bool false, undef, undef, undef, undef, .bool true, .int .u64 wn, .int .i64 (pc 16 wn), .int .i64 slots, .bool true, undef, undef, undef, undef, undef, undef, undef, undef, undef, v82, v83, undef, undef], defers := [] } ∧ w' = (V.alloc (.cells #[.int .u64 wn] 68)).drew) ?reg ?cont
            case reg =>
              gi_region_with_o (refine ⟨trivial, ?_⟩; gi_at_call 55; refine (CallsIn.inRound lp (callsIn_wide.2 (hpc _))).mono ?_; rintro e w' ⟨rfl, rfl⟩)
              all_goals exact ⟨rfl, rfl, rfl⟩
            case cont =>
              rintro _ _ _ ⟨rfl, rfl, rfl⟩
              gi_wp2_with fail
              refine still_tail_in 8 (by kernel_rfl) (by rintro ⟨a, w, h⟩; exact h) (by kernel_rfl) (by kernel_rfl) ?_
              simp only [List.take_succ_cons, List.take_zero, List.drop_succ_cons, List.drop_zero]
              repeat still_step
              refine wpStill_nil ?_
              go_wp2_with fail
              refine (less_thenU wn (xc + cp) (hI.below bA.drew.drew) hqW ⟨by omega, by omega⟩ (WalkArith.wf_i64 (by omega))).mono ?_
              rintro e V2 ⟨⟨y, rfl⟩, hI2, hKB, hKC, hbk⟩
              go_wp2
              exact ⟨(KeepsBook.below bA.drew.drew).trans hKB, ((KeepsBook.below bA.drew.drew).trans hKB).it (fun _ => (hbk b (by omega) (by omega)).trans (bA.block b (by omega))), hI2.congr (fun kk cc => by
                rw [after_snoc]
                constructor
                · rintro (h | ⟨rfl, rfl⟩)
                  · exact .inl h
                  · exact .inr ⟨cp, by show (_, cp) ∈ nxtL _ _ _ _; rw [hnx]; simp, rfl⟩
                · rintro (h | ⟨d, h1, rfl⟩)
                  · exact .inl h
                  · have h1 : (kk, d) ∈ nxtL (costF cost) slots p _ := h1
                    rw [hnx] at h1
                    simp at h1
                    exact .inr ⟨h1.1, by simp [h1.2]⟩)⟩
          · rw [if_neg hle] at hnx
            gi_wp2_with fail
            refine wpIn_mono (Q := fun e a' w' => e = Exit.normal ∧ a' = { tmps := #[.slice (some ad) n c, .slice (some adc) m cc, .int .i64 slots, undef, .pointer (some ⟨w.heap.size, 0, none⟩), .pointer (some ⟨w.heap.size + 1, 0, none⟩), .int .i64 0, .nilIface, .nilIface, .pointer (some ⟨pn, 0, none⟩), undef, .pointer (some ⟨W.heap.size, 0, none⟩), .pointer (some ⟨W.heap.size + 1 + 1, 0, none⟩), .int .u64 k, .pointer (some ⟨Bn, 0, none⟩), .pointer (some ⟨V.heap.size, 0, none⟩), undef, .slice (some ad) n c, .slice (some adc) m cc, .int .i64 slots, .nilIface, .nilIface, .bool false, undef, .agg #[.map none], .pointer (some ⟨w.heap.size + 1 + 1, 0, none⟩), .pointer (some ⟨w.heap.size + 1 + 1, 0, none⟩), v27, .slice (some ad) n c, .int .i64 n, .int .i64 j, .bool true, .pointer (some (ad.add j)), .int .i64 p, .agg #[.map none], .pointer (some ⟨W.heap.size + 1, 0, none⟩), .pointer (some ⟨pn, 0, none⟩), .func (.func 98) #[] #[.pointer (some ⟨W.heap.size + 1 + 1 + 1, 0, none⟩)], .int .u64 k, .int .i64 xc, .int .u64 k, .int .i64 p, .int .u64 (IntKind.u64.wrap (2 ^ p)), .int .u64 wn, undef, undef, undef, undef, undef, undef, undef, undef, undef, undef, undef, undef, undef, undef, undef, undef, .bool false, .int .u64 wn, .int .u64 k, .bool false, undef, undef, undef, undef, .bool (decide ((pc 16 wn : Int) ≤ slots)), .int .u64 wn, .int .i64 (pc 16 wn), .int .i64 slots, .bool (decide ((pc 16 wn : Int) ≤ slots)), undef, undef, undef, undef, undef, undef, undef, undef, undef, v82, v83, undef, undef], defers := [] } ∧ w' = (V.alloc (.cells #[.int .u64 wn] 68)).drew) ?reg ?cont
            case reg =>
              gi_region_with_o (refine ⟨trivial, ?_⟩; gi_at_call 55; refine (CallsIn.inRound lp (callsIn_wide.2 (hpc _))).mono ?_; rintro e w' ⟨rfl, rfl⟩)
              all_goals exact ⟨rfl, rfl, rfl⟩
            case cont =>
              rintro _ _ _ ⟨rfl, rfl, rfl⟩
              gi_wp2_with (first
                | (refine ⟨trivial, ?_⟩; gi_at_call 64; refine (CallsIn.inRound lp (callsIn_wide.2 (bits_any k _))).mono ?_; rintro e w' ⟨rfl, rfl⟩)
                | fail)
              have bB : Below V.heap.size V ((V.alloc (.cells #[.int .u64 wn] 68)).alloc (.cells #[.int .i64 k] 3)).drew := (bA.alloc (by simp) _).drew
              have y15 : Boxed ((V.alloc (.cells #[.int .u64 wn] 68)).alloc (.cells #[.int .i64 k] 3)).drew V.heap.size 68 (.int .u64 wn) := u15.alloc _
              have y16 : Boxed ((V.alloc (.cells #[.int .u64 wn] 68)).alloc (.cells #[.int .i64 k] 3)).drew (V.heap.size + 1) 3 (.int .i64 k) := by
                have := Boxed.new (V.alloc (.cells #[.int .u64 wn] 68)) 3 (.int .i64 k)
                rwa [World.size_alloc] at this
              have ysz : ((V.alloc (.cells #[.int .u64 wn] 68)).alloc (.cells #[.int .i64 k] 3)).drew.heap.size = V.heap.size + 2 := by
                show ((V.alloc (.cells #[.int .u64 wn] 68)).alloc (.cells #[.int .i64 k] 3)).heap.size = _
                simp
              obtain ⟨V3, hV3⟩ : ∃ V3, ((V.alloc (.cells #[.int .u64 wn] 68)).alloc (.cells #[.int .i64 k] 3)).drew = V3 := ⟨_, rfl⟩
              rw [hV3] at bB y15 y16 ysz ⊢
              have keep3 : ∀ {kk : Nat} {t : TypeId} {v : Value}, Boxed V kk t v → Boxed V3 kk t v := fun {kk t v} hb => (bB.block kk hb.lt).trans hb
              have y4 := keep3 v4
              have y11 := keep3 v11
              have y12 := keep3 v12
              have y14 := keep3 bxn
              have hcc3 : ∀ V', KeepsC (W.heap.size + 1) V3 V' → Turned (fun x => x = W.heap.size + 1) W0 V' → V'.cell? (adc.add p) = some (.int .i64 cp) := fun V' _ hT' => by
                have hb' : Below w.heap.size w V' := (hBt.trans (z5.mono (by omega))).trans (hT'.below (by omega) (by omega))
                obtain ⟨ad2, cp2, e1, e2, e3⟩ := (hc.below hb').at_ hp
                have e4 := e2.out
                rw [hcp.out] at e4
                cases e4
                cases e1
                exact e3
              clear hcc hcc1 u4 u5 u11 u12 u14 u15 u15c hI1 t11 hpc hpw
              have hpw : wrap64 (xc + cp) = xc + cp := IntWalk.wrap64_in _ (by omega)
              have hbk2 := bB.block lp (by have := (Array.getElem?_eq_some_iff.1 hr).1; omega)
              refine range_book_in (l₀ := lp) (r₀ := r) rfl (hbk2.trans hr) (by omega) (gf := 99) (lb := #[.pointer (some ⟨V.heap.size + 1, 0, none⟩)]) rfl trivial (enters_of Tryd.func99 (by kernel_rfl) rfl)
                (bits_seq 6 (V.heap.size + 1) k (by omega) V3 (by omega) y16.cell) (fun h k => KeepsIt.trans h k) (fun W l o o' hl h => KeepsIt.putObj (by omega) hl h) (Below.refl _ _) (fun _ => rfl)
                (fun pre2 V' => ThenU W0 (W.heap.size + 1) (fun kk cc => After (NxL (costF cost) slots) p pre kk cc ∨ ∃ q2 ∈ pre2, kk = ((wn ^^^ 2 ^ q2.toNat : Nat) : Int) ∧ cc = xc + cp) V' ∧ KeepsC (W.heap.size + 1) V3 V' ∧ KeepsBook V V' ∧ KeepsIt b V V')
                ((ThenI.own (by omega)).and (ownB_cells.and ((ownB_keeps (by omega)).and (ownB_it (by omega) (by omega)))))
                ⟨(hI.below bB).congr (fun kk cc => by simp), .refl _ _, KeepsBook.below bB, KeepsIt.below bB⟩
                (fun q2 a' _ => a' = { tmps := #[.slice (some ad) n c, .slice (some adc) m cc, .int .i64 slots, undef, .pointer (some ⟨w.heap.size, 0, none⟩), .pointer (some ⟨w.heap.size + 1, 0, none⟩), .int .i64 0, .nilIface, .nilIface, .pointer (some ⟨pn, 0, none⟩), undef, .pointer (some ⟨W.heap.size, 0, none⟩), .pointer (some ⟨W.heap.size + 1 + 1, 0, none⟩), .int .u64 k, .pointer (some ⟨Bn, 0, none⟩), .pointer (some ⟨V.heap.size, 0, none⟩), .int .i64 q2, .slice (some ad) n c, .slice (some adc) m cc, .int .i64 slots, .nilIface, .nilIface, .bool false, undef, .agg #[.map none], .pointer (some ⟨w.heap.size + 1 + 1, 0, none⟩), .pointer (some ⟨w.heap.size + 1 + 1, 0, none⟩), v27, .slice (some ad) n c, .int .i64 n, .int .i64 j, .bool true, .pointer (some (ad.add j)), .int .i64 p, .agg #[.map none], .pointer (some ⟨W.heap.size + 1, 0, none⟩), .pointer (some ⟨pn, 0, none⟩), .func (.func 98) #[] #[.pointer (some ⟨W.heap.size + 1 + 1 + 1, 0, none⟩)], .int .u64 k, .int .i64 xc, .int .u64 k, .int .i64 p, .int .u64 (IntKind.u64.wrap (2 ^ p)), .int .u64 wn, .int .u64 k, .int .i64 k, .func (.func 99) #[] #[.pointer (some ⟨V.heap.size + 1, 0, none⟩)], .int .i64 q2, undef, undef, undef, undef, undef, undef, undef, undef, undef, undef, undef, undef, .bool false, .int .u64 wn, .int .u64 k, .bool false, undef, undef, undef, undef, .bool (decide ((pc 16 wn : Int) ≤ slots)), .int .u64 wn, .int .i64 (pc 16 wn), .int .i64 slots, .bool (decide ((pc 16 wn : Int) ≤ slots)), undef, undef, undef, undef, undef, undef, undef, undef, undef, v82, v83, undef, undef], defers := [] })
                (fun q2 a' => ownB_pure _ _) ?assign2 ?body2 ?done2
              case assign2 =>
                rintro lp2 pre2 q2 V' K hI' hK
                gi_wp2
                exact hK _ _ (.refl _) (.refl _ _) hI' rfl
              case body2 =>
                rintro lp2 pre2 q2 a' V' hl2 ⟨r2, hr2⟩ ⟨hIa, hKCa, hKBa, hKIa⟩ rfl ⟨rest2, hb2⟩
                obtain ⟨i, rfl, hi16, hti⟩ := mem_bitsL.1 (show q2 ∈ bitsL k by rw [hb2]; simp)
                have hi6 : i < 6 := by
                  rcases Nat.lt_or_ge i 6 with h | h
                  · exact h
                  · rw [Nat.testBit_lt_two_pow (Nat.lt_of_lt_of_le (show k < 2 ^ 6 by omega) (Nat.pow_le_pow_right (by omega) h))] at hti; cases hti
                have hx64 : wn ^^^ 2 ^ i < 64 := Nat.xor_lt_two_pow (n := 6) hwn64 (Nat.pow_lt_pow_right (by omega) hi6)
                have han := andNot_u64 (m := wn) (p := i) (by omega) (by omega) (by rw [← hwn, Nat.testBit_or, hti]; rfl)
                obtain ⟨xn, hxn⟩ : ∃ xn, wn ^^^ 2 ^ i = xn := ⟨_, rfl⟩
                rw [hxn] at han hx64
                have hna : ∀ {kk : Nat} {t : TypeId} {v : Value}, Boxed V3 kk t v → kk ≠ W.heap.size + 1 → Boxed V' kk t v := fun {kk t v} hb hk => hKCa.boxed hb hk
                have c4 := (hna y4 (by omega)).cell
                have c11 := (hna y11 (by omega)).cell
                have c12 := (hna y12 (by omega)).cell
                have c14 := (hna y14 (by omega)).cell
                have c15 := (hna y15 (by omega)).cell
                have ccc := hcc3 V' hKCa hIa.turned
                clear hna
                gi_wp2_with fail
                refine still_tail_in 11 (by kernel_rfl) (by rintro ⟨a, w, h⟩; exact h) (by kernel_rfl) (by kernel_rfl) ?_
                simp only [List.take_succ_cons, List.take_zero, List.drop_succ_cons, List.drop_zero]
                repeat still_step
                refine wpStill_nil ?_
                go_wp2_with fail
                refine (less_thenU xn (xc + cp) (hIa.below (Below.refl _ V').drew) hqW ⟨by omega, by omega⟩ (WalkArith.wf_i64 (by omega))).mono ?_
                rintro e V2 ⟨⟨y, rfl⟩, hI2, hKB, hKC, hbk⟩
                go_wp2
                have hKB2 := (KeepsBook.drew V').trans hKB
                have hKC2 : KeepsC (W.heap.size + 1) V' V2 := (KeepsC.below (Below.refl _ V').drew).trans hKC
                have e16 := hKCa.boxed y16 (by omega)
                have e16' := hKC2.boxed e16 (by omega)
                refine ⟨hKB2, hKB2.it (fun _ => Eq.trans e16' (Eq.symm e16)), hI2.congr (fun kk cc => ?_), hKCa.trans hKC2, hKBa.trans hKB2, hKIa.trans (hKB2.it (fun _ => hbk b (by omega) (by omega)))⟩
                constructor
                · rintro ((h | ⟨q2, h1, h2⟩) | ⟨rfl, rfl⟩)
                  · exact .inl h
                  · exact .inr ⟨q2, by simp [h1], h2⟩
                  · exact .inr ⟨(i : Int), by simp, by rw [Int.toNat_natCast, hxn], rfl⟩
                · rintro (h | ⟨q2, h1, h2, h3⟩)
                  · exact .inl (.inl h)
                  · rw [List.mem_append, List.mem_singleton] at h1
                    rcases h1 with h1 | rfl
                    · exact .inl (.inr ⟨q2, h1, h2, h3⟩)
                    · rw [Int.toNat_natCast, hxn] at h2
                      exact .inr ⟨h2, h3⟩
              case done2 =>
                rintro xs V' rfl hI' hK
                gi_wp2_with fail
                refine ⟨hI'.2.2.1, hI'.2.2.2, hI'.1.congr (fun kk cc => ?_)⟩
                rw [after_snoc]
                constructor
                · rintro (h | ⟨q2, h1, rfl, rfl⟩)
                  · exact .inl h
                  · exact .inr ⟨cp, by show (_, cp) ∈ nxtL _ _ _ _; rw [hnx]; exact List.mem_map.2 ⟨q2, h1, rfl⟩, rfl⟩
                · rintro (h | ⟨d, h1, rfl⟩)
                  · exact .inl h
                  · have h1 : (kk, d) ∈ nxtL (costF cost) slots p _ := h1
                    rw [hnx] at h1
                    obtain ⟨q2, h3, h4⟩ := List.mem_map.1 h1
                    injection h4 with h4 h5
                    exact .inr ⟨q2, h3, h4.symm, by rw [← h5]⟩
      case done =>
        intro D xs V hD hS hI hK hKD
        obtain ⟨mb, T, hMT, hRT, hgT, hbT, hT⟩ := hI
        have v12 : Boxed V (W.heap.size + 1 + 1) 79 (.pointer (some ⟨W.heap.size + 1, 0, none⟩)) := (hT.block _ (by omega) (by omega)).trans z3
        have c12 := v12.cell
        have hTne : T ≠ [] := by
          obtain ⟨q0, hq0⟩ := List.exists_mem_of_ne_nil L hLne
          obtain ⟨y, hy'⟩ := List.exists_mem_of_ne_nil _ (nxtL_ne (f := costF cost) (s := slots) (p := (p : Int)) (m := q0.1) HG.out.2.2.2.2.1 (by omega) (by omega))
          obtain ⟨z, hz, _⟩ := hRT.2 y.1 (q0.2 + y.2) ⟨q0, hS.mem_iff.1 hq0, y.2, hy', rfl⟩
          intro e; rw [e] at hz; simp at hz
        obtain ⟨b', rfl⟩ : ∃ b', mb = some b' := by
          cases mb with
          | none => exact absurd hMT.2 hTne
          | some b' => exact ⟨b', rfl⟩
        have hstep := HR.out.step hS hRT
        have htk : l.take j ++ [(p : Int)] = l.take (j + 1) := (take_succ_of hy.out).symm
        rw [htk] at hstep
        have hMk2 := (hMk.keep (KeepsBook.below z5)).cons hK (by omega) hD hKD
        have hBV : Below w1.heap.size w1 V := (hBW.trans (z5.mono (by omega))).trans (hT.below (by omega) (by omega))
        have HH := Lib.hid (⟨hTne, hMT, hstep, hMk2, hBV⟩ : T ≠ [] ∧ MemoU V (W.heap.size + 1) (some b') T ∧ MemoR (RunTo (NxL (costF cost) slots) 0 (l.take (j + 1))) T ∧ Marks w.heap.size V ({ target := .collected D, args := #[] } :: ds) ∧ Below w1.heap.size w1 V)
        clear hstep hMk2 hBV hTne hMT hRT hgT hbT
        gi_wp2
        obtain ⟨g1, g2, g3, g4, g5⟩ := HH.out
        exact ⟨⟨j + 1, W.heap.size + 1, b', T, _, _, _, _, _, _, _, _, _, _, _, _, _, rfl, by omega, g1, g2, g3, g4, g5⟩, by simp [intOf]; omega⟩
    · obtain rfl : j = n := by omega
      have HR2 : Hid (MemoR (RunTo (NxL (costF cost) slots) 0 l) L) := Lib.hid (by have := HR.out; rwa [List.take_of_length_le (by rw [h.len]; omega)] at this)
      have hcst : ∀ q ∈ L, 0 ≤ q.2 := fun q hq => (HL.out q hq).2.2.1
      have hlst := least_U pn b L W hM hcst hLne
      gi_wp2_with (first
        | (refine ⟨trivial, ?_⟩; gi_at_call 65; refine (callsIn_wide.2 hlst).mono ?_; rintro e w2 ⟨v, rfl, hv1, hv2, hBl⟩)
        | fail)
      have hbest := HR2.out.best hv1 hv2
      obtain ⟨s, rfl⟩ : ∃ s : Nat, slots = s := ⟨slots.toNat, by have := HG.out.2.2.2.2.1; omega⟩
      have hs1 : 1 ≤ s := by have := HG.out.2.2.2.2.1; omega
      have hlc := leastC_of_best (fun x => (costAt' HG.out.2.2.1 x).1) hs1 (fun x hx => by have := HG.out.2.2.2.1 x hx; rw [hc.len] at this; omega) hbest
      have HLC := Lib.hid hlc
      clear hlc hbest hv1 hv2 hlst hcst
      refine leaves_marks (n₀ := w.heap.size) (w₀ := w) (fun W' hB' => ?_) ds w2 (hMk.keep (KeepsBook.below hBl)) (hBt.trans (hBl.mono (by omega))) (by have := hBl.size; omega)
      exact ⟨.tuple #[.int .i64 v, .nilIface], by simp [results, Tryd.results29, go_sem], v, rfl, by rw [Int.toNat_natCast]; exact HLC.out, hB'⟩
end Go.Proofs.YtmeamgeojcbljaaDoor
