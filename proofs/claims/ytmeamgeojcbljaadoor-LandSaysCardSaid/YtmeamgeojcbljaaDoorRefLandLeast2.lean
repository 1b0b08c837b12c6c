/- The walk of larderwickref1.LeastCost itself. -/
import Derived.Test.YtmeamgeojcbljaaDoorRefLandLeast
namespace Go.Proofs.YtmeamgeojcbljaaDoor
open Go.ChangeShapes Go.WideShapes Go.ChangeAt Go.RowKit

/-- What comes of the first k states. -/
def AftK (f : Int → Int) (slots : Int) (p : Nat) (T : List Int) (k : Nat) (t : Nat) (c : Int) : Prop := ∃ s v d, s < k ∧ T[s]? = some v ∧ 0 ≤ v ∧ Nx64 f slots p s t d ∧ c = v + d
theorem aftK_succ {f : Int → Int} {slots : Int} {p : Nat} {T : List Int} {k : Nat} {v : Int} (hv : T[k]? = some v) (t : Nat) (c : Int) : AftK f slots p T (k + 1) t c ↔ AftK f slots p T k t c ∨ (0 ≤ v ∧ ∃ d, Nx64 f slots p k t d ∧ c = v + d) := by
  constructor
  · rintro ⟨s, u, d, h1, h2, h3, h4, h5⟩
    by_cases e : s = k
    · subst e
      rw [hv] at h2; injection h2 with h2; subst h2
      exact .inr ⟨h3, d, h4, h5⟩
    · exact .inl ⟨s, u, d, by omega, h2, h3, h4, h5⟩
  · rintro (⟨s, u, d, h1, h2, h3, h4, h5⟩ | ⟨h3, d, h4, h5⟩)
    · exact ⟨s, u, d, by omega, h2, h3, h4, h5⟩
    · exact ⟨k, v, d, by omega, hv, h3, h4, h5⟩
theorem bound_set {T : List Int} {t : Nat} {u x M : Int} (h : ∀ v ∈ T, -1 ≤ v ∧ v ≤ M) (hu : T[t]? = some u) (hx : 0 ≤ x ∧ x ≤ M) : ∀ v ∈ T.set t (lessI u x), -1 ≤ v ∧ v ≤ M := by
  intro v hv
  rcases List.mem_or_eq_of_mem_set hv with hv | rfl
  · exact h v hv
  · have := h u (List.mem_of_getElem? hu)
    unfold lessI
    split <;> omega
/-- What comes of the first k states, and of state k by the first i pages to let go. -/
def AftJ (f : Int → Int) (slots : Int) (p : Nat) (T : List Int) (k : Nat) (x : Int) (i : Nat) (t : Nat) (c : Int) : Prop := AftK f slots p T k t c ∨ ∃ j, j < i ∧ k.testBit j = true ∧ t = k - 2 ^ j + 2 ^ p ∧ c = x
theorem aftJ_succ {f : Int → Int} {slots : Int} {p : Nat} {T : List Int} {k : Nat} {x : Int} {i : Nat} (t : Nat) (c : Int) : AftJ f slots p T k x (i + 1) t c ↔ AftJ f slots p T k x i t c ∨ (k.testBit i = true ∧ t = k - 2 ^ i + 2 ^ p ∧ c = x) := by
  constructor
  · rintro (h | ⟨j, h1, h2, h3, h4⟩)
    · exact .inl (.inl h)
    · by_cases e : j = i
      · subst e; exact .inr ⟨h2, h3, h4⟩
      · exact .inl (.inr ⟨j, by omega, h2, h3, h4⟩)
  · rintro ((h | ⟨j, h1, h2, h3, h4⟩) | ⟨h2, h3, h4⟩)
    · exact .inl h
    · exact .inr ⟨j, by omega, h2, h3, h4⟩
    · exact .inr ⟨i, by omega, h2, h3, h4⟩
theorem land_tab_step {f : Int → Int} {slots : Int} {B : Int} (hf : ∀ x, 0 ≤ f x ∧ f x ≤ B) {p : Nat} (hp : p < 6) {T T2 l : List Int} {j : Nat} (hl : l[j]? = some (p : Int)) (hin : ∀ x ∈ l, 0 ≤ x ∧ x < 6)
    (h : Tab (fun s c => RunTo (NxL f slots) 0 (l.take j) (s : Int) c) T) (hT : Tab (AftK f slots p T 64) T2) : Tab (fun s c => RunTo (NxL f slots) 0 (l.take (j + 1)) (s : Int) c) T2 := by
  refine Tab.step (Nx := fun _ _ => True) (N2 := Nx64 f slots p) h (fun s t d hd => ?_) (fun t c => ?_) (hT.congr fun t c => ?_)
  · have := nxtL_in (c := 6) (by omega) (show (0 : Int) ≤ p by omega) (by exact_mod_cast hp) (show (0 : Int) ≤ s by omega) (by have := hd.1; show (s : Int) < 64; omega) hd.2
    rcases this.2.2 with e | e
    · show 0 ≤ d; have e : d = 0 := e; omega
    · show 0 ≤ d; have e : d = f p := e; rw [e]; exact (hf _).1
  · rw [List.take_add_one, hl, Option.toList_some, runTo_snoc]
    constructor
    · rintro ⟨k1, d1, d2, h1, h2, h3⟩
      have hi := runL_in (c := 6) (by omega) hf (fun x hx => hin x (List.mem_of_mem_take hx)) (Int.le_refl 0) (by decide) h1
      have h64 : k1 < 64 := hi.2.1
      obtain ⟨s, rfl⟩ : ∃ s : Nat, k1 = s := ⟨k1.toNat, by omega⟩
      exact ⟨s, d1, d2, h1, ⟨by omega, h2⟩, h3⟩
    · rintro ⟨s, d1, d2, h1, h2, h3⟩
      exact ⟨s, d1, d2, h1, h2.2, h3⟩
  · constructor
    · rintro ⟨s, v, d, _, h2, h3, h4, h5⟩; exact ⟨s, v, d, h2, h3, h4, h5⟩
    · rintro ⟨s, v, d, h2, h3, h4, h5⟩; exact ⟨s, v, d, h4.1, h2, h3, h4, h5⟩
theorem pc16_le {m : Nat} (hm : m < 64) : pc 16 m ≤ 16 := (show ∀ m : Nat, m < 64 → pc 16 m ≤ 16 by decide +kernel) m hm
theorem minT_take {T : List Int} {k : Nat} {x : Int} (h : T[k]? = some x) : minT (T.take (k + 1)) = if 0 ≤ x then lessI (minT (T.take k)) x else minT (T.take k) := by
  rw [List.take_add_one, h, Option.toList_some, minT_snoc]
theorem still_tl {P : Program} {id : Nat} {Q : Exit → Act → World → Prop} {a : Act} {w : World} {l : List Oper} (n : Nat) (hm : P.follows .mixedOrders = true) (hB : Region.lexTailB .any l.toArray n = true)
    (h : wpStill P l.toArray w.drew (fun a' => wpList P l.toArray Q (l.drop n) a' w.drew) (l.take n) a) : (Code.region id l.toArray true).wp P Q a w := wp_region_still_tail n hm hB h

set_option maxRecDepth 100000 in
set_option maxHeartbeats 4000000 in
theorem rlandleast_ok (A Ac : Option Addr) (n c m cc : Nat) (l cost : List Int) (slots : Int) (w : World) (h : RI w A n l) (hc : RI w Ac m cost) (hg : GoodL l cost slots) :
    Calls Tryd.prog 27 #[.slice A n c, .slice Ac m cc, .int .i64 slots] w fun e w' => ∃ T, e = .returned (.int .i64 (minT T)) ∧ Tab (fun s c => RunTo (NxL (costF cost) slots) 0 l (s : Int) c) T ∧ Below w.heap.size w w' := by
  have HG := Lib.hid hg
  have HL := Lib.hid h.len
  have HM := Lib.hid hc.len
  have hn40 : n ≤ 40 := by have := h.len; have := hg.1; omega
  have hm6 : m ≤ 6 := by have := hc.len; have := hg.2.1; omega
  have hs1 : 1 ≤ slots ∧ slots ≤ 8 := ⟨hg.2.2.2.2.1, hg.2.2.2.2.2⟩
  clear hg
  have hmk : ∀ w : World, (Instr.makeSlice 22 (.int .i64 64) (.int .i64 64)).run Tryd.prog w = .ok (.slice (some ⟨w.heap.size, 0, none⟩) 64 64) (w.alloc (.cells (madeCells #[.int .i64 0] 64) 3)) := made_run 64 (by omega)
  have R0 := TabRow.made w 64 (by omega)
  have hB0 := (Below.refl w.heap.size w).alloc (Nat.le_refl _) (.cells (madeCells #[.int .i64 0] 64) 3)
  have HF0 : Hid (∀ s, s < 64 → (List.replicate 64 (0 : Int))[s]? = some (if 1 ≤ s ∧ s < 1 then -1 else 0)) := Lib.hid (fun s hs => by rw [List.getElem?_replicate, if_pos hs, if_neg (by omega)])
  go_enter Tryd.func27, Tryd.ntmps27
  go_wp2
  go_loopw [8] (fun i wr => ∃ (k : Nat) (T : List Int), 1 ≤ k ∧ k ≤ 64 ∧ i = .int .i64 k ∧ TabRow wr w.heap.size 64 T ∧ Hid (∀ s, s < 64 → T[s]? = some (if 1 ≤ s ∧ s < k then -1 else 0)) ∧ Below w.heap.size w wr) (fun i _ => 64 - (intOf i).toNat)
  case atStart => exact ⟨1, _, by omega, by omega, by go_num, R0, HF0, hB0⟩
  case round =>
    obtain ⟨k, T, hk1, hk, rfl, hT, hF, hB⟩ := hrel
    by_cases hlt : k < 64
    · obtain ⟨u, hu, hcu⟩ := hT.at_ hlt
      have hfu := hT.frozen k
      obtain ⟨s1, s2⟩ := hT.store k (-1)
      have hF2 := Lib.hid (fill_set (p := fun s => 1 ≤ s) hT.1 hF.out hlt hk1)
      have hB2 := hB.grown s2 hB.size (fun b hb => by injection hb with hb; omega)
      have S1 := Lib.hid s1
      clear s1 s2 hu
      go_wp2
      go_roundw
      case rel => exact ⟨k + 1, _, by omega, by omega, by go_num, S1.out, hF2, hB2⟩
      case measure => simp [intOf]; omega
    · obtain rfl : k = 64 := by omega
      have HT0 : Hid (Tab (fun s c => RunTo (NxL (costF cost) slots) 0 (l.take 0) (s : Int) c) T) := Lib.hid (by
        refine ⟨fun s v h1 h2 => ?_, fun s c hr => ?_⟩
        · have hs : s < 64 := by have := (List.getElem?_eq_some_iff.1 h1).1; rw [hT.1] at this; exact this
          have := hF.out s hs
          rw [h1] at this
          injection this with this
          by_cases e : 1 ≤ s ∧ s < 64
          · rw [if_pos e] at this; omega
          · rw [if_neg e] at this
            exact ⟨by omega, this⟩
        · obtain ⟨e1, rfl⟩ := hr
          obtain rfl : s = 0 := by omega
          exact ⟨0, by rw [hF.out 0 (by omega), if_neg (by omega)], by omega, by omega⟩)
      have HB0 : Hid (∀ v ∈ T, -1 ≤ v ∧ v ≤ 20 * (0 : Nat)) := Lib.hid (fun v hv => by
        obtain ⟨s, hs⟩ := List.getElem?_of_mem hv
        have hs2 : s < 64 := by have := (List.getElem?_eq_some_iff.1 hs).1; rw [hT.1] at this; exact this
        have := hF.out s hs2
        rw [hs] at this
        injection this with this
        split at this <;> omega)
      have hTr := hT
      have hBr := hB
      clear hT hB hF R0 hB0 HF0
      rw [show ((64 : Nat) : Int) = 64 from rfl]
      go_wp2
      go_loopw [7, 9] (fun v7 i wr => ∃ (j g : Nat) (T : List Int), j ≤ n ∧ i = .int .i64 j ∧ v7 = .slice (some ⟨g, 0, none⟩) 64 64 ∧ w.heap.size ≤ g ∧ TabRow wr g 64 T ∧ Hid (Tab (fun s c => RunTo (NxL (costF cost) slots) 0 (l.take j) (s : Int) c) T) ∧ Hid (∀ v ∈ T, -1 ≤ v ∧ v ≤ 20 * (j : Nat)) ∧ Below w.heap.size w wr) (fun _ i _ => n - (intOf i).toNat)
      case atStart => exact ⟨0, w.heap.size, T, by omega, by go_num, rfl, Nat.le_refl _, hTr, HT0, HB0, hBr⟩
      case round =>
        clear hTr HT0 HB0 hBr T
        obtain ⟨j, g, T, hj, rfl, rfl, hgw, hT, HT, HBd, hB⟩ := hrel
        have hgl := hT.lt (by omega)
        by_cases hlj : j < n
        · obtain ⟨ad, y, rfl, hy, hcy⟩ := (h.below hB).at_ hlj
          have hyin := HG.out.2.2.2.1 y (List.mem_of_getElem? hy.out)
          rw [HM.out] at hyin
          obtain ⟨p, rfl⟩ : ∃ p : Nat, y = p := ⟨y.toNat, by omega⟩
          have hpm : p < m := by omega
          have hp6 : p < 6 := by omega
          clear hyin
          obtain ⟨b, hb⟩ : ∃ b, powSum [(p : Int)] = b := ⟨_, rfl⟩
          have HBP := Lib.hid (show b = 2 ^ p by rw [← hb]; simp [powSum])
          have hb32 : 1 ≤ b ∧ b ≤ 32 := by rw [HBP.out]; exact ⟨Nat.one_le_two_pow, pow_lt64 hp6⟩
          have hset := rset_q (some ⟨wr.heap.size, 0, none⟩) 1 1 [(p : Int)] (wr.alloc (.cells #[.int .i64 (p : Int)] 3)) (RI.lit wr #[.int .i64 (p : Int)] 3 [(p : Int)] 1 rfl rfl) (by omega) (by intro x hx; simp at hx; omega)
          rw [hb] at hset
          clear hb
          go_wp2_with fail
          refine hset.mono ?_; rintro e w' ⟨rfl, rfl⟩
          have gA : Below wr.heap.size wr (wr.alloc (.cells #[.int .i64 (p : Int)] 3)) := (Below.refl _ wr).alloc (Nat.le_refl _) _
          have hz1 : (wr.alloc (.cells #[.int .i64 (p : Int)] 3)).heap.size = wr.heap.size + 1 := by simp
          have hB1 := hB.trans (gA.mono hB.size)
          have hT1 := hT.below gA
          obtain ⟨W1, hW1⟩ : ∃ W1, wr.alloc (.cells #[.int .i64 (p : Int)] 3) = W1 := ⟨_, rfl⟩
          rw [hW1] at gA hz1 hB1 hT1 ⊢
          clear hW1 hset hT hB gA
          obtain ⟨X, hX⟩ : ∃ X, W1.heap.size = X := ⟨_, rfl⟩
          have hgX : g < X := by omega
          have R2 := TabRow.made W1 64 (by omega)
          have gB : Below W1.heap.size W1 (W1.alloc (.cells (madeCells #[.int .i64 0] 64) 3)) := (Below.refl _ W1).alloc (Nat.le_refl _) _
          have hmk1 := hmk W1
          rw [hX] at R2 gB hmk1
          clear hz1
          go_wp2
          go_loopw [13] (fun i wk => ∃ (k : Nat) (T2 : List Int), k ≤ 64 ∧ i = .int .i64 k ∧ TabRow wk X 64 T2 ∧ Hid (∀ s, s < 64 → T2[s]? = some (if True ∧ s < k then -1 else 0)) ∧ Below X W1 wk) (fun i _ => 64 - (intOf i).toNat)
          case atStart => exact ⟨0, _, by omega, by go_num, R2, Lib.hid (fun s hs => by rw [List.getElem?_replicate, if_pos hs, if_neg (by omega)]), gB⟩
          case round =>
            clear R2 gB
            obtain ⟨k, T2, hk, rfl, hT2, hF2, hB2⟩ := hrel
            by_cases hlk : k < 64
            · obtain ⟨u, hu, hcu⟩ := hT2.at_ hlk
              have hfu := hT2.frozen k
              obtain ⟨s1, s2⟩ := hT2.store k (-1)
              have hF3 := Lib.hid (fill_set (p := fun _ => True) hT2.1 hF2.out hlk trivial)
              have hB3 := hB2.grown s2 (by have := hB2.size; omega) (fun b hb => by injection hb with hb; omega)
              have S1 := Lib.hid s1
              clear s1 s2 hu
              go_wp2
              go_roundw
              case rel => exact ⟨k + 1, _, by omega, by go_num, S1.out, hF3, hB3⟩
              case measure => simp [intOf]; omega
            · obtain rfl : k = 64 := by omega
              have HA0 : Hid (Tab (AftK (costF cost) slots p T 0) T2) := Lib.hid (by
                refine ⟨fun s v h1 h2 => ?_, fun s c hr => ?_⟩
                · have hs : s < 64 := by have := (List.getElem?_eq_some_iff.1 h1).1; rw [hT2.1] at this; exact this
                  have := hF2.out s hs
                  rw [h1, if_pos ⟨trivial, hs⟩] at this
                  injection this with this; omega
                · obtain ⟨s, v, d, h1, _⟩ := hr; omega)
              have HAB : Hid (∀ v ∈ T2, -1 ≤ v ∧ v ≤ 20 * ((j + 1 : Nat) : Int)) := Lib.hid (fun v hv => by
                obtain ⟨s, hs⟩ := List.getElem?_of_mem hv
                have hs2 : s < 64 := by have := (List.getElem?_eq_some_iff.1 hs).1; rw [hT2.1] at this; exact this
                have := hF2.out s hs2
                rw [hs, if_pos ⟨trivial, hs2⟩] at this
                injection this with this
                omega)
              have hTs := hT2
              have hBs := hB2
              clear hT2 hB2 hF2 hmk1
              rw [show ((64 : Nat) : Int) = 64 from rfl]
              go_wp2
              go_loopw [14] (fun i wk => ∃ (k : Nat) (T2 : List Int), k ≤ 64 ∧ i = .int .i64 k ∧ TabRow wk X 64 T2 ∧ Hid (Tab (AftK (costF cost) slots p T k) T2) ∧ Hid (∀ v ∈ T2, -1 ≤ v ∧ v ≤ 20 * ((j + 1 : Nat) : Int)) ∧ Below X W1 wk) (fun i _ => 64 - (intOf i).toNat)
              case atStart => exact ⟨0, T2, by omega, by go_num, hTs, HA0, HAB, hBs⟩
              case round =>
                clear hTs HA0 HAB hBs T2
                obtain ⟨wk, hwk⟩ : ∃ wk, wk = wr := ⟨_, rfl⟩
                subst hwk
                obtain ⟨k, T2, hk, rfl, hT2, HA, HAB, hB2⟩ := hrel
                have hBw : Below w.heap.size w wk := hB1.trans (hB2.mono (by have := hB1.size; omega))
                have hXs := hB2.size
                by_cases hlk : k < 64
                · obtain ⟨v, hv, hcv⟩ := (hT1.kept (hB2.block g hgX)).at_ hlk
                  have hvb := HBd.out v (List.mem_of_getElem? hv)
                  have HSU := Lib.hid (fun t c => aftK_succ (f := costF cost) (slots := slots) (p := p) hv t c)
                  by_cases hv0 : v < 0
                  · have HA2 : Hid (Tab (AftK (costF cost) slots p T (k + 1)) T2) := Lib.hid (HA.out.congr fun t c => by rw [HSU.out]; exact ⟨.inl, fun h => h.elim id (fun h => by omega)⟩)
                    clear hv
                    go_wp2
                    go_roundw
                    case rel => exact ⟨k + 1, T2, by omega, by go_num, hT2, HA2, HAB, hB2⟩
                    case measure => simp [intOf]; omega
                  · have HV := Lib.hid hv
                    clear hv
                    have hv20 : v ≤ 800 := by omega
                    have hdv := bit_div hlk hp6
                    rw [← HBP.out] at hdv
                    obtain ⟨qq, hqq⟩ : ∃ qq : Nat, k / b = qq := ⟨_, rfl⟩
                    have hqi : (k : Int) / (b : Int) = (qq : Int) := by rw [← hqq]; exact (Int.natCast_ediv k b).symm
                    have hqb : qq ≤ 63 := by rw [← hqq]; exact Nat.le_trans (Nat.div_le_self k b) (by omega)
                    rw [hqq] at hdv
                    have HBIT := Lib.hid hdv
                    clear hdv hqq
                    by_cases hbit : k.testBit p = true
                    · have hcd : (qq : Int) % 2 = 1 := by have := HBIT.out.2 hbit; omega
                      obtain ⟨u, hu, hcu⟩ := hT2.at_ hlk
                      have hfu := hT2.frozen k
                      have HA2 : Hid (Tab (AftK (costF cost) slots p T (k + 1)) (T2.set k (lessI u v))) := Lib.hid ((HA.out.upd hu (by omega)).congr fun t c => by
                        rw [HSU.out]
                        constructor
                        · rintro (h | ⟨rfl, rfl⟩)
                          · exact .inl h
                          · exact .inr ⟨by omega, 0, (nx_stay hlk hbit _ _).2 ⟨rfl, rfl⟩, by omega⟩
                        · rintro (h | ⟨_, d, h1, rfl⟩)
                          · exact .inl h
                          · obtain ⟨rfl, rfl⟩ := (nx_stay hlk hbit _ _).1 h1
                            exact .inr ⟨rfl, by omega⟩)
                      have HAB2 := Lib.hid (bound_set HAB.out hu (x := v) ⟨by omega, by omega⟩)
                      obtain ⟨r, hr⟩ : ∃ r, lessI u v = r := ⟨_, rfl⟩
                      have HLS := lesser_i u v wk.drew
                      rw [hr] at HLS HA2 HAB2
                      have HLS' := Lib.hid HLS
                      obtain ⟨st1, st2⟩ := hT2.store k r
                      have ST1 := Lib.hid st1
                      have hB3 := Lib.hid (hB2.grown st2 (by omega) (fun b hb => by injection hb with hb; omega))
                      clear HLS hr st1 st2 hu
                      go_wp2
                      refine still_tl 12 (by kernel_rfl) (by kernel_rfl) ?_
                      simp only [List.take_succ_cons, List.take_zero, List.drop_succ_cons, List.drop_zero]
                      have e0 : (0 : Int) ≤ (k : Int) := by omega
                      have e1 : (k : Int) < 64 := by omega
                      repeat still_step
                      still_call HLS'.out
                      repeat still_step
                      refine wpStill_nil ?_
                      clear e0 e1
                      go_wp2
                      go_roundw
                      case rel => exact ⟨k + 1, _, by omega, by go_num, ST1.out, HA2, HAB2, belowN hB3.out 1⟩
                      case measure => simp [intOf]; omega
                    · have hcd : ¬ (qq : Int) % 2 = 1 := by
                        intro hh
                        exact hbit (HBIT.out.1 (by omega))
                      have hbf : k.testBit p = false := by simpa using hbit
                      have HBF := Lib.hid hbf
                      clear hbf hbit
                      obtain ⟨adc, y, rfl, hy, hcy⟩ := (hc.below hBw).at_ hpm
                      have hyb := HG.out.2.2.1 y (List.mem_of_getElem? hy.out)
                      have HY : Hid (costF cost p = y) := Lib.hid (by unfold costF; rw [Int.toNat_natCast, List.getD_eq_getElem?_getD, hy.out]; rfl)
                      have HYY := hy
                      clear hy
                      obtain ⟨mm, hmm⟩ : ∃ mm, pc 16 k = mm := ⟨_, rfl⟩
                      have hmb : mm ≤ 16 := by rw [← hmm]; exact pc16_le hlk
                      have hmany := many_ok k hlk wk
                      rw [hmm] at hmany
                      have HMM := Lib.hid hmm
                      clear hmm
                      by_cases hms : (mm : Int) < slots
                      · obtain ⟨kb, hkb⟩ : ∃ kb : Nat, k + b = kb := ⟨_, rfl⟩
                        have hkbi : (k : Int) + (b : Int) = (kb : Int) := by omega
                        have hor := or_plus hlk hp6 HBF.out
                        rw [← HBP.out, hkb] at hor
                        have hk64 : kb < 64 := hor.2.1
                        have HNX : Hid (∀ t d, Nx64 (costF cost) slots p k t d ↔ t = kb ∧ d = y) := Lib.hid (fun t d => by rw [nx_more hlk hp6 HBF.out (by rw [HMM.out]; exact hms), ← HBP.out, hkb, HY.out])
                        clear hor hkb
                        obtain ⟨u, hu, hcu⟩ := hT2.at_ hk64
                        have hfu := hT2.frozen kb
                        have HA2 : Hid (Tab (AftK (costF cost) slots p T (k + 1)) (T2.set kb (lessI u (v + y)))) := Lib.hid ((HA.out.upd hu (x := v + y) (by omega)).congr fun t c => by
                          rw [HSU.out]
                          constructor
                          · rintro (h | ⟨rfl, rfl⟩)
                            · exact .inl h
                            · exact .inr ⟨by omega, y, (HNX.out _ _).2 ⟨rfl, rfl⟩, rfl⟩
                          · rintro (h | ⟨_, d, h1, rfl⟩)
                            · exact .inl h
                            · obtain ⟨rfl, rfl⟩ := (HNX.out _ _).1 h1
                              exact .inr ⟨rfl, rfl⟩)
                        have HAB2 := Lib.hid (bound_set HAB.out hu (x := v + y) ⟨by omega, by omega⟩)
                        obtain ⟨x, hx⟩ : ∃ x, v + y = x := ⟨_, rfl⟩
                        have hx20 : 0 ≤ x ∧ x ≤ 820 := by omega
                        obtain ⟨r, hr⟩ : ∃ r, lessI u x = r := ⟨_, rfl⟩
                        have HLS := lesser_i u x wk.drew
                        rw [hx] at HA2 HAB2
                        rw [hr] at HLS HA2 HAB2
                        have HLS' := Lib.hid HLS
                        obtain ⟨st1, st2⟩ := hT2.store kb r
                        have ST1 := Lib.hid st1
                        have hB3 := Lib.hid (hB2.grown st2 (by omega) (fun b hb => by injection hb with hb; omega))
                        clear HLS hr st1 st2 hu
                        go_wp2_with fail
                        refine hmany.mono ?_; rintro e w' ⟨rfl, rfl⟩
                        go_wp2
                        refine still_tl 21 (by kernel_rfl) (by kernel_rfl) ?_
                        simp only [List.take_succ_cons, List.take_zero, List.drop_succ_cons, List.drop_zero]
                        have e0 : (0 : Int) ≤ (k : Int) := by omega
                        have e1 : (k : Int) < 64 := by omega
                        have e2 : (0 : Int) ≤ (kb : Int) := by omega
                        have e3 : (kb : Int) < 64 := by omega
                        have e4 : (0 : Int) ≤ (p : Int) := by omega
                        have e5 : (p : Int) < (m : Int) := by omega
                        have e6 : IntKind.i64.wrap ((k : Int) + (b : Int)) = (kb : Int) := by rw [hkbi]; exact IntWalk.i64_in _ (by omega)
                        have e7 : IntKind.i64.wrap (v + y) = x := by rw [hx]; exact IntWalk.i64_in _ (by omega)
                        have e8 : IntKind.i64.wrap (kb : Int) = (kb : Int) := IntWalk.i64_in _ (by omega)
                        have e9 : IntKind.i64.wrap x = x := IntWalk.i64_in _ (by omega)
                        repeat still_step
                        still_call HLS'.out
                        repeat still_step
                        refine wpStill_nil ?_
                        clear e0 e1 e2 e3 e4 e5 e6 e7 e8 e9
                        go_wp2
                        go_roundw
                        case rel => exact ⟨k + 1, _, by omega, by go_num, ST1.out, HA2, HAB2, belowN hB3.out 1⟩
                        case measure => simp [intOf]; omega
                      · have HNX : Hid (∀ t d, Nx64 (costF cost) slots p k t d ↔ ∃ q, q < 6 ∧ k.testBit q = true ∧ t = k - 2 ^ q + 2 ^ p ∧ d = y) := Lib.hid (fun t d => by rw [nx_swap hlk hp6 HBF.out (by rw [HMM.out]; exact hms), HY.out])
                        obtain ⟨x, hx⟩ : ∃ x, v + y = x := ⟨_, rfl⟩
                        have hx20 : 0 ≤ x ∧ x ≤ 820 := by omega
                        have hxj : x ≤ 20 * ((j + 1 : Nat) : Int) := by omega
                        have HJ0 : Hid (Tab (AftJ (costF cost) slots p T k x 0) T2) := Lib.hid (HA.out.congr fun t c => ⟨.inl, fun h => h.elim id (fun ⟨_, h, _⟩ => by omega)⟩)
                        have hTs := hT2
                        have hAs := HAB
                        have hBs := hB2
                        clear hT2 HA HAB hB2 hBw hXs
                        go_wp2_with fail
                        refine hmany.mono ?_; rintro e w' ⟨rfl, rfl⟩
                        clear hcv hcy
                        go_wp2
                        go_loopw [15, 16] (fun v15 ii wz => ∃ (i z : Nat) (T3 : List Int), i ≤ 6 ∧ ii = .int .i64 i ∧ v15 = .int .i64 z ∧ Hid (z = 2 ^ i) ∧ 1 ≤ z ∧ z ≤ 64 ∧ TabRow wz X 64 T3 ∧ Hid (Tab (AftJ (costF cost) slots p T k x i) T3) ∧ Hid (∀ v ∈ T3, -1 ≤ v ∧ v ≤ 20 * ((j + 1 : Nat) : Int)) ∧ Below X W1 wz) (fun _ ii _ => 6 - (intOf ii).toNat)
                        case atStart => exact ⟨0, 1, T2, by omega, by go_num, by go_num, Lib.hid rfl, by omega, by omega, hTs, HJ0, hAs, hBs⟩
                        case round =>
                          clear hTs HJ0 hAs hBs hmany
                          obtain ⟨wz, hwz⟩ : ∃ wz, wz = wr := ⟨_, rfl⟩
                          subst hwz
                          obtain ⟨i, z, T3, hi6, rfl, rfl, HZ, hz1, hz64, hT3, HJ, HAB3, hB3⟩ := hrel
                          by_cases hi : i < 6
                          · have hz32 : z ≤ 32 := by rw [HZ.out]; exact pow_lt64 hi
                            have HZ2 : Hid (z * 2 = 2 ^ (i + 1)) := Lib.hid (by rw [HZ.out, Nat.pow_succ])
                            have hBz : Below w.heap.size w wz := hB1.trans (hB3.mono (by have := hB1.size; omega))
                            obtain ⟨adc', y', hadc, hy', hcy⟩ := (hc.below hBz).at_ hpm
                            obtain rfl : adc = adc' := by injection hadc
                            obtain ⟨v', hv', hcv⟩ := (hT1.kept (hB3.block g hgX)).at_ hlk
                            obtain rfl : v' = v := by have := hv'.symm.trans HV.out; injection this
                            obtain rfl : y' = y := by have := hy'.out.symm.trans HYY.out; injection this
                            clear hadc hy' hv'
                            have hXs := hB3.size
                            have hdz := bit_div hlk hi
                            rw [← HZ.out] at hdz
                            obtain ⟨qz, hqz⟩ : ∃ qz : Nat, k / z = qz := ⟨_, rfl⟩
                            have hqzi : (k : Int) / (z : Int) = (qz : Int) := by rw [← hqz]; exact (Int.natCast_ediv k z).symm
                            have hqzb : qz ≤ 63 := by rw [← hqz]; exact Nat.le_trans (Nat.div_le_self k z) (by omega)
                            rw [hqz] at hdz
                            have HBZ := Lib.hid hdz
                            clear hdz hqz
                            by_cases hb2 : k.testBit i = true
                            · have hcz : (qz : Int) % 2 = 1 := by have := HBZ.out.2 hb2; omega
                              have hxm := xor_minus hlk hp6 hi HBF.out hb2
                              rw [← HZ.out, ← HBP.out] at hxm
                              obtain ⟨km, hkm⟩ : ∃ km, k - z = km := ⟨_, rfl⟩
                              obtain ⟨kz, hkz⟩ : ∃ kz, km + b = kz := ⟨_, rfl⟩
                              rw [hkm, hkz] at hxm
                              have hkmi : (k : Int) - (z : Int) = (km : Int) := by omega
                              have hkzi : (km : Int) + (b : Int) = (kz : Int) := by omega
                              have hkz64 : kz < 64 := hxm.2.2
                              have hkm64 : km < 64 := by omega
                              obtain ⟨u, hu, hcu⟩ := hT3.at_ hkz64
                              have hfu := hT3.frozen kz
                              have HJ2 : Hid (Tab (AftJ (costF cost) slots p T k x (i + 1)) (T3.set kz (lessI u x))) := Lib.hid ((HJ.out.upd hu (x := x) (by omega)).congr fun t c => by
                                rw [aftJ_succ, ← HZ.out, ← HBP.out, hkm, hkz]
                                constructor
                                · rintro (h | ⟨rfl, rfl⟩)
                                  · exact .inl h
                                  · exact .inr ⟨hb2, rfl, rfl⟩
                                · rintro (h | ⟨_, rfl, rfl⟩)
                                  · exact .inl h
                                  · exact .inr ⟨rfl, rfl⟩)
                              have HAB2 := Lib.hid (bound_set HAB3.out hu (x := x) ⟨by omega, hxj⟩)
                              obtain ⟨r, hr⟩ : ∃ r, lessI u x = r := ⟨_, rfl⟩
                              have HLS := lesser_i u x wz.drew
                              rw [hr] at HLS HJ2 HAB2
                              have HLS' := Lib.hid HLS
                              obtain ⟨st1, st2⟩ := hT3.store kz r
                              have ST1 := Lib.hid st1
                              have hB4 := Lib.hid (hB3.grown st2 (by omega) (fun b hb => by injection hb with hb; omega))
                              clear HLS hr st1 st2 hu hxm hkm hkz
                              go_wp2
                              refine still_tl 25 (by kernel_rfl) (by kernel_rfl) ?_
                              simp only [List.take_succ_cons, List.take_zero, List.drop_succ_cons, List.drop_zero]
                              have e0 : (0 : Int) ≤ (k : Int) := by omega
                              have e1 : (k : Int) < 64 := by omega
                              have e2 : (0 : Int) ≤ (kz : Int) := by omega
                              have e3 : (kz : Int) < 64 := by omega
                              have e4 : (0 : Int) ≤ (p : Int) := by omega
                              have e5 : (p : Int) < (m : Int) := by omega
                              have e6 : IntKind.i64.wrap ((k : Int) - (z : Int)) = (km : Int) := by rw [hkmi]; exact IntWalk.i64_in _ (by omega)
                              have e7 : IntKind.i64.wrap (v' + y') = x := by rw [hx]; exact IntWalk.i64_in _ (by omega)
                              have e8 : IntKind.i64.wrap (kz : Int) = (kz : Int) := IntWalk.i64_in _ (by omega)
                              have e9 : IntKind.i64.wrap x = x := IntWalk.i64_in _ (by omega)
                              have e10 : IntKind.i64.wrap (km : Int) = (km : Int) := IntWalk.i64_in _ (by omega)
                              have e11 : IntKind.i64.wrap ((km : Int) + (b : Int)) = (kz : Int) := by rw [hkzi]; exact IntWalk.i64_in _ (by omega)
                              repeat still_step
                              still_call HLS'.out
                              repeat still_step
                              refine wpStill_nil ?_
                              clear e0 e1 e2 e3 e4 e5 e6 e7 e8 e9 e10 e11
                              go_wp2
                              go_roundw
                              case rel => exact ⟨i + 1, z * 2, _, by omega, by go_num, by simp, HZ2, by omega, by omega, ST1.out, HJ2, HAB2, belowN hB4.out 1⟩
                              case measure => simp [intOf]; omega
                            · have hcz : ¬ (qz : Int) % 2 = 1 := by
                                intro hh
                                exact hb2 (HBZ.out.1 (by omega))
                              have HJ2 : Hid (Tab (AftJ (costF cost) slots p T k x (i + 1)) T3) := Lib.hid (HJ.out.congr fun t c => by
                                rw [aftJ_succ]
                                exact ⟨.inl, fun h => h.elim id (fun h => absurd h.1 hb2)⟩)
                              clear hb2
                              go_wp2
                              go_roundw
                              case rel => exact ⟨i + 1, z * 2, T3, by omega, by go_num, by simp, HZ2, by omega, by omega, hT3, HJ2, HAB3, hB3⟩
                              case measure => simp [intOf]; omega
                          · obtain rfl : i = 6 := by omega
                            have HA2 : Hid (Tab (AftK (costF cost) slots p T (k + 1)) T3) := Lib.hid (HJ.out.congr fun t c => by
                              rw [HSU.out]
                              constructor
                              · rintro (h | ⟨q, h1, h2, h3, h4⟩)
                                · exact .inl h
                                · exact .inr ⟨by omega, y, (HNX.out _ _).2 ⟨q, h1, h2, h3, rfl⟩, by omega⟩
                              · rintro (h | ⟨_, d, h1, h2⟩)
                                · exact .inl h
                                · obtain ⟨q, g1, g2, g3, g4⟩ := (HNX.out _ _).1 h1
                                  exact .inr ⟨q, g1, g2, g3, by omega⟩)
                            go_wp2
                            go_roundw
                            case rel => exact ⟨k + 1, T3, by omega, by go_num, hT3, HA2, HAB3, hB3⟩
                            case measure => simp [intOf]; omega
                · obtain rfl : k = 64 := by omega
                  have HTn := Lib.hid (land_tab_step (fun x => costAt HG.out.2.2.1 x.toNat) hp6 hy.out (fun x hx => by have := HG.out.2.2.2.1 x hx; rw [HM.out] at this; omega) HT.out HA.out)
                  go_wp2
                  go_roundw
                  case rel => exact ⟨j + 1, X, T2, by omega, by go_num, rfl, by have := hB1.size; omega, hT2, HTn, HAB, hBw⟩
                  case measure => simp [intOf]; omega
        · obtain rfl : j = n := by omega
          have HTf : Hid (Tab (fun s c => RunTo (NxL (costF cost) slots) 0 l (s : Int) c) T) := Lib.hid (by have := HT.out; rwa [List.take_of_length_le (by rw [HL.out]; omega)] at this)
          have hTs := hT
          have hBs := hB
          clear hT HT hB HBd hmk
          go_wp2
          go_loopw [17, 18] (fun v17 ii wz => ∃ (k : Nat) (q : Int), k ≤ 64 ∧ ii = .int .i64 k ∧ v17 = .int .i64 q ∧ Hid (q = minT (T.take k)) ∧ TabRow wz g 64 T ∧ Below w.heap.size w wz) (fun _ ii _ => 64 - (intOf ii).toNat)
          case atStart => exact ⟨0, -1, by omega, by go_num, rfl, Lib.hid rfl, hTs, hBs⟩
          case round =>
            clear hTs hBs
            obtain ⟨wz, hwz⟩ : ∃ wz, wz = wr := ⟨_, rfl⟩
            subst hwz
            obtain ⟨k, q, hk, rfl, rfl, HQ, hT, hB⟩ := hrel
            by_cases hlk : k < 64
            · obtain ⟨v, hv, hcv⟩ := hT.at_ hlk
              have HV := Lib.hid (minT_take hv)
              clear hv
              by_cases hv0 : 0 ≤ v
              · have HQ2 : Hid (lessI q v = minT (T.take (k + 1))) := Lib.hid (by rw [HV.out, if_pos hv0, HQ.out])
                have HLS := Lib.hid (lesser_i q v wz)
                go_wp2_with fail
                refine HLS.out.mono ?_; rintro e w' ⟨rfl, rfl⟩
                go_wp2
                go_roundw
                case rel => exact ⟨k + 1, lessI q v, by omega, by go_num, rfl, HQ2, hT, hB⟩
                case measure => simp [intOf]; omega
              · have HQ2 : Hid (q = minT (T.take (k + 1))) := Lib.hid (by rw [HV.out, if_neg hv0, HQ.out])
                go_wp2
                go_roundw
                case rel => exact ⟨k + 1, q, by omega, by go_num, rfl, HQ2, hT, hB⟩
                case measure => simp [intOf]; omega
            · obtain rfl : k = 64 := by omega
              have HQ2 : Hid (q = minT T) := Lib.hid (by rw [HQ.out, List.take_of_length_le (by rw [hT.1]; omega)])
              go_wp2
              go_ret
              exact ⟨T, by rw [HQ2.out]; rfl, HTf.out, hB⟩
end Go.Proofs.YtmeamgeojcbljaaDoor
