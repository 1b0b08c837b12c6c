/- The walks of larderwickref1.ahead and .Opt: what each returns. -/
import Derived.Test.YtpamnnnihfjdkaaDoorRefRise
import Derived.Test.YtpamnnnihfjdkaaDoorOptRun
import Derived.Deep.QuietTactic
import Derived.BigQuiet
namespace Go.Proofs.YtpamnnnihfjdkaaDoor
open Go.ChangeShapes Go.WideShapes Go.ChangeAt Go.RowKit

/-! ### Plain. -/
theorem bestIx_first (f : Int → Nat) (S : List Int) : ∀ k i, i < bestIx f S k → f (S.getD i 0) < f (S.getD (bestIx f S k) 0) := by
  intro k
  induction k with
  | zero => intro i h; simp [bestIx] at h
  | succ k ih =>
    intro i hi
    rw [bestIx] at hi ⊢
    by_cases h : f (S.getD (bestIx f S k) 0) < f (S.getD k 0)
    · rw [if_pos h] at hi ⊢
      have := bestIx_max f S k i hi
      omega
    · rw [if_neg h] at hi ⊢
      exact ih i hi
/-- Who is let go of is the least one of those asked for latest. -/
theorem pickO_unique {H l : List Int} (hH : H ≠ []) {z : Int} (hz : z ∈ H) (h1 : ∀ x ∈ H, l.idxOf x ≤ l.idxOf z) (h2 : ∀ x ∈ H, x < z → l.idxOf x < l.idxOf z) : pickO H l = z := by
  have hat := pickO_at l hH
  generalize hb : bestIx (fun x => l.idxOf x) (sortI H) H.length = b at hat
  have hbl := (List.getElem?_eq_some_iff.1 hat).1
  have hgb : (sortI H).getD b 0 = pickO H l := by rw [List.getD_eq_getElem?_getD, hat]; rfl
  obtain ⟨i, hi, e⟩ := List.mem_iff_getElem.1 ((sortI_perm H).mem_iff.2 hz)
  have hgi : (sortI H).getD i 0 = z := by rw [List.getD_eq_getElem?_getD, List.getElem?_eq_getElem hi, e]; rfl
  have hmem : pickO H l ∈ H := (sortI_perm H).mem_iff.1 (List.mem_of_getElem? hat)
  have hmax := bestIx_max (fun x => l.idxOf x) (sortI H) H.length i (by rwa [sortI_len] at hi)
  rw [hb, hgb, hgi] at hmax
  have hsorted := List.pairwise_iff_getElem.1 (sortI_sorted H)
  rcases Nat.lt_trichotomy i b with hlt | heq | hgt
  · have := bestIx_first (fun x => l.idxOf x) (sortI H) H.length i (by rw [hb]; exact hlt)
    rw [hb, hgb, hgi] at this
    have := h1 _ hmem
    omega
  · subst heq
    rw [← hgb, hgi]
  · have hle := hsorted b i hbl hi hgt
    have e1 : (sortI H)[b] = pickO H l := (List.getElem?_eq_some_iff.1 hat).2
    rw [e, e1] at hle
    by_cases he : pickO H l = z
    · exact he
    · have h3 := h2 _ hmem (by omega)
      have h4 := h1 _ hmem
      omega

/-- As optF, where who is let go of is taken out of the list as it stands. -/
def optR (s : Nat) : List Int → List Int → List Bool × List Int × List Int
  | K, [] => ([], [], sortI K)
  | K, p :: l =>
    if p ∈ K then (true :: (optR s K l).1, (optR s K l).2.1, (optR s K l).2.2)
    else if K.length = s then
      (false :: (optR s (K.erase (pickO K (p :: l)) ++ [p]) l).1, pickO K (p :: l) :: (optR s (K.erase (pickO K (p :: l)) ++ [p]) l).2.1, (optR s (K.erase (pickO K (p :: l)) ++ [p]) l).2.2)
    else (false :: (optR s (K ++ [p]) l).1, (optR s (K ++ [p]) l).2.1, (optR s (K ++ [p]) l).2.2)
theorem optR_F {s : Nat} (hs : 1 ≤ s) : ∀ (l H K : List Int), K.Perm H → H.Nodup → H.length ≤ s → optR s K l = optF s H l := by
  intro l
  induction l with
  | nil => intro H K hK _ _; rw [optR, optF, sortI_eq hK]
  | cons p l ih =>
    intro H K hK hN hL
    rw [optR, optF]
    by_cases hp : p ∈ H
    · rw [if_pos (hK.mem_iff.2 hp), if_pos hp, ih H K hK hN hL]
    · rw [if_neg (fun h => hp (hK.mem_iff.1 h)), if_neg hp]
      by_cases hf : H.length = s
      · have hne : H ≠ [] := fun e => by rw [e] at hf; simp at hf; omega
        rw [if_pos (by rw [hK.length_eq]; exact hf), if_pos hf]
        have hd := optDel (p :: l) hne hN
        obtain ⟨hm, _⟩ := pickO_latest H (p :: l) hne hN
        have hpos := List.length_pos_of_mem hm
        have hd2 := hd.append_right [p]
        have hN' : (H.erase (pickO H (p :: l)) ++ [p]).Nodup := by
          rw [List.nodup_append]
          exact ⟨hN.erase _, by simp, fun a ha b hb => by rw [List.mem_singleton] at hb; subst hb; exact fun e => hp (List.mem_of_mem_erase (e ▸ ha))⟩
        rw [pickO_perm hK (p :: l)]
        have e := ih _ (K.erase (pickO H (p :: l)) ++ [p]) (((hK.erase _).append_right [p]).trans hd2.symm) (hd2.nodup_iff.2 hN') (by rw [hd2.length_eq, List.length_append, List.length_erase_of_mem hm]; simp; omega)
        rw [e]
      · rw [if_neg (by rw [hK.length_eq]; exact hf), if_neg hf]
        have e := ih (H ++ [p]) (K ++ [p]) (hK.append_right [p]) (by
          rw [List.nodup_append]
          exact ⟨hN, by simp, fun a ha b hb => by rw [List.mem_singleton] at hb; subst hb; exact fun e => hp (e ▸ ha)⟩) (by simp; omega)
        rw [e]
/-- What is told, where so much is told already. -/
def optT (s : Nat) (hits : List Bool) (outs held l : List Int) : List Bool × List Int × List Int := (hits ++ (optR s held l).1, outs ++ (optR s held l).2.1, (optR s held l).2.2)
theorem optT_nil (s : Nat) (hits : List Bool) (outs held : List Int) : optT s hits outs held [] = (hits, outs, sortI held) := by simp [optT, optR]
theorem optT_hit {s : Nat} {hits : List Bool} {outs held l : List Int} {y : Int} (h : y ∈ held) : optT s hits outs held (y :: l) = optT s (hits ++ [true]) outs held l := by
  unfold optT; rw [optR, if_pos h]; simp
theorem optT_room {s : Nat} {hits : List Bool} {outs held l : List Int} {y : Int} (h : y ∉ held) (hf : ¬ held.length = s) : optT s hits outs held (y :: l) = optT s (hits ++ [false]) outs (held ++ [y]) l := by
  unfold optT; rw [optR, if_neg h, if_neg hf]; simp
theorem optT_full {s : Nat} {hits : List Bool} {outs held l : List Int} {y z : Int} (h : y ∉ held) (hf : held.length = s) (hz : pickO held (y :: l) = z) :
    optT s hits outs held (y :: l) = optT s (hits ++ [false]) (outs ++ [z]) (held.erase z ++ [y]) l := by
  unfold optT; rw [optR, if_neg h, if_pos hf, hz]; simp

/-- Of the pages below p the best one so far. -/
def BestP (K l : List Int) (p : Nat) (b : Int) : Prop :=
  (b = -1 ∧ ∀ x ∈ K, (p : Int) ≤ x) ∨ (b ∈ K ∧ 0 ≤ b ∧ b < p ∧ (∀ x ∈ K, x < p → l.idxOf x ≤ l.idxOf b) ∧ ∀ x ∈ K, x < b → l.idxOf x < l.idxOf b)
theorem BestP.start (K l : List Int) (h : AllIn K 0 15) : BestP K l 0 (-1) := .inl ⟨rfl, fun x hx => by have := h x hx; omega⟩
theorem BestP.not_ {K l : List Int} {p : Nat} {b : Int} (h : BestP K l p b) (hp : (p : Int) ∉ K) : BestP K l (p + 1) b := by
  have hne : ∀ x ∈ K, x ≠ (p : Int) := fun x hx e => hp (e ▸ hx)
  rcases h with ⟨h1, h2⟩ | ⟨h1, h0, h2, h3, h4⟩
  · exact .inl ⟨h1, fun x hx => by have := h2 x hx; have := hne x hx; omega⟩
  · exact .inr ⟨h1, h0, by omega, fun x hx hl => h3 x hx (by have := hne x hx; omega), h4⟩
theorem BestP.first {K l : List Int} {p : Nat} (h : BestP K l p (-1)) (hp : (p : Int) ∈ K) : BestP K l (p + 1) p := by
  rcases h with ⟨_, h2⟩ | ⟨_, h0, _⟩
  · refine .inr ⟨hp, by omega, by omega, fun x hx hl => ?_, fun x hx hl => ?_⟩
    · have := h2 x hx
      have e : x = p := by omega
      rw [e]; exact Nat.le_refl _
    · have := h2 x hx; omega
  · omega
theorem BestP.more {K l : List Int} {p : Nat} {b : Int} (h : BestP K l p b) (hb : 0 ≤ b) (hp : (p : Int) ∈ K) (hlt : l.idxOf b < l.idxOf (p : Int)) : BestP K l (p + 1) p := by
  rcases h with ⟨h1, _⟩ | ⟨h1, h0, h2, h3, h4⟩
  · omega
  · refine .inr ⟨hp, by omega, by omega, fun x hx hl => ?_, fun x hx hl => ?_⟩
    · by_cases e : x = p
      · rw [e]; exact Nat.le_refl _
      · have := h3 x hx (by omega); omega
    · have := h3 x hx hl; omega
theorem BestP.less {K l : List Int} {p : Nat} {b : Int} (h : BestP K l p b) (hb : 0 ≤ b) (hlt : ¬ l.idxOf b < l.idxOf (p : Int)) : BestP K l (p + 1) b := by
  rcases h with ⟨h1, _⟩ | ⟨h1, h0, h2, h3, h4⟩
  · omega
  · refine .inr ⟨h1, h0, by omega, fun x hx hl => ?_, h4⟩
    by_cases e : x = p
    · rw [e]; omega
    · exact h3 x hx (by omega)
theorem BestP.done {K l : List Int} {b : Int} (h : BestP K l 16 b) (hK : K ≠ []) (hA : AllIn K 0 15) : 0 ≤ b ∧ b ∈ K ∧ pickO K l = b := by
  rcases h with ⟨_, h2⟩ | ⟨h1, h0, h2, h3, h4⟩
  · obtain ⟨x, hx⟩ := List.exists_mem_of_ne_nil K hK
    have := h2 x hx
    have := hA x hx
    omega
  · exact ⟨h0, h1, pickO_unique hK h1 (fun x hx => h3 x hx (by have := hA x hx; omega)) h4⟩

/-! ### Walks. -/
set_option maxHeartbeats 1000000 in
theorem ahead_q (A : Option Addr) (n c : Nat) (l : List Int) (k : Nat) (x : Int) (w : World) (h : RI w A n l) (hn : n ≤ 40) (hk : k ≤ n) :
    Calls Tryd.prog 30 #[.slice A n c, .int .i64 (k : Int), .int .i64 x] w fun e w' => e = .returned (.int .i64 ((k : Int) + (((l.drop k).idxOf x : Nat) : Int))) ∧ w' = w := by
  have HL := Lib.hid h.len
  go_enter Tryd.func30, Tryd.ntmps30
  go_wp2
  go_loop [7] (fun i => ∃ j : Nat, k + j ≤ n ∧ i = .int .i64 ((k + j : Nat) : Int) ∧ Hid (x ∉ (l.drop k).take j)) (fun i => n - (intOf i).toNat)
  case atStart => exact ⟨0, by omega, by go_num, by simp [Hid]⟩
  case round =>
    obtain ⟨j, hj, rfl, HX⟩ := hrel
    generalize hm : k + j = m at *
    by_cases hlt : m < n
    · obtain ⟨ad, y, rfl, HY, hc⟩ := h.at_ hlt
      have HYD : Hid ((l.drop k)[j]? = some y) := Lib.hid (by rw [List.getElem?_drop, hm]; exact HY.out)
      by_cases he : y = x
      · subst he
        have HE : Hid (((k : Int) + (((l.drop k).idxOf y : Nat) : Int)) = m) := Lib.hid (by rw [idxOf_at HX.out HYD.out]; omega)
        have hyy : (y == y) = true := by simp
        go_wp2
        go_ret
        rw [HE.out]
        exact ⟨rfl, rfl⟩
      · have HE := Lib.hid (not_mem_take_succ HX.out HYD.out he)
        have hyy : (y == x) = false := by simp [he]
        go_wp2
        go_round
        case rel => exact ⟨j + 1, by omega, by go_num, HE⟩
        case measure => simp [intOf]; omega
    · have HE : Hid (((k : Int) + (((l.drop k).idxOf x : Nat) : Int)) = n) := Lib.hid (by
        have h1 := HX.out
        rw [List.take_of_length_le (by rw [List.length_drop]; have := HL.out; omega)] at h1
        rw [List.idxOf_eq_length h1, List.length_drop]
        have := HL.out; omega)
      go_wp2
      go_ret
      rw [HE.out]
      exact ⟨rfl, rfl⟩

/-- What larderwickref1.Opt hands back. -/
def ROptRes (w w' : World) (e : Ending) (n : Nat) (r : List Bool × List Int × List Int) : Prop :=
  ∃ A1 c1 A2 n2 c2 A3 n3 c3, e = .returned (.tuple #[.slice A1 n c1, .slice A2 n2 c2, .slice A3 n3 c3]) ∧ RB w' A1 n r.1 ∧ RI w' A2 n2 r.2.1 ∧ RI w' A3 n3 r.2.2 ∧ n2 ≤ 40 ∧ n3 ≤ 8 ∧ Below w.heap.size w w'

def ROptInv (s : Nat) (l : List Int) (w wr : World) (v7 : Value) (v8 : Value) (n8 : Nat) (v9 : Value) (n9 k : Nat) : Prop :=
  ∃ hits outs held, optT s hits outs held (l.drop k) = optR s [] l ∧ AllIn held 0 15 ∧ Row wr w.heap.size 4 v7 k (hits.map Value.bool) ∧ Row wr w.heap.size 3 v8 n8 (held.map (Value.int .i64)) ∧
    Row wr w.heap.size 3 v9 n9 (outs.map (Value.int .i64)) ∧ Apart v8.ownBlock v9.ownBlock ∧ n8 ≤ s ∧ n9 ≤ k ∧ Below w.heap.size w wr
theorem drop_atT {l : List Int} {k : Nat} {y : Int} (h : l[k]? = some y) : l.drop k = y :: l.drop (k + 1) := by
  obtain ⟨hk, rfl⟩ := List.getElem?_eq_some_iff.1 h
  exact List.drop_eq_getElem_cons hk

set_option maxRecDepth 100000 in
set_option maxHeartbeats 8000000 in
theorem ropt_ok (A : Option Addr) (n c : Nat) (l : List Int) (s : Nat) (w : World) (h : RI w A n l) (hn : n ≤ 40) (hA : AllIn l 0 15) (hs1 : 1 ≤ s) (hs2 : s ≤ 8) :
    Calls Tryd.prog 15 #[.slice A n c, .int .i64 (s : Int)] w fun e w' => ROptRes w w' e n (optR s [] l) := by
  have HL := Lib.hid h.len
  have HA := Lib.hid hA
  clear hA
  go_enter Tryd.func15, Tryd.ntmps15
  go_wp2
  go_loopw [7, 8, 9, 10, 11, 12, 13] (fun v7 v8 v9 i _ _ _ wr => ∃ k n8 c8 n9 : Nat, ∃ A8, k ≤ n ∧ i = .int .i64 k ∧ v8 = .slice A8 n8 c8 ∧ ROptInv s l w wr v7 v8 n8 v9 n9 k) (fun _ _ _ i _ _ _ _ => n - (intOf i).toNat)
  case atStart => exact ⟨0, 0, 0, 0, none, by omega, by go_num, rfl, [], [], [], by simp [optT], by simp [AllIn], Row.nil_ _ _ _, Row.nil_ _ _ _, Row.nil_ _ _ _, .inl rfl, by omega, by omega, Below.refl _ _⟩
  case round =>
    obtain ⟨k, n8, c8, n9, A8, hk, rfl, rfl, hits, outs, held, HF, hAH, R7, R8, R9, hap, hn8, hn9, hB⟩ := hrel
    have HF' := Lib.hid HF
    have HAH := Lib.hid hAH
    have HAP := Lib.hid hap
    clear HF hAH hap
    have hbs := hB.size
    by_cases hlt : k < n
    · obtain ⟨ad, y, rfl, HY, hc⟩ := (h.below hB).at_ hlt
      have HD := Lib.hid (drop_atT HY.out)
      have HYA := Lib.hid (HA.out y (mem_of_at HY.out))
      go_wp2_with fail
      refine (has_any _ _ _ _ _ _ (Row.reads R8) (by omega)).mono ?_; rintro e w' ⟨rfl, rfl⟩
      by_cases hm : y ∈ held
      · have HB := Lib.hid ((hasB_iff held y).2 hm)
        have HN : Hid (optT s (hits ++ [true]) outs held (l.drop (k + 1)) = optR s [] l) := Lib.hid (by rw [← HF'.out, HD.out, optT_hit hm])
        clear hm
        rw [HB.out]
        go_wp2_with (at_builtin; refine wpList_push _ rfl (.tmp 26) (.tmp 28) _ rfl w.heap.size 4 _ _ Tryd.underlying24 infoB rfl (by decide) _ _ _ rfl R7 (.bool true) rfl rfl (by omega) hbs ?_; intro v' w1 R7' g7)
        go_roundw
        case rel => exact ⟨k + 1, n8, c8, n9, A8, by omega, by go_num, rfl, hits ++ [true], outs, held, HN.out, HAH.out, by simpa using R7', Row.kept R8 g7 R7 (by decide), Row.kept R9 g7 R7 (by decide), HAP.out, hn8, by omega, hB.grown g7 hbs (fun b hb => (R7.lt b hb).1)⟩
        case measure => simp [intOf]; omega
      · have HB := Lib.hid ((hasB_false held y).2 hm)
        have hl8 : held.length = n8 := by have := R8.len; simpa using this
        rw [HB.out]
        by_cases hfull : n8 = s
        · have hFULL : Hid (∀ z, pickO held (l.drop k) = z → optT s (hits ++ [false]) (outs ++ [z]) (held.erase z ++ [y]) (l.drop (k + 1)) = optR s [] l) := Lib.hid (by
            intro z e1
            rw [HD.out] at e1
            rw [← HF'.out, HD.out, optT_full hm (by omega) e1])
          have HNE : Hid (held ≠ []) := Lib.hid (fun e => by rw [e] at hl8; simp at hl8; omega)
          have HLH := Lib.hid hl8
          clear hm hl8
          have hfb : ((n8 : Int) == (s : Int)) = true := by simp [hfull]
          subst hfull
          go_wp2_with (at_builtin; refine wpList_push _ rfl (.tmp 26) (.tmp 28) _ rfl w.heap.size 4 _ _ Tryd.underlying24 infoB rfl (by decide) _ _ _ rfl R7 (.bool false) rfl rfl (by omega) hbs ?_; intro v7' w1 R7' g7; have hB1 := hB.grown g7 hbs (fun b hb => (R7.lt b hb).1); have hb1 := hB1.size; have R8' := Row.kept R8 g7 R7 (by decide); have R9' := Row.kept R9 g7 R7 (by decide))
          have HR8 := Lib.hid (Row.reads R8')
          have HI1 := Lib.hid (h.below hB1)
          go_loop [12, 13] (fun v12 v13 => ∃ p : Nat, ∃ b : Int, p ≤ 16 ∧ v13 = .int .i64 p ∧ v12 = .int .i64 b ∧ -1 ≤ b ∧ b ≤ 15 ∧ Hid (BestP held (l.drop k) p b)) (fun _ v13 => 16 - (intOf v13).toNat)
          case atStart => exact ⟨0, -1, by omega, by go_num, rfl, by omega, by omega, Lib.hid (BestP.start _ _ HAH.out)⟩
          case round =>
            obtain ⟨p, b, hp, rfl, rfl, hb0, hb15, HBP⟩ := hrel
            by_cases hp16 : p < 16
            · by_cases hpm : (p : Int) ∈ held
              · have HPB := Lib.hid ((hasB_iff held p).2 hpm)
                by_cases hbn : b < 0
                · have hbe : b = -1 := by omega
                  have HN' : Hid (BestP held (l.drop k) (p + 1) p) := Lib.hid (by have := HBP.out; rw [hbe] at this; exact this.first hpm)
                  clear hpm
                  subst hbe
                  go_wp2_with fail
                  refine (has_any _ _ _ _ _ _ HR8.out (by omega)).mono ?_; rintro e w' ⟨rfl, rfl⟩
                  rw [HPB.out]
                  go_wp2
                  go_round
                  case rel => exact ⟨p + 1, p, by omega, by go_num, rfl, by omega, by omega, HN'⟩
                  case measure => simp [intOf]; omega
                · have hb : 0 ≤ b := by omega
                  by_cases hlr : (l.drop k).idxOf b < (l.drop k).idxOf (p : Int)
                  · have HN' : Hid (BestP held (l.drop k) (p + 1) p) := Lib.hid (HBP.out.more hb hpm hlr)
                    clear hpm
                    go_wp2_with fail
                    refine (has_any _ _ _ _ _ _ HR8.out (by omega)).mono ?_; rintro e w' ⟨rfl, rfl⟩
                    rw [HPB.out]
                    go_wp2_with fail
                    refine (ahead_q _ _ _ _ k _ _ HI1.out hn hk).mono ?_; rintro e w' ⟨rfl, rfl⟩
                    generalize (l.drop k).idxOf (p : Int) = ip at *
                    go_wp2_with fail
                    refine (ahead_q _ _ _ _ k _ _ HI1.out hn hk).mono ?_; rintro e w' ⟨rfl, rfl⟩
                    generalize (l.drop k).idxOf b = ib at *
                    have hgt : ((k + ib : Nat) : Int) < ((k + ip : Nat) : Int) := by omega
                    have hgt2 : (k : Int) + ib < (k : Int) + ip := by omega
                    go_wp2
                    go_round
                    case rel => exact ⟨p + 1, p, by omega, by go_num, rfl, by omega, by omega, HN'⟩
                    case measure => simp [intOf]; omega
                  · have HN' : Hid (BestP held (l.drop k) (p + 1) b) := Lib.hid (HBP.out.less hb hlr)
                    clear hpm
                    go_wp2_with fail
                    refine (has_any _ _ _ _ _ _ HR8.out (by omega)).mono ?_; rintro e w' ⟨rfl, rfl⟩
                    rw [HPB.out]
                    go_wp2_with fail
                    refine (ahead_q _ _ _ _ k _ _ HI1.out hn hk).mono ?_; rintro e w' ⟨rfl, rfl⟩
                    generalize (l.drop k).idxOf (p : Int) = ip at *
                    go_wp2_with fail
                    refine (ahead_q _ _ _ _ k _ _ HI1.out hn hk).mono ?_; rintro e w' ⟨rfl, rfl⟩
                    generalize (l.drop k).idxOf b = ib at *
                    have hgt : ¬ ((k + ib : Nat) : Int) < ((k + ip : Nat) : Int) := by omega
                    have hgt2 : ¬ (k : Int) + ib < (k : Int) + ip := by omega
                    go_wp2
                    go_round
                    case rel => exact ⟨p + 1, b, by omega, by go_num, rfl, by omega, by omega, HN'⟩
                    case measure => simp [intOf]; omega
              · have HPB := Lib.hid ((hasB_false held p).2 hpm)
                have HN' : Hid (BestP held (l.drop k) (p + 1) b) := Lib.hid (HBP.out.not_ hpm)
                clear hpm
                go_wp2_with fail
                refine (has_any _ _ _ _ _ _ HR8.out (by omega)).mono ?_; rintro e w' ⟨rfl, rfl⟩
                rw [HPB.out]
                go_wp2
                go_round
                case rel => exact ⟨p + 1, b, by omega, by go_num, rfl, hb0, hb15, HN'⟩
                case measure => simp [intOf]; omega
            · have hp' : p = 16 := by omega
              subst hp'
              obtain ⟨hbz, hbm, hpick⟩ := HBP.out.done HNE.out HAH.out
              have HN := Lib.hid (hFULL.out b hpick)
              have HEL : Hid ((held.erase b).length + 1 = n8) := Lib.hid (by rw [List.length_erase_of_mem hbm]; have := List.length_pos_of_mem hbm; have := HLH.out; omega)
              have HAE : Hid (AllIn (held.erase b ++ [y]) 0 15) := Lib.hid (fun x hx => by
                rw [List.mem_append, List.mem_singleton] at hx
                rcases hx with hx | hx
                · exact HAH.out x (List.mem_of_mem_erase hx)
                · rw [hx]; exact HYA.out)
              clear hbm hpick
              go_wp2_with (at_builtin; refine wpList_push_at _ rfl (.tmp 58) (.tmp 60) _ rfl w.heap.size 3 _ _ Tryd.underlying22 infoI rfl (by decide) _ _ _ rfl R9' (.int .i64 b) rfl rfl (by omega) hb1 ?_; intro v9' w2 R9'' g9 far9; have R8'' := Row.apart R8' g9 HAP.out; have R7'' := Row.kept R7' g9 R9' (by decide); have hB2 := hB1.grown g9 hb1 (fun b hb => (R9'.lt b hb).1); have hb2 := hB2.size)
              refine (without_ok _ _ _ _ b _ (Row.reads R8'') (by omega)).mono ?_; rintro e w3 ⟨A3, m3, c3, rfl, R3, hB3⟩
              have hm3 : m3 + 1 = n8 := by have := R3.len; have h2 := HEL.out; rw [List.length_map] at this; omega
              have hB4 := hB2.trans (hB3.mono hb2)
              have hb4 := hB4.size
              have hap3 : Apart v9'.ownBlock (Value.slice A3 m3 c3).ownBlock := by
                cases hz : (Value.slice A3 m3 c3).ownBlock with
                | none => exact Apart.symm (.inl rfl)
                | some z => exact .inr (fun e => by have h1 := (R3.lt z hz).1; have h2 := (R9''.lt z e).2; omega)
              have R3' := R3.base_down hb2
              have R7w := R7''.below hB3
              have R9w := R9''.below hB3
              have hc1 := RI.cellAt (h.below hB4) HY.out
              clear R3
              go_wp2_with (at_builtin; refine wpList_push_at _ rfl (.tmp 65) (.tmp 70) _ rfl w.heap.size 3 _ _ Tryd.underlying22 infoI rfl (by decide) _ _ _ rfl R3' (.int .i64 y) rfl rfl (by omega) hb4 ?_; intro v8' w4 R8y g8 far8)
              have F8 := Lib.hid R8y.form
              go_roundw
              case rel =>
                obtain ⟨A', c', hv, _, _⟩ := F8.out
                refine ⟨k + 1, m3 + 1, c', n9 + 1, A', by omega, by go_num, hv, hits ++ [false], outs ++ [b], _, HN.out, HAE.out, by simpa using Row.kept R7w g8 R3' (by decide), by rw [List.map_append]; exact R8y, by simpa using Row.apart R9w g8 hap3, (Apart.far hap3 far8 (fun b hb => (R9w.lt b hb).2)).symm, by omega, by omega, hB4.grown g8 hb4 (fun b hb => (R3'.lt b hb).1)⟩
              case measure => simp [intOf]; omega
        · have HN : Hid (optT s (hits ++ [false]) outs (held ++ [y]) (l.drop (k + 1)) = optR s [] l) := Lib.hid (by rw [← HF'.out, HD.out, optT_room hm (by omega)])
          have HAE : Hid (AllIn (held ++ [y]) 0 15) := Lib.hid (fun x hx => by
            rw [List.mem_append, List.mem_singleton] at hx
            rcases hx with hx | hx
            · exact HAH.out x hx
            · rw [hx]; exact HYA.out)
          have hfb : ((n8 : Int) == (s : Int)) = false := by simp; omega
          clear hm hl8
          go_wp2_with (first
            | (at_builtin; refine wpList_push _ rfl (.tmp 26) (.tmp 28) _ rfl w.heap.size 4 _ _ Tryd.underlying24 infoB rfl (by decide) _ _ _ rfl R7 (.bool false) rfl rfl (by omega) hbs ?_; intro v7' w1 R7' g7
               have R8' := Row.kept R8 g7 R7 (by decide)
               have R9' := Row.kept R9 g7 R7 (by decide)
               have hB1 := hB.grown g7 hbs (fun b hb => (R7.lt b hb).1)
               have hb1 := hB1.size
               have hc1 := RI.cellAt (h.below hB1) HY.out)
            | (at_builtin; refine wpList_push_at _ rfl (.tmp 65) (.tmp 70) _ rfl w.heap.size 3 _ _ Tryd.underlying22 infoI rfl (by decide) _ _ _ rfl R8' (.int .i64 y) rfl rfl (by omega) hb1 ?_; intro v8' w2 R8'' g8 far8))
          have F8 := Lib.hid R8''.form
          go_roundw
          case rel =>
            obtain ⟨A', c', hv, _, _⟩ := F8.out
            refine ⟨k + 1, n8 + 1, c', n9, A', by omega, by go_num, hv, hits ++ [false], outs, _, HN.out, HAE.out, by simpa using Row.kept R7' g8 R8' (by decide), by rw [List.map_append]; exact R8'', Row.apart R9' g8 HAP.out.symm, (Apart.far HAP.out.symm far8 (fun b hb => (R9'.lt b hb).2)).symm, by omega, by omega, hB1.grown g8 hb1 (fun b hb => (R8'.lt b hb).1)⟩
          case measure => simp [intOf]; omega
    · have HE := Lib.hid (show k = n by omega)
      have HEND : Hid (optR s [] l = (hits, outs, sortI held)) := Lib.hid (by
        rw [← HF'.out, List.drop_eq_nil_of_le (show l.length ≤ k by have := HL.out; omega), optT_nil])
      have HSL := Lib.hid (sortI_len held)
      have hl8 : held.length = n8 := by have := R8.len; simpa using this
      have HLH := Lib.hid hl8
      clear hl8
      go_wp2_with fail
      refine (rising_ok _ _ _ _ _ (Row.reads R8) (by omega)).mono ?_; rintro e w2 ⟨A3, m3, c3, rfl, R3, hB3⟩
      obtain rfl : m3 = n8 := by have := R3.len; have h2 := HSL.out; have h3 := HLH.out; rw [List.length_map] at this; omega
      have F7 := Lib.hid R7.form
      have F9 := Lib.hid R9.form
      go_wp2
      obtain ⟨A1, c1, hv7, _, _⟩ := F7.out
      obtain ⟨A2, c2, hv9, _, _⟩ := F9.out
      refine bodyPost_ret (v := .tuple #[u7, u9, .slice A3 m3 c3]) (by simp [results, Tryd.results15, go_sem]) rfl ?_
      rw [HEND.out]
      rw [hv7] at R7
      rw [hv9] at R9
      refine ⟨A1, c1, A2, n9, c2, A3, m3, c3, ?_, ?_, Row.reads (R9.below hB3), Row.reads R3, by omega, by omega, hB.trans (hB3.mono hbs)⟩
      · rw [hv7, hv9, HE.out]
      · rw [← HE.out]; exact Row.readsB (R7.below hB3)
end Go.Proofs.YtpamnnnihfjdkaaDoor
