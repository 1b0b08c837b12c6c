/- The walks of larderwickref1.Last and .Set: what each returns. -/
import Derived.Test.YtmeamgeojcbljaaDoorRefPages
import Derived.Test.YtmeamgeojcbljaaDoorInfo
import Derived.Test.YtmeamgeojcbljaaDoorWsetMore
import Derived.Outline
namespace Go.Proofs.YtmeamgeojcbljaaDoor
open Go.ChangeShapes Go.WideShapes Go.ChangeAt Go.RowKit

theorem or_add : ∀ (p m : Nat), m.testBit p = false → m ||| 2 ^ p = m + 2 ^ p := by
  intro p
  induction p with
  | zero =>
    intro m h
    have h0 : m % 2 = 0 := by rw [Nat.testBit_zero] at h; simpa using h
    have e1 : (m ||| 2 ^ 0) / 2 = m / 2 := by
      rw [Nat.or_div_two]; simp
    have e2 : (m ||| 2 ^ 0) % 2 = 1 := by simp [Nat.or_mod_two_eq_one]
    simp only [Nat.pow_zero] at *
    omega
  | succ p ih =>
    intro m h
    have h1 := ih (m / 2) (by rw [Nat.testBit_div_two]; exact h)
    have h2 := or_bit_div m p
    have h3 := or_bit_mod m p
    rw [h1] at h2
    have : 2 ^ (p + 1) = 2 * 2 ^ p := by rw [Nat.pow_succ, Nat.mul_comm]
    omega
/-- Powers of two, together. -/
def powSum (l : List Int) : Nat := l.foldl (fun m x => m + 2 ^ x.toNat) 0
theorem powSum_snoc (l : List Int) (y : Int) : powSum (l ++ [y]) = powSum l + 2 ^ y.toNat := by unfold powSum; rw [List.foldl_append]; rfl
theorem powSum_mask (l : List Int) (h : AllIn l 0 15) (hn : l.Nodup) : powSum l = mask l := by
  induction l using list_snoc_ind with
  | h0 => rfl
  | h1 l y ih =>
    rw [List.nodup_append] at hn
    have hy := h y (by simp)
    have hl : AllIn l 0 15 := fun x hx => h x (by simp [hx])
    have hny : y ∉ l := fun hh => hn.2.2 y hh y (by simp) rfl
    rw [powSum_snoc, mask_snoc, ih hl hn.1, or_add]
    rw [mask_bit l hl y hy.1]
    exact (hasB_false _ _).2 hny
theorem mask_ext {a b : List Int} (ha : AllIn a 0 15) (hb : AllIn b 0 15) (h : ∀ x, x ∈ a ↔ x ∈ b) : mask a = mask b := by
  apply Nat.eq_of_testBit_eq
  intro i
  have h1 := mask_bit a ha (i : Int) (by omega)
  have h2 := mask_bit b hb (i : Int) (by omega)
  rw [Int.toNat_natCast] at h1 h2
  rw [h1, h2, Bool.eq_iff_iff, hasB_iff, hasB_iff]
  exact h i
/-- The set of the last requests, as larderwickref1.Last tells it. -/
def lastD (l : List Int) (at_ u : Nat) : List Int := dd (lastW (l.take at_) u).reverse
theorem mem_lastD (l : List Int) (k u : Nat) (x : Int) : x ∈ lastD l k u ↔ x ∈ lastW (l.take k) u := by unfold lastD; rw [mem_dd, List.mem_reverse]
theorem lastD_nodup (l : List Int) (k u : Nat) : (lastD l k u).Nodup := dd_nodup' _
theorem lastD_in {l : List Int} (h : AllIn l 0 15) (k u : Nat) : AllIn (lastD l k u) 0 15 := fun x hx => h x (List.mem_of_mem_take (lastW_mem ((mem_lastD l k u x).1 hx)))
theorem lastD_len (l : List Int) (k u : Nat) : (lastD l k u).length = someN (lastW (l.take k) u) := by
  have : (lastD l k u).Perm (dd (lastW (l.take k) u)) := (List.perm_ext_iff_of_nodup (lastD_nodup l k u) (dd_nodup' _)).2 (fun x => by rw [mem_lastD, mem_dd])
  exact this.length_eq
theorem lastD_pow {l : List Int} (h : AllIn l 0 15) (k u : Nat) : powSum (lastD l k u) = mask (lastW (l.take k) u) := by
  rw [powSum_mask _ (lastD_in h k u) (lastD_nodup l k u)]
  exact mask_ext (lastD_in h k u) (fun x hx => h x (List.mem_of_mem_take (lastW_mem hx))) (mem_lastD l k u)
theorem lastD_has (l : List Int) (k u : Nat) (y : Int) : hasB (lastD l k u) y = hasB (lastW (l.take k) u) y := by
  rw [Bool.eq_iff_iff, hasB_iff, hasB_iff, mem_lastD]

set_option maxHeartbeats 1000000 in
theorem last_ok (A : Option Addr) (n c : Nat) (l : List Int) (at_ u : Nat) (w : World) (h : RI w A n l) (hn : n ≤ 40) (hat : at_ ≤ n) (hu1 : 1 ≤ u) (hu2 : u ≤ 40) :
    Calls Tryd.prog 19 #[.slice A n c, .int .i64 (at_ : Int), .int .i64 (u : Int)] w fun e w' =>
      ∃ A1 m c1, e = .returned (.slice A1 m c1) ∧ Row w' w.heap.size 3 (.slice A1 m c1) m ((lastD l at_ u).map (Value.int .i64)) ∧ m ≤ 40 ∧ Below w.heap.size w w' := by
  have HL := Lib.hid h.len
  have HLEN : Hid ((lastW (l.take at_) u).reverse.length = min at_ u) := Lib.hid (by
    unfold lastW
    rw [List.length_reverse, List.length_drop, List.length_take]; have := HL.out; omega)
  have HRAT : Hid (∀ (i j : Nat) (z : Int), l[i]? = some z → i + j + 1 = at_ → j < u → (lastW (l.take at_) u).reverse[j]? = some z) := Lib.hid (fun i j z hz hij hju => by
    have hil := (List.getElem?_eq_some_iff.1 hz).1
    have hl := HL.out
    unfold lastW
    rw [List.getElem?_reverse (by rw [List.length_drop, List.length_take]; omega), List.getElem?_drop, List.getElem?_take]
    rw [List.length_drop, List.length_take]
    rw [if_pos (by omega), show min at_ l.length - u + (min at_ l.length - (min at_ l.length - u) - 1 - j) = i by omega]
    exact hz)
  have HD0 : Hid (lastD l at_ u = dd (lastW (l.take at_) u).reverse) := Lib.hid rfl
  generalize (lastW (l.take at_) u).reverse = L at *
  go_enter Tryd.func19, Tryd.ntmps19
  go_wp2
  go_loopw [7, 8] (fun v7 i wr => ∃ j r n7 c7 : Nat, ∃ A7, r + j = at_ ∧ j ≤ u ∧ i = .int .i64 ((r : Int) - 1) ∧ v7 = .slice A7 n7 c7 ∧ n7 ≤ j ∧ Row wr w.heap.size 3 (.slice A7 n7 c7) n7 ((dd (L.take j)).map (Value.int .i64)) ∧ Below w.heap.size w wr) (fun _ i _ => (intOf i + 1).toNat)
  case atStart => exact ⟨0, at_, 0, 0, none, by omega, by omega, by go_num, rfl, by omega, by simpa [dd] using Row.nil_ _ _ _, Below.refl _ _⟩
  case round =>
    obtain ⟨j, r, n7, c7, A7, hrj, hju, rfl, rfl, hn7, R7, hB⟩ := hrel
    rcases r with _ | r
    · have HE : Hid (L.take j = L) := Lib.hid (List.take_of_length_le (by have := HLEN.out; omega))
      go_wp2
      go_ret
      rw [HD0.out, ← HE.out]
      exact ⟨A7, n7, c7, rfl, R7, by omega, hB⟩
    · have e1 : (((r + 1 : Nat) : Int) - 1) = r := by omega
      rw [e1]
      clear e1
      have hbs := hB.size
      by_cases hlu : j < u
      · obtain ⟨ad, z, rfl, HZ, hc⟩ := (h.below hB).at_ (show r < n by omega)
        have HA := Lib.hid (HRAT.out r j z HZ.out (by omega) hlu)
        have hge : (at_ : Int) - u ≤ r := by omega
        by_cases hm : z ∈ dd (L.take j)
        · have HB := Lib.hid ((hasB_iff _ _).2 hm)
          have HD : Hid (dd (L.take (j + 1)) = dd (L.take j)) := Lib.hid (by rw [take_succ_of HA.out, dd_snoc, if_pos hm])
          clear hm
          go_wp2_with fail
          refine (has_any _ _ _ _ _ _ (Row.reads R7) (by omega)).mono ?_; rintro e w' ⟨rfl, rfl⟩
          rw [HB.out]
          go_wp2
          go_roundw
          case rel => exact ⟨j + 1, r, n7, c7, A7, by omega, by omega, by go_num, rfl, by omega, by rw [HD.out]; exact R7, hB⟩
          case measure => simp [intOf] <;> omega
        · have HB := Lib.hid ((hasB_false _ _).2 hm)
          have HD : Hid (dd (L.take (j + 1)) = dd (L.take j) ++ [z]) := Lib.hid (by rw [take_succ_of HA.out, dd_snoc, if_neg hm])
          clear hm
          go_wp2_with fail
          refine (has_any _ _ _ _ _ _ (Row.reads R7) (by omega)).mono ?_; rintro e w' ⟨rfl, rfl⟩
          rw [HB.out]
          go_wp2_with (at_builtin; refine wpList_push _ rfl (.tmp 29) (.tmp 34) _ rfl w.heap.size 3 _ _ Tryd.underlying22 infoI rfl (by decide) _ _ _ rfl R7 (.int .i64 z) rfl rfl (by omega) hbs ?_; intro v' w1 R7' g7)
          have F7 := Lib.hid R7'.form
          go_roundw
          case rel =>
            obtain ⟨A', c', hv, _, _⟩ := F7.out
            refine ⟨j + 1, r, n7 + 1, c', A', by omega, by omega, by go_num, hv, by omega, ?_, hB.grown g7 hbs (fun b hb => (R7.lt b hb).1)⟩
            rw [HD.out, ← hv, List.map_append]; exact R7'
          case measure => simp [intOf] <;> omega
      · have hge : ¬ (at_ : Int) - u ≤ r := by omega
        have HE : Hid (L.take j = L) := Lib.hid (List.take_of_length_le (by have := HLEN.out; omega))
        go_wp2
        go_ret
        rw [HD0.out, ← HE.out]
        exact ⟨A7, n7, c7, rfl, R7, by omega, hB⟩

theorem pow_le15 {k : Nat} (h : k ≤ 15) : 2 ^ k ≤ 32768 := by
  have : 2 ^ k ≤ 2 ^ 15 := Nat.pow_le_pow_right (by omega) h
  simpa using this
set_option maxHeartbeats 1000000 in
theorem rset_q (A : Option Addr) (n c : Nat) (l : List Int) (w : World) (h : RI w A n l) (hn : n ≤ 40) (ha : AllIn l 0 15) :
    Calls Tryd.prog 20 #[.slice A n c] w fun e w' => e = .returned (.int .i64 ((powSum l : Nat) : Int)) ∧ w = w' := by
  have HL := Lib.hid h.len
  have HA := Lib.hid ha
  clear ha
  go_enter Tryd.func20, Tryd.ntmps20
  go_wp2
  go_loop [3, 4, 5, 6] (fun s i _ _ => ∃ k m : Nat, k ≤ n ∧ i = .int .i64 k ∧ s = .int .i64 (m : Int) ∧ m ≤ k * 32768 ∧ Hid (powSum (l.take k) = m)) (fun _ i _ _ => n - (intOf i).toNat)
  case atStart => exact ⟨0, 0, by omega, by go_num, by go_num, by omega, by simp [Hid, powSum]⟩
  case round =>
    obtain ⟨k, m, hk, rfl, rfl, hm, HM⟩ := hrel
    by_cases hlt : k < n
    · obtain ⟨ad, y, rfl, HY, hc⟩ := h.at_ hlt
      obtain ⟨y0, y1⟩ := HA.out y (mem_of_at HY.out)
      obtain ⟨q, rfl⟩ : ∃ q : Nat, y = q := ⟨y.toNat, by omega⟩
      have hpq := pow_le15 (show q ≤ 15 by omega)
      have HS : Hid (powSum (l.take (k + 1)) = m + 2 ^ q) := Lib.hid (by rw [take_succ_of HY.out, powSum_snoc, HM.out, Int.toNat_natCast])
      have HPP : Hid (∀ j : Nat, 2 ^ (j + 1) = 2 * 2 ^ j ∧ (j ≤ 15 → 2 ^ j ≤ 32768)) := Lib.hid (fun j => ⟨by rw [Nat.pow_succ, Nat.mul_comm], pow_le15⟩)
      go_wp2
      go_loop [5, 6] (fun p j => ∃ t pw : Nat, t ≤ q ∧ j = .int .i64 t ∧ p = .int .i64 (pw : Int) ∧ pw ≤ 32768 ∧ Hid (2 ^ t = pw)) (fun _ j => q - (intOf j).toNat)
      case atStart => exact ⟨0, 1, by omega, by go_num, by go_num, by omega, by simp [Hid]⟩
      case round =>
        obtain ⟨t, pw, ht, rfl, rfl, hpw, HP⟩ := hrel
        by_cases hlt' : t < q
        · have hti : (t : Int) < q := by omega
          have HP' : Hid (2 ^ (t + 1) = pw * 2) := Lib.hid (by rw [(HPP.out t).1, HP.out]; omega)
          have hb : pw * 2 ≤ 32768 := by have := (HPP.out (t + 1)).2 (by omega); rw [HP'.out] at this; exact this
          go_wp2
          go_round
          case rel => exact ⟨t + 1, pw * 2, by omega, by go_num, by go_num, hb, HP'⟩
          case measure => simp [intOf]; omega
        · have htq : t = q := by omega
          have hti : ¬ (t : Int) < q := by omega
          have HE : Hid (powSum (l.take (k + 1)) = m + pw) := Lib.hid (by rw [HS.out, ← htq, HP.out])
          go_wp2
          go_round
          case rel => exact ⟨k + 1, m + pw, by omega, by go_num, by go_num, by omega, HE⟩
          case measure => simp [intOf]; omega
    · have HE : Hid (powSum l = m) := Lib.hid (by have := HM.out; rwa [List.take_of_length_le (by have := HL.out; omega)] at this)
      go_wp2
      go_ret
      rw [HE.out]
      exact ⟨rfl, rfl⟩
end Go.Proofs.YtmeamgeojcbljaaDoor
