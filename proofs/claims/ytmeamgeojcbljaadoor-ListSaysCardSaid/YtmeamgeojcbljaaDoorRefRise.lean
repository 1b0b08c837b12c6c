/- The walks of larderwickref1.Without and .Rising: what each returns. -/
import Derived.Test.YtmeamgeojcbljaaDoorRefPages
import Derived.Test.YtmeamgeojcbljaaDoorInfo
import Derived.Test.YtmeamgeojcbljaaDoorOptRun
import Derived.Deep.LoopGhost
import Derived.Outline
namespace Go.Proofs.YtmeamgeojcbljaaDoor
open Go.ChangeShapes Go.WideShapes Go.ChangeAt Go.RowKit

theorem Row.base_down {w : World} {base base' : Nat} {e : TypeId} {v : Value} {n : Nat} {xs : List Value} (h : Row w base e v n xs) (hb : base' ≤ base) : Row w base' e v n xs := by
  refine ⟨h.1, ?_⟩
  rcases h.2 with hn | ⟨g, cap, cur, rfl, hb', rest⟩
  · exact .inl hn
  · exact .inr ⟨g, cap, cur, rfl, by omega, rest⟩
theorem erase_snoc_not {L : List Int} {x y : Int} (h : x ∉ L) (hy : ¬ y = x) : (L ++ [y]).erase x = L ++ [y] := by
  rw [List.erase_of_not_mem]
  rw [List.mem_append, List.mem_singleton]
  rintro (a | a)
  · exact h a
  · exact hy a.symm
theorem erase_snoc_at {L : List Int} {x : Int} (h : x ∉ L) : (L ++ [x]).erase x = L := by
  rw [List.erase_append_right _ h]; simp
theorem erase_snoc_in {L : List Int} {x y : Int} (h : x ∈ L) : (L ++ [y]).erase x = L.erase x ++ [y] := List.erase_append_left _ h

/-- A row of this call's own that reads as a list. -/
def RowE (w w' : World) (e : Ending) (out : List Int) : Prop :=
  ∃ A1 m c1, e = .returned (.slice A1 m c1) ∧ Row w' w.heap.size 3 (.slice A1 m c1) m (out.map (Value.int .i64)) ∧ Below w.heap.size w w'

set_option maxHeartbeats 1000000 in
theorem without_ok (A : Option Addr) (n c : Nat) (l : List Int) (x : Int) (w : World) (h : RI w A n l) (hn : n ≤ 1000) :
    Calls Tryd.prog 69 #[.slice A n c, .int .i64 x] w fun e w' => RowE w w' e (l.erase x) := by
  have HL := Lib.hid h.len
  go_enter Tryd.func69, Tryd.ntmps69
  go_wp2
  go_loopw [5, 6, 7] (fun v5 b i wr => ∃ k m : Nat, ∃ gone : Bool, k ≤ n ∧ m ≤ k ∧ i = .int .i64 k ∧ b = .bool gone ∧ Hid (gone = true ↔ x ∈ l.take k) ∧ Row wr w.heap.size 3 v5 m (((l.take k).erase x).map (Value.int .i64)) ∧ Below w.heap.size w wr) (fun _ _ i _ => n - (intOf i).toNat)
  case atStart => exact ⟨0, 0, false, by omega, by omega, by go_num, rfl, by simp [Hid], by simpa using Row.nil_ _ _ _, Below.refl _ _⟩
  case round =>
    obtain ⟨k, m, gone, hk, hm, rfl, rfl, HG, R5, hB⟩ := hrel
    have hbs := hB.size
    by_cases hlt : k < n
    · obtain ⟨ad, y, rfl, HY, hc⟩ := (h.below hB).at_ hlt
      have HM := Lib.hid (mem_take_succ (y := x) HY.out)
      have HT := Lib.hid (take_succ_of HY.out)
      cases gone
      · have hnx : x ∉ l.take k := fun hh => by have := HG.out.2 hh; cases this
        by_cases he : y = x
        · have HE : Hid ((l.take (k + 1)).erase x = (l.take k).erase x) := Lib.hid (by rw [HT.out, he, erase_snoc_at hnx, List.erase_of_not_mem hnx])
          have HG' : Hid (true = true ↔ x ∈ l.take (k + 1)) := Lib.hid (by rw [HM.out]; simp [he])
          have hb : (y == x) = true := by simp [he]
          subst he
          clear hnx
          go_wp2
          go_roundw
          case rel => exact ⟨k + 1, m, true, by omega, by omega, by go_num, rfl, HG', by rw [HE.out]; exact R5, hB⟩
          case measure => simp [intOf]; omega
        · have HE : Hid ((l.take (k + 1)).erase x = (l.take k).erase x ++ [y]) := Lib.hid (by rw [HT.out, erase_snoc_not hnx he, List.erase_of_not_mem hnx])
          have HG' : Hid (false = true ↔ x ∈ l.take (k + 1)) := Lib.hid (by rw [HM.out]; simp [hnx, Ne.symm he])
          have hb : (y == x) = false := by simp [he]
          clear hnx
          go_wp2_with (at_builtin; refine wpList_push _ rfl (.tmp 24) (.tmp 29) _ rfl w.heap.size 3 _ _ Tryd.underlying22 infoI rfl (by decide) _ _ _ rfl R5 (.int .i64 y) rfl rfl (by omega) hbs ?_; intro v' w1 R5' g5)
          go_roundw
          case rel => exact ⟨k + 1, m + 1, false, by omega, by omega, by go_num, rfl, HG', by rw [HE.out, List.map_append]; exact R5', hB.grown g5 hbs (fun b hb => (R5.lt b hb).1)⟩
          case measure => simp [intOf]; omega
      · have hx : x ∈ l.take k := HG.out.1 rfl
        have HE : Hid ((l.take (k + 1)).erase x = (l.take k).erase x ++ [y]) := Lib.hid (by rw [HT.out, erase_snoc_in hx])
        have HG' : Hid (true = true ↔ x ∈ l.take (k + 1)) := Lib.hid (by rw [HM.out]; simp [hx])
        clear hx
        obtain ⟨bb, hb⟩ : ∃ bb, (y == x) = bb := ⟨_, rfl⟩
        cases bb
        all_goals
          go_wp2_with (at_builtin; refine wpList_push _ rfl (.tmp 24) (.tmp 29) _ rfl w.heap.size 3 _ _ Tryd.underlying22 infoI rfl (by decide) _ _ _ rfl R5 (.int .i64 y) rfl rfl (by omega) hbs ?_; intro v' w1 R5' g5)
          go_roundw
          case rel => exact ⟨k + 1, m + 1, true, by omega, by omega, by go_num, rfl, HG', by rw [HE.out, List.map_append]; exact R5', hB.grown g5 hbs (fun b hb => (R5.lt b hb).1)⟩
          case measure => simp [intOf]; omega
    · have HE : Hid ((l.take k).erase x = l.erase x) := Lib.hid (by rw [List.take_of_length_le (by have := HL.out; omega)])
      have F5 := Lib.hid R5.form
      go_wp2
      go_ret
      obtain ⟨A1, c1, hv, _, _⟩ := F5.out
      rw [hv, HE.out] at R5
      exact ⟨A1, m, c1, by rw [hv]; rfl, R5, hB⟩

theorem sorted_snoc {O : List Int} {z : Int} (hO : O.Pairwise (· ≤ ·)) (h : ∀ o ∈ O, o ≤ z) : (O ++ [z]).Pairwise (· ≤ ·) := by
  rw [List.pairwise_append]
  exact ⟨hO, by simp, fun a ha b hb => by rw [List.mem_singleton] at hb; subst hb; exact h a ha⟩

def RiseInv (l O R : List Int) : Prop := O.Pairwise (· ≤ ·) ∧ (∀ o ∈ O, ∀ r ∈ R, o ≤ r) ∧ (O ++ R).Perm l
theorem RiseInv.step {l O R : List Int} (h : RiseInv l O R) {z : Int} (hz : z ∈ R) (hmin : ∀ r ∈ R, z ≤ r) : RiseInv l (O ++ [z]) (R.erase z) := by
  refine ⟨sorted_snoc h.1 (fun o ho => h.2.1 o ho z hz), fun o ho r hr => ?_, ?_⟩
  · rw [List.mem_append, List.mem_singleton] at ho
    have hr' := List.mem_of_mem_erase hr
    rcases ho with ho | ho
    · exact h.2.1 o ho r hr'
    · rw [ho]; exact hmin r hr'
  · rw [List.append_assoc]
    exact ((List.perm_cons_erase hz).symm.append_left O).trans h.2.2
theorem RiseInv.done {l O : List Int} (h : RiseInv l O []) : O = sortI l := by
  have := sortI_of (h.2.2.symm.trans (by simp)) h.1
  exact this.symm

set_option maxHeartbeats 2000000 in
theorem rising_ok (A : Option Addr) (n c : Nat) (l : List Int) (w : World) (h : RI w A n l) (hn : n ≤ 1000) :
    Calls Tryd.prog 56 #[.slice A n c] w fun e w' => RowE w w' e (sortI l) := by
  have HL := Lib.hid h.len
  go_enter Tryd.func56, Tryd.ntmps56
  go_wp2
  go_loopg [0, 3, 4, 5] n (fun gg v0 v3 _ _ wr => ∃ g m c0 : Nat, ∃ A0, ∃ O R : List Int, g = gg ∧ g + m = n ∧ v0 = .slice A0 g c0 ∧ RI wr A0 g R ∧ Row wr w.heap.size 3 v3 m (O.map (Value.int .i64)) ∧ Hid (RiseInv l O R) ∧ Hid (∀ ad, A0 = some ad → some ad.block ≠ v3.ownBlock) ∧ Below w.heap.size w wr)
  case atStart => exact ⟨n, 0, c, A, [], l, rfl, by omega, rfl, h, by simpa using Row.nil_ _ _ _, Lib.hid ⟨by simp, by simp, by simp⟩, Lib.hid (fun ad _ he => by cases he), Below.refl _ _⟩
  case round =>
    obtain ⟨g, m, c0, A0, O, R, rfl, hgm, rfl, I0, R3, HI, HAP, hB⟩ := hrel
    have hbs := hB.size
    by_cases hg : 0 < g
    · obtain ⟨ad, y0, rfl, HY0, hc0⟩ := I0.at_ hg
      rw [show ad.add 0 = ad from by simp [Addr.add]] at hc0
      have HRL := Lib.hid I0.len
      have hgi : (0 : Int) < g := by omega
      go_wp2
      go_loop [4, 5] (fun v4 i => ∃ j : Nat, ∃ z, j ≤ g ∧ i = .int .i64 j ∧ v4 = .int .i64 z ∧ Hid (z ∈ R ∧ ∀ r ∈ R.take j, z ≤ r)) (fun _ i => g - (intOf i).toNat)
      case atStart => exact ⟨0, y0, by omega, by go_num, rfl, Lib.hid ⟨mem_of_at HY0.out, by simp⟩⟩
      case round =>
        obtain ⟨j, z, hj, rfl, rfl, HZ⟩ := hrel
        by_cases hjg : j < g
        · obtain ⟨ad', y, had, HY, hc⟩ := I0.at_ hjg
          injection had with had
          subst had
          by_cases hlt : y < z
          · have HZ' : Hid (y ∈ R ∧ ∀ r ∈ R.take (j + 1), y ≤ r) := Lib.hid ⟨mem_of_at HY.out, fun r hr => by
              rw [take_succ_of HY.out, List.mem_append, List.mem_singleton] at hr
              rcases hr with hr | hr
              · have := HZ.out.2 r hr; omega
              · omega⟩
            go_wp2
            go_round
            case rel => exact ⟨j + 1, y, by omega, by go_num, rfl, HZ'⟩
            case measure => simp [intOf]; omega
          · have HZ' : Hid (z ∈ R ∧ ∀ r ∈ R.take (j + 1), z ≤ r) := Lib.hid ⟨HZ.out.1, fun r hr => by
              rw [take_succ_of HY.out, List.mem_append, List.mem_singleton] at hr
              rcases hr with hr | hr
              · exact HZ.out.2 r hr
              · omega⟩
            go_wp2
            go_round
            case rel => exact ⟨j + 1, z, by omega, by go_num, rfl, HZ'⟩
            case measure => simp [intOf]; omega
        · have HE : Hid (∀ r ∈ R, z ≤ r) := Lib.hid (fun r hr => by
            have := HZ.out.2
            rw [List.take_of_length_le (by have := HRL.out; omega)] at this
            exact this r hr)
          have HS : Hid (RiseInv l (O ++ [z]) (R.erase z)) := Lib.hid (HI.out.step HZ.out.1 HE.out)
          have HEL : Hid ((R.erase z).length + 1 = g) := Lib.hid (by rw [List.length_erase_of_mem HZ.out.1]; have := HRL.out; omega)
          go_wp2_with (at_builtin; refine wpList_push _ rfl (.tmp 28) (.tmp 30) _ rfl w.heap.size 3 _ _ Tryd.underlying22 infoI rfl (by decide) _ _ _ rfl R3 (.int .i64 z) rfl rfl (by omega) hbs ?_; intro v3' w1 R3' g3)
          have I1 : RI w1 (some ad) g R := RI.row I0 g3 HAP.out
          have L3 := Lib.hid R3'.lt
          have hB1 := hB.grown g3 hbs (fun b hb => (R3.lt b hb).1)
          have hb1 := hB1.size
          refine (without_ok _ _ _ _ z _ I1 (by omega)).mono ?_; rintro e w2 ⟨A2, m2, c2, rfl, R2, hB2⟩
          have R3'' := R3'.below hB2
          have hm2 : m2 + 1 = g := by have := R2.len; have h2 := HEL.out; rw [List.length_map] at this; omega
          go_wp2
          go_roundg m2
          case measure => omega
          case rel => exact ⟨m2, m + 1, c2, A2, O ++ [z], R.erase z, rfl, by omega, rfl, Row.reads R2, by rw [List.map_append]; exact R3'', HS, Lib.hid (fun ad2 h2 he => by
            subst h2
            have h3 := (R2.lt ad2.block rfl).1
            have h4 := (L3.out ad2.block he.symm).2
            omega), hB1.trans (hB2.mono hb1)⟩
    · have hg0 : g = 0 := by omega
      subst hg0
      have HE : Hid (O = sortI l) := Lib.hid (by
        have hR : R = [] := List.eq_nil_of_length_eq_zero I0.len
        have := HI.out
        rw [hR] at this
        exact this.done)
      have F3 := Lib.hid R3.form
      go_wp2
      go_ret
      obtain ⟨A1, c1, hv, _, _⟩ := F3.out
      rw [hv, HE.out] at R3
      exact ⟨A1, m, c1, by rw [hv]; rfl, R3, hB⟩
end Go.Proofs.YtmeamgeojcbljaaDoor
