/- core.Memo at uint: what Less does. -/
import Derived.Test.YtmeamgeojcbljaaDoorMemoKeyU
import Derived.Test.YtmeamgeojcbljaaDoorInfo
namespace Go.Proofs.YtmeamgeojcbljaaDoor
open Go.RowKit Go.Maps Go.ChangeAt

abbrev MemoU (W : World) (p : Nat) (mb : Option Nat) (L : List (Int × Int)) : Prop := Memo Tryd.prog 68 3 82 litU okU W p mb L

/-- What Less leaves. -/
def LessResU (w w' : World) (p : Nat) (mb : Option Nat) (L : List (Int × Int)) (x : Int) (c : Int) : Prop :=
  ∃ mb', MemoU w' p mb' (lessL L x c) ∧ (mb' = mb ∨ (mb = none ∧ ∃ b', mb' = some b' ∧ w.heap.size ≤ b')) ∧ Turned (memoS p mb) w w'

theorem eqNilU (r : Option Nat) (w : World) : (binOp .eql 80 (.map r) (.map none)).run Tryd.prog w = .ok (.bool r.isNone) w := by
  cases r <;> kernel_rfl
theorem zeroIU (w : World) : (zeroValue 3).run Tryd.prog w = .ok (.int .i64 0) w := Tryd.zeroValue3 w

set_option maxRecDepth 100000 in
set_option maxHeartbeats 1000000 in
theorem less_U_some (p b : Nat) (L : List (Int × Int)) (x : Int) (c : Int) (w : World) (hM : MemoU w p (some b) L) (hx : okU x) (hc : (Lit.int .i64 c).wf = true) (hn : L.length ≤ 1048576) :
    Calls Tryd.prog 62 #[.pointer (some ⟨p, 0, none⟩), encU x, .int .i64 c] w fun e w' => e = .returned (.bool (lessB L x c)) ∧ LessResU w w' p (some b) L x c := by
  have hkey := keyRdU.key x hx
  have heq := eqNilU
  have hc0 := hM.1.cell
  have hf0 := hM.1.frozen
  have hMb := Lib.hid hM
  obtain ⟨hbox, hg, es, hperm, hown⟩ := hM
  have hl : L.length < maxLen := by have : maxLen = 9223372036854775807 := rfl; omega
  have hgd := Lib.hid hg
  have hpm := Lib.hid hperm
  clear hg hperm hbox
  go_enter Tryd.func62, Tryd.ntmps62
  go_wp2_with (first
    | (at_lookup; refine wpList_lookup_own_ok_int _ rfl _ _ 80 rfl 68 3 .i64 keyRdU.law Tryd.underlying80 Tryd.underlying3 (zeroIU _) b L.length _ rfl hown _ _ rfl hkey ?_; intro old hat hwc; have hatH := Lib.hid hat; clear hat)
    | (at_mapUpdate; refine wpList_mapUpdate_own _ rfl _ _ _ 80 rfl 68 3 keyRdU.law Tryd.underlying80 _ b L.length _ rfl hown hl _ _ _ rfl rfl hkey _ [] (plainElem_int Tryd.underlying3 hc) ?_; intro w1 hown1 hgrow1)
    | fail)
  · rename_i h1 h2
    have hin := look_yes keyRdU hgd hpm hx h1 hatH
    have hex : ∃ p ∈ L, p.1 = x ∧ p.2 ≤ c := ⟨_, hin, rfl, h2⟩
    go_ret
    exact ⟨by simp [lessB, hex], some b, by rw [lessL, if_pos hex]; exact hMb, .inl rfl, .refl _ _⟩
  · rename_i h1 h2
    have hin := look_yes keyRdU hgd hpm hx h1 hatH
    have hno : ¬ ∃ p ∈ L, p.1 = x ∧ p.2 ≤ c := by
      rintro ⟨q, hq, e1, e2⟩
      have := pair_of_nodup hgd.1 hq hin e1
      subst this
      exact absurd e2 (by show ¬ old ≤ c; omega)
    go_ret
    have := Memo.less keyRdU hMb.1 hgd hpm hown hx hc hno hown1 hgrow1
    exact ⟨by simp only [lessB, hno]; rfl, some b, this.1, .inl rfl, this.2⟩
  · rename_i h1
    have hno : ¬ ∃ p ∈ L, p.1 = x ∧ p.2 ≤ c := by
      rintro ⟨q, hq, e1, _⟩
      exact look_no keyRdU hpm hx h1 ⟨q, hq, e1⟩
    go_ret
    have := Memo.less keyRdU hMb.1 hgd hpm hown hx hc hno hown1 hgrow1
    exact ⟨by simp only [lessB, hno]; rfl, some b, this.1, .inl rfl, this.2⟩

set_option maxRecDepth 100000 in
set_option maxHeartbeats 1000000 in
theorem less_U_none (p : Nat) (x : Int) (c : Int) (w : World) (hM : MemoU w p none []) (hx : okU x) (hc : (Lit.int .i64 c).wf = true) :
    Calls Tryd.prog 62 #[.pointer (some ⟨p, 0, none⟩), encU x, .int .i64 c] w fun e w' => e = .returned (.bool true) ∧ LessResU w w' p none [] x c := by
  have hkey := keyRdU.key x hx
  have heq := eqNilU
  have hc0 := hM.1.cell
  have hf0 := hM.1.frozen
  have hb1 : Boxed (w.alloc (.map #[] 0)) p 82 (.map none) := hM.1.alloc _
  have hb2 : Boxed ((w.alloc (.map #[] 0)).setCell ⟨p, 0, none⟩ (.map (some w.heap.size))) p 82 (.map (some w.heap.size)) := hb1.set _
  have hc1 := hb1.cell
  have hf1 := hb1.frozen
  have hc2 := hb2.cell
  have hf2 := hb2.frozen
  have hown : ((w.alloc (.map #[] 0)).setCell ⟨p, 0, none⟩ (.map (some w.heap.size))).ownsMap (H := Unit) Tryd.prog 68 (plainElem Tryd.prog 3) w.heap.size 0 (.map []) :=
    (World.ownsMap_made w Tryd.prog 68 _).setCell (by have := hM.1.lt; show w.heap.size ≠ p; omega) _
  have hl : 0 < maxLen := by have : maxLen = 9223372036854775807 := rfl; omega
  have hMb := Lib.hid hM.1
  have hbb := Lib.hid hb2
  clear hM hb1 hb2
  have hmm := @run_makeMap Tryd.prog
  go_enter Tryd.func62, Tryd.ntmps62
  go_wp2_with (first
    | (at_lookup; refine wpList_lookup_own_ok_int _ rfl _ _ 80 rfl 68 3 .i64 keyRdU.law Tryd.underlying80 Tryd.underlying3 (zeroIU _) w.heap.size 0 _ rfl hown _ _ rfl hkey ?_; intro old hat hwc; clear hat)
    | (at_mapUpdate; refine wpList_mapUpdate_own _ rfl _ _ _ 80 rfl 68 3 keyRdU.law Tryd.underlying80 _ w.heap.size 0 _ rfl hown hl _ _ _ rfl rfl hkey _ [] (plainElem_int Tryd.underlying3 hc) ?_; intro w1 hown1 hgrow1)
    | fail)
  · have hno : ¬ ∃ p ∈ ([] : List (Int × Int)), p.1 = x ∧ p.2 ≤ c := by simp
    go_ret
    have := Memo.less keyRdU hbb ⟨by simp, by simp⟩ (.refl _) hown hx hc hno hown1 hgrow1
    refine ⟨rfl, some w.heap.size, this.1, .inr ⟨rfl, _, rfl, Nat.le_refl _⟩, ?_⟩
    refine ⟨this.2.os, this.2.tape, this.2.output, by have := this.2.size; simp at this; omega, fun k hk hn => ?_⟩
    have hkp : k ≠ p := fun e => hn (.inl e)
    rw [this.2.block k (by simp; omega) (by rintro (e | e); exact hkp e; cases e; omega), Below.heap_setCell _ _ _ _ hkp, Below.heap_alloc _ _ _ hk]

/-- Less. -/
theorem less_U (p : Nat) (mb : Option Nat) (L : List (Int × Int)) (x : Int) (c : Int) (w : World) (hM : MemoU w p mb L) (hx : okU x) (hc : (Lit.int .i64 c).wf = true) (hn : L.length ≤ 1048576) :
    Calls Tryd.prog 62 #[.pointer (some ⟨p, 0, none⟩), encU x, .int .i64 c] w fun e w' => e = .returned (.bool (lessB L x c)) ∧ LessResU w w' p mb L x c := by
  cases mb with
  | none =>
    have hL : L = [] := hM.2
    subst hL
    exact less_U_none p x c w hM hx hc
  | some b => exact less_U_some p b L x c w hM hx hc hn
end Go.Proofs.YtmeamgeojcbljaaDoor
