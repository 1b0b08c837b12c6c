/- core.Memo at lists.row: what Less does. -/
import Derived.Test.YtmeamgeojcbljaaDoorMemoKeyW
import Derived.Test.YtmeamgeojcbljaaDoorInfo
import Derived.StillTailTactics
namespace Go.Proofs.YtmeamgeojcbljaaDoor
open Go.RowKit Go.Maps Go.ChangeAt

abbrev MemoW (W : World) (p : Nat) (mb : Option Nat) (L : List ((List Int) × Int)) : Prop := Memo Tryd.prog 102 3 99 litW okW W p mb L

/-- What Less leaves. -/
def LessResW (w w' : World) (p : Nat) (mb : Option Nat) (L : List ((List Int) × Int)) (x : (List Int)) (c : Int) : Prop :=
  ∃ mb', MemoW w' p mb' (lessL L x c) ∧ (mb' = mb ∨ (mb = none ∧ ∃ b', mb' = some b' ∧ w.heap.size ≤ b')) ∧ Turned (memoS p mb) w w'

theorem eqNilW (r : Option Nat) (w : World) : (binOp .eql 97 (.map r) (.map none)).run Tryd.prog w = .ok (.bool r.isNone) w := by
  cases r <;> kernel_rfl
theorem zeroIW (w : World) : (zeroValue 3).run Tryd.prog w = .ok (.int .i64 0) w := Tryd.zeroValue3 w

theorem still_allW {P : Program} {id : Nat} {Q : Exit → Act → World → Prop} {a : Act} {w : World} {l : List Oper} (hm : P.follows .mixedOrders = true) (hB : Region.lexB .any l.toArray = true)
    (h : wpStill P l.toArray w.drew (fun a' => Q .normal a' w.drew) l a) : (Code.region id l.toArray true).wp P Q a w := wp_region_still_lit hm hB h
theorem still_tlW {P : Program} {id : Nat} {Q : Exit → Act → World → Prop} {a : Act} {w : World} {l : List Oper} (n : Nat) (hm : P.follows .mixedOrders = true) (hB : Region.lexTailB .any l.toArray n = true)
    (h : wpStill P l.toArray w.drew (fun a' => wpList P l.toArray Q (l.drop n) a' w.drew) (l.take n) a) : (Code.region id l.toArray true).wp P Q a w := wp_region_still_tail n hm hB h
/-- The box that Less lays for its key. -/
def boxW (w : World) (x : List Int) : World := w.alloc (.cells (x.map (Value.int .i64)).toArray 102)
theorem okP_decW {x : List Int} (h : okW x) : ∃ a0 a1 a2 a3, x = [a0, a1, a2, a3] := by
  obtain ⟨h1, _⟩ := h
  match x, h1 with
  | [a0, a1, a2, a3], _ => exact ⟨a0, a1, a2, a3, rfl⟩

set_option maxRecDepth 100000 in
set_option maxHeartbeats 2000000 in
theorem less_W_some (p b : Nat) (L : List ((List Int) × Int)) (x : (List Int)) (c : Int) (w : World) (hM : MemoW w p (some b) L) (hx : okW x) (hc : (Lit.int .i64 c).wf = true) (hn : L.length ≤ 1048576) :
    Calls Tryd.prog 76 #[.pointer (some ⟨p, 0, none⟩), encW x, .int .i64 c] w fun e w' => e = .returned (.bool (lessB L x c)) ∧ LessResW w w' p (some b) L x c := by
  have hmx : Tryd.prog.follows .mixedOrders = true := by kernel_rfl
  have hkey := keyRdW.key x hx
  have heq := eqNilW
  obtain ⟨a0, a1, a2, a3, rfl⟩ := okP_decW hx
  have hB := (Below.refl w.heap.size w).alloc (Nat.le_refl _) (.cells #[.int .i64 a0, .int .i64 a1, .int .i64 a2, .int .i64 a3] 102)
  have hM1 : MemoW (w.alloc (.cells #[.int .i64 a0, .int .i64 a1, .int .i64 a2, .int .i64 a3] 102)) p (some b) L := hM.keep fun k hk _ => hB.block k hk
  have hbx : (w.alloc (.cells #[.int .i64 a0, .int .i64 a1, .int .i64 a2, .int .i64 a3] 102)).heap[w.heap.size]? = some (.cells #[.int .i64 a0, .int .i64 a1, .int .i64 a2, .int .i64 a3] 102 (0, 0)) := World.alloc_heap_new w _
  have hc0 := hM1.1.cell
  have hf0 := hM1.1.frozen
  have hMb := Lib.hid hM1
  have hM0 := Lib.hid hM
  obtain ⟨hbox, hg, es, hperm, hown⟩ := hM1
  have hl : L.length < maxLen := by have : maxLen = 9223372036854775807 := rfl; omega
  obtain ⟨ov, ops, hlook, hov⟩ := World.ownsMap.look_ok (w := (w.alloc (.cells #[.int .i64 a0, .int .i64 a1, .int .i64 a2, .int .i64 a3] 102)).drew) hown keyRdW.law Tryd.underlying97 (zeroIW _) (zd := .lit (.int .i64 0)) (zp := []) (plainElem_int Tryd.underlying3 (by decide)) hkey
  obtain ⟨old, rfl, hold, hwo⟩ := plainElem_int_inv Tryd.underlying3 hov
  have hatH := Lib.hid (congrArg Prod.fst hold)
  obtain ⟨w3, hupd, hown1, hgrow1⟩ := World.ownsMap.update (w := (w.alloc (.cells #[.int .i64 a0, .int .i64 a1, .int .i64 a2, .int .i64 a3] 102)).drew.drew) hown keyRdW.law Tryd.underlying97 hl hkey (plainElem_int (H := Unit) Tryd.underlying3 hc)
  have hgd := Lib.hid hg
  have hpm := Lib.hid hperm
  have HO := Lib.hid hown
  have HO1 := Lib.hid hown1
  clear hg hperm hbox hov hold hM hown hown1
  show Calls Tryd.prog 76 #[.pointer (some ⟨p, 0, none⟩), .agg #[.int .i64 a0, .int .i64 a1, .int .i64 a2, .int .i64 a3], .int .i64 c] w _
  have hlook' : (Instr.lookup 97 (.map (some b)) (.agg #[.int .i64 a0, .int .i64 a1, .int .i64 a2, .int .i64 a3]) true).run Tryd.prog (w.alloc (.cells #[.int .i64 a0, .int .i64 a1, .int .i64 a2, .int .i64 a3] 102)).drew = _ := hlook
  have hupd' : (Instr.mapUpdate 97 (.map (some b)) (.agg #[.int .i64 a0, .int .i64 a1, .int .i64 a2, .int .i64 a3]) (.int .i64 c)).run Tryd.prog (w.alloc (.cells #[.int .i64 a0, .int .i64 a1, .int .i64 a2, .int .i64 a3] 102)).drew.drew = _ := hupd
  clear hlook hupd hkey
  go_enter Tryd.func76, Tryd.ntmps76
  go_wp2_with fail
  refine still_allW hmx (by kernel_rfl) ?_
  repeat still_step
  refine wpStill_nil ?_
  have hgrow2 : (w.alloc (.cells #[.int .i64 a0, .int .i64 a1, .int .i64 a2, .int .i64 a3] 102)).grownBy w3 (some b) := ⟨hgrow1.os, hgrow1.tape, hgrow1.output, hgrow1.size, hgrow1.block⟩
  have fin : ∀ L', MemoW w3 p (some b) L' ∧ Turned (memoS p (some b)) (w.alloc (.cells #[.int .i64 a0, .int .i64 a1, .int .i64 a2, .int .i64 a3] 102)) w3 → MemoW w3 p (some b) L' ∧ Turned (memoS p (some b)) w w3 := fun L' h => ⟨h.1, h.2.os, h.2.tape, h.2.output, by have := h.2.size; simp at this; omega, fun k hk hS => (h.2.block k (by simp; omega) hS).trans (hB.block k hk)⟩
  go_wp2_with fail
  · rename_i h1 h2
    have hin := look_yes keyRdW hgd hpm hx h1 hatH
    have hex : ∃ p ∈ L, p.1 = ([a0, a1, a2, a3] : List Int) ∧ p.2 ≤ c := ⟨_, hin, rfl, h2⟩
    go_ret
    refine ⟨by simp only [lessB, hex]; rfl, some b, by rw [lessL, if_pos hex]; exact ⟨hMb.1, hMb.2⟩, .inl rfl, ⟨rfl, rfl, rfl, hB.size, fun k hk _ => hB.block k hk⟩⟩
  · have h1 : Maps.has (.map es) (litW [a0, a1, a2, a3]) = true := by assumption
    have h2 : c < old := by assumption
    have hin := look_yes keyRdW hgd hpm hx h1 hatH
    have hno : ¬ ∃ p ∈ L, p.1 = ([a0, a1, a2, a3] : List Int) ∧ p.2 ≤ c := by
      rintro ⟨q, hq, e1, e2⟩
      have := pair_of_nodup hgd.1 hq hin e1
      subst this
      exact absurd e2 (by show ¬ old ≤ c; omega)
    refine still_tlW 6 hmx (by kernel_rfl) ?_
    simp only [List.take_succ_cons, List.take_zero, List.drop_succ_cons, List.drop_zero]
    repeat still_step
    refine wpStill_nil ?_
    go_wp2
    go_ret
    have := fin _ (Memo.less keyRdW hMb.1 hgd hpm HO hx hc hno HO1 hgrow2)
    exact ⟨by simp only [lessB, hno]; rfl, some b, this.1, .inl rfl, this.2⟩
  · have h1 : ¬ Maps.has (.map es) (litW [a0, a1, a2, a3]) = true := by assumption
    have hno : ¬ ∃ p ∈ L, p.1 = ([a0, a1, a2, a3] : List Int) ∧ p.2 ≤ c := by
      rintro ⟨q, hq, e1, _⟩
      exact look_no keyRdW hpm hx h1 ⟨q, hq, e1⟩
    refine still_tlW 6 hmx (by kernel_rfl) ?_
    simp only [List.take_succ_cons, List.take_zero, List.drop_succ_cons, List.drop_zero]
    repeat still_step
    refine wpStill_nil ?_
    go_wp2
    go_ret
    have := fin _ (Memo.less keyRdW hMb.1 hgd hpm HO hx hc hno HO1 hgrow2)
    exact ⟨by simp only [lessB, hno]; rfl, some b, this.1, .inl rfl, this.2⟩

set_option maxRecDepth 100000 in
set_option maxHeartbeats 2000000 in
theorem less_W_none (p : Nat) (x : (List Int)) (c : Int) (w : World) (hM : MemoW w p none []) (hx : okW x) (hc : (Lit.int .i64 c).wf = true) :
    Calls Tryd.prog 76 #[.pointer (some ⟨p, 0, none⟩), encW x, .int .i64 c] w fun e w' => e = .returned (.bool true) ∧ LessResW w w' p none [] x c := by
  have hmx : Tryd.prog.follows .mixedOrders = true := by kernel_rfl
  have hkey := keyRdW.key x hx
  have heq := eqNilW
  obtain ⟨a0, a1, a2, a3, rfl⟩ := okP_decW hx
  have hB := (Below.refl w.heap.size w).alloc (Nat.le_refl _) (.cells #[.int .i64 a0, .int .i64 a1, .int .i64 a2, .int .i64 a3] 102)
  have hb0 : Boxed (w.alloc (.cells #[.int .i64 a0, .int .i64 a1, .int .i64 a2, .int .i64 a3] 102)) p 99 (.map none) := hM.1.alloc _
  have hb1 : Boxed ((w.alloc (.cells #[.int .i64 a0, .int .i64 a1, .int .i64 a2, .int .i64 a3] 102)).alloc (.map #[] 0)) p 99 (.map none) := hb0.alloc _
  have hb2 : Boxed (((w.setCell ⟨p, 0, none⟩ (.map (some (w.heap.size + 1)))).alloc (.cells #[.int .i64 a0, .int .i64 a1, .int .i64 a2, .int .i64 a3] 102)).alloc (.map #[] 0)) p 99 (.map (some (w.heap.size + 1))) := ((hM.1.set _).alloc _).alloc _
  have hpw := hM.1.lt
  have hbx : (w.alloc (.cells #[.int .i64 a0, .int .i64 a1, .int .i64 a2, .int .i64 a3] 102)).heap[w.heap.size]? = some (.cells #[.int .i64 a0, .int .i64 a1, .int .i64 a2, .int .i64 a3] 102 (0, 0)) := World.alloc_heap_new w _
  have hbx1 : ((w.alloc (.cells #[.int .i64 a0, .int .i64 a1, .int .i64 a2, .int .i64 a3] 102)).alloc (.map #[] 0)).heap[w.heap.size]? = some (.cells #[.int .i64 a0, .int .i64 a1, .int .i64 a2, .int .i64 a3] 102 (0, 0)) := (Below.heap_alloc _ _ _ (by simp)).trans hbx
  have hs0 : (w.setCell ⟨p, 0, none⟩ (.map (some (w.heap.size + 1)))).heap.size = w.heap.size := by simp
  have hbx2 : (((w.setCell ⟨p, 0, none⟩ (.map (some (w.heap.size + 1)))).alloc (.cells #[.int .i64 a0, .int .i64 a1, .int .i64 a2, .int .i64 a3] 102)).alloc (.map #[] 0)).heap[w.heap.size]? = some (.cells #[.int .i64 a0, .int .i64 a1, .int .i64 a2, .int .i64 a3] 102 (0, 0)) := by
    have := World.alloc_heap_new (w.setCell ⟨p, 0, none⟩ (.map (some (w.heap.size + 1)))) (.cells #[.int .i64 a0, .int .i64 a1, .int .i64 a2, .int .i64 a3] 102)
    rw [hs0] at this
    exact (Below.heap_alloc _ _ _ (by simp)).trans this
  have hown : (((w.setCell ⟨p, 0, none⟩ (.map (some (w.heap.size + 1)))).alloc (.cells #[.int .i64 a0, .int .i64 a1, .int .i64 a2, .int .i64 a3] 102)).alloc (.map #[] 0)).ownsMap (H := Unit) Tryd.prog 102 (plainElem Tryd.prog 3) (w.heap.size + 1) 0 (.map []) := by
    have := World.ownsMap_made (H := Unit) ((w.setCell ⟨p, 0, none⟩ (.map (some (w.heap.size + 1)))).alloc (.cells #[.int .i64 a0, .int .i64 a1, .int .i64 a2, .int .i64 a3] 102)) Tryd.prog 102 (plainElem Tryd.prog 3)
    rw [World.size_alloc, hs0] at this
    exact this
  have hl : 0 < maxLen := by have : maxLen = 9223372036854775807 := rfl; omega
  obtain ⟨ov, ops, hlook, hov⟩ := World.ownsMap.look_ok (w := (((w.setCell ⟨p, 0, none⟩ (.map (some (w.heap.size + 1)))).alloc (.cells #[.int .i64 a0, .int .i64 a1, .int .i64 a2, .int .i64 a3] 102)).alloc (.map #[] 0)).drew) hown keyRdW.law Tryd.underlying97 (zeroIW _) (zd := .lit (.int .i64 0)) (zp := []) (plainElem_int Tryd.underlying3 (by decide)) hkey
  obtain ⟨old, rfl, hold, hwo⟩ := plainElem_int_inv Tryd.underlying3 hov
  obtain ⟨w3, hupd, hown1, hgrow1⟩ := World.ownsMap.update (w := (((w.setCell ⟨p, 0, none⟩ (.map (some (w.heap.size + 1)))).alloc (.cells #[.int .i64 a0, .int .i64 a1, .int .i64 a2, .int .i64 a3] 102)).alloc (.map #[] 0)).drew.drew) hown keyRdW.law Tryd.underlying97 hl hkey (plainElem_int (H := Unit) Tryd.underlying3 hc)
  have hgrow2 : (((w.setCell ⟨p, 0, none⟩ (.map (some (w.heap.size + 1)))).alloc (.cells #[.int .i64 a0, .int .i64 a1, .int .i64 a2, .int .i64 a3] 102)).alloc (.map #[] 0)).grownBy w3 (some (w.heap.size + 1)) := ⟨hgrow1.os, hgrow1.tape, hgrow1.output, hgrow1.size, hgrow1.block⟩
  have hno : ¬ ∃ p ∈ ([] : List ((List Int) × Int)), p.1 = ([a0, a1, a2, a3] : List Int) ∧ p.2 ≤ c := by simp
  have hres := Memo.less keyRdW hb2 ⟨by simp, by simp⟩ (.refl _) hown hx hc hno hown1 hgrow2
  have HR : Hid (LessResW w w3 p none [] [a0, a1, a2, a3] c) := Lib.hid ⟨some (w.heap.size + 1), hres.1, .inr ⟨rfl, _, rfl, by omega⟩, hres.2.os, hres.2.tape, hres.2.output, by have := hres.2.size; simp at this; omega, fun k hk hn => by
    have hkp : k ≠ p := fun e => hn (.inl e)
    rw [hres.2.block k (by simp; omega) (by
      rintro (e | e)
      · exact hkp e
      · cases e; omega), Below.heap_alloc _ _ _ (by simp; omega), Below.heap_alloc _ _ _ (by simp; omega), Below.heap_setCell _ _ _ _ hkp]⟩
  have hc0 := hb0.cell
  have hc1 := hb1.cell
  have hf1 := hb1.frozen
  have hc2 := hb2.cell
  have hf2 := hb2.frozen
  clear hov hold hM hown hown1 hres hgrow1 hgrow2 hb0 hb1 hb2 hno
  show Calls Tryd.prog 76 #[.pointer (some ⟨p, 0, none⟩), .agg #[.int .i64 a0, .int .i64 a1, .int .i64 a2, .int .i64 a3], .int .i64 c] w _
  have hlook' : (Instr.lookup 97 (.map (some (w.heap.size + 1))) (.agg #[.int .i64 a0, .int .i64 a1, .int .i64 a2, .int .i64 a3]) true).run Tryd.prog (((w.setCell ⟨p, 0, none⟩ (.map (some (w.heap.size + 1)))).alloc (.cells #[.int .i64 a0, .int .i64 a1, .int .i64 a2, .int .i64 a3] 102)).alloc (.map #[] 0)).drew = _ := hlook
  have hupd' : (Instr.mapUpdate 97 (.map (some (w.heap.size + 1))) (.agg #[.int .i64 a0, .int .i64 a1, .int .i64 a2, .int .i64 a3]) (.int .i64 c)).run Tryd.prog (((w.setCell ⟨p, 0, none⟩ (.map (some (w.heap.size + 1)))).alloc (.cells #[.int .i64 a0, .int .i64 a1, .int .i64 a2, .int .i64 a3] 102)).alloc (.map #[] 0)).drew.drew = _ := hupd
  clear hlook hupd hkey
  have hmm : ∀ (t : TypeId), (Instr.makeMap t none).run Tryd.prog (w.alloc (.cells #[.int .i64 a0, .int .i64 a1, .int .i64 a2, .int .i64 a3] 102)) = .ok (.map (some (w.heap.size + 1))) ((w.alloc (.cells #[.int .i64 a0, .int .i64 a1, .int .i64 a2, .int .i64 a3] 102)).alloc (.map #[] 0)) := fun t => by
    have := run_makeMap (P := Tryd.prog) (t := t) (w := (w.alloc (.cells #[.int .i64 a0, .int .i64 a1, .int .i64 a2, .int .i64 a3] 102)))
    rwa [World.size_alloc] at this
  go_enter Tryd.func76, Tryd.ntmps76
  go_wp2_with fail
  refine still_allW hmx (by kernel_rfl) ?_
  repeat still_step
  refine wpStill_nil ?_
  go_wp2_with fail
  refine still_tlW 6 hmx (by kernel_rfl) ?_
  simp only [List.take_succ_cons, List.take_zero, List.drop_succ_cons, List.drop_zero]
  repeat still_step
  refine wpStill_nil ?_
  go_wp2
  go_ret
  exact ⟨rfl, HR.out⟩

/-- Less. -/
theorem less_W (p : Nat) (mb : Option Nat) (L : List ((List Int) × Int)) (x : (List Int)) (c : Int) (w : World) (hM : MemoW w p mb L) (hx : okW x) (hc : (Lit.int .i64 c).wf = true) (hn : L.length ≤ 1048576) :
    Calls Tryd.prog 76 #[.pointer (some ⟨p, 0, none⟩), encW x, .int .i64 c] w fun e w' => e = .returned (.bool (lessB L x c)) ∧ LessResW w w' p mb L x c := by
  cases mb with
  | none =>
    have hL : L = [] := hM.2
    subst hL
    exact less_W_none p x c w hM hx hc
  | some b => exact less_W_some p b L x c w hM hx hc hn
end Go.Proofs.YtmeamgeojcbljaaDoor
