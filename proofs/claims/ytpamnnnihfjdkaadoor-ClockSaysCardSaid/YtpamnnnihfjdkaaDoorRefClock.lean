/- The walk of larderwickref1.Clock: what it returns. -/
import Derived.Test.YtpamnnnihfjdkaaDoorRefRise
import Derived.Test.YtpamnnnihfjdkaaDoorClockLaws
namespace Go.Proofs.YtpamnnnihfjdkaaDoor
open Go.ChangeShapes Go.WideShapes Go.ChangeAt Go.RowKit

theorem wpList_appendI_at {P : Program} (w : World) {ops : Array Oper} {rest : List Oper} {o : Oper} {a : Act} {Q : Exit → Act → World → Prop} (hgd : o.guard = none) (s x : Operand) (t : TypeId)
    (ho : o.op = .call { callee := .builtin .append, args := #[s, x], argTypes := #[t, t] })
    (base : Nat) (e : TypeId) (z : Value) (bytes : Nat) (ht : P.underlying t = some (.slice e)) (hi : (P.info? e).map (fun i => (i.zero, i.size, i.bytes)) = some (some z, 1, bytes))
    (hzs : z.cells.size = 1)
    (v : Value) (n : Nat) (xs : List Value) (hs : a.eval s = v) (hown : Row w base e v n xs)
    (ad : Addr) (m c : Nat) (l : List Int) (hx : a.eval x = .slice (some ad) m c) (hr : RI w (some ad) m l)
    (hn : n + m ≤ maxLen) (hby : (n + m) * bytes ≤ 140737488355328) (hbase : base ≤ w.heap.size)
    (h : ∀ v' w', Row w' base e v' (n + m) (xs ++ l.map (Value.int .i64)) → w.grownBy w' v.ownBlock → Far w.heap.size v.ownBlock v'.ownBlock → wpList P ops Q rest (a.put o.dst v') w') : wpList P ops Q (o :: rest) a w := by
  obtain ⟨i0, hi0, hz0, hz1, hz2⟩ := info_parts hi
  refine wpList_append_own_at (w := w) hgd s x t ho base e i0 z 1 bytes ht hi0 hz0 hz1 hz2 hzs (by omega) v n xs hs hown ad m c (l.map (Value.int .i64)) hx (by simpa using hr.1) ?_ (ints_oneCell .i64 l) hn hby hbase (fun v' w' h1 h2 _ h4 => h v' w' h1 h2 (h4.imp id (fun e => ⟨_, e, Nat.le_refl _⟩)))
  intro j u hu
  rw [List.getElem?_map] at hu
  cases hj : l[j]? with
  | none => rw [hj] at hu; cases hu
  | some y =>
    rw [hj] at hu
    have hu' : Value.int .i64 y = u := by simpa using hu
    subst hu'
    exact hr.cellAt hj
theorem Row.form0 {w : World} {base : Nat} {e : TypeId} {v : Value} {n : Nat} {xs : List Value} (h : Row w base e v n xs) (hn : 0 < n) : ∃ g c, v = .slice (some ⟨g, 0, none⟩) n c ∧ base ≤ g := by
  rcases h.2 with ⟨_, h0⟩ | ⟨g, cap, cur, rfl, hb, _⟩
  · omega
  · exact ⟨g, cap, rfl, hb⟩

/-- Who was asked for since the hand came by, in a row. -/
def Asked (held : List (Int × Bool)) (ak : List Int) : Prop := ak.Nodup ∧ ∀ x, x ∈ ak ↔ (x, true) ∈ held
theorem mem_fst {held : List (Int × Bool)} {x : Int} {b : Bool} (h : (x, b) ∈ held) : x ∈ held.map Prod.fst := List.mem_map.2 ⟨_, h, rfl⟩
theorem fst_inj {held : List (Int × Bool)} (hn : (held.map Prod.fst).Nodup) {x : Int} {a b : Bool} (h1 : (x, a) ∈ held) (h2 : (x, b) ∈ held) : a = b := by
  induction held with
  | nil => cases h1
  | cons p t ih =>
    rw [List.map_cons, List.nodup_cons] at hn
    rcases List.mem_cons.1 h1 with e1 | e1
    · rcases List.mem_cons.1 h2 with e2 | e2
      · rw [← e1] at e2; injection e2 with _ e2; exact e2.symm
      · exact absurd (by rw [← e1]; exact mem_fst e2) hn.1
    · rcases List.mem_cons.1 h2 with e2 | e2
      · exact absurd (by rw [← e2]; exact mem_fst e1) hn.1
      · exact ih hn.2 e1 e2
theorem mem_set {held : List (Int × Bool)} (hn : (held.map Prod.fst).Nodup) {j : Nat} {q : Int} {b c : Bool} (hj : held[j]? = some (q, b)) (x : Int) (d : Bool) : (x, d) ∈ held.set j (q, c) ↔ (x ≠ q ∧ (x, d) ∈ held) ∨ (x = q ∧ d = c) := by
  obtain ⟨hjl, he⟩ := List.getElem?_eq_some_iff.1 hj
  rw [List.mem_iff_getElem?]
  constructor
  · rintro ⟨i, hi⟩
    by_cases hij : j = i
    · subst hij
      rw [List.getElem?_set_self hjl] at hi
      injection hi with hi; injection hi with h1 h2
      exact .inr ⟨h1.symm, h2.symm⟩
    · rw [List.getElem?_set_ne hij] at hi
      left
      refine ⟨fun e => ?_, List.mem_of_getElem? hi⟩
      subst e
      have h1 : (held.map Prod.fst)[i]? = some x := by rw [List.getElem?_map, hi]; rfl
      have h2 : (held.map Prod.fst)[j]? = some x := by rw [List.getElem?_map, hj]; rfl
      have hil := (List.getElem?_eq_some_iff.1 h1).1
      exact hij ((List.getElem?_inj (by have := (List.getElem?_eq_some_iff.1 h2).1; exact this) hn).1 (h2.trans h1.symm))
  · rintro (⟨hx, hm⟩ | ⟨rfl, rfl⟩)
    · obtain ⟨i, hi⟩ := List.mem_iff_getElem?.1 hm
      refine ⟨i, ?_⟩
      have hij : j ≠ i := fun e => by subst e; rw [hj] at hi; injection hi with hi; injection hi with h1 _; exact hx h1.symm
      rw [List.getElem?_set_ne hij]; exact hi
    · exact ⟨j, List.getElem?_set_self hjl⟩
theorem nodup_snocR {H : List Int} {p : Int} (hN : H.Nodup) (hp : p ∉ H) : (H ++ [p]).Nodup := by
  rw [List.nodup_append]
  exact ⟨hN, by simp, fun a ha b hb => by rw [List.mem_singleton] at hb; subst hb; exact fun e => hp (e ▸ ha)⟩
/-- Asked for, where it is there. -/
theorem Asked.hit {held : List (Int × Bool)} {ak : List Int} (h : Asked held ak) (hn : (held.map Prod.fst).Nodup) {j : Nat} {q : Int} {b : Bool} (hj : held[j]? = some (q, b)) :
    Asked (held.set j (q, true)) (if q ∈ ak then ak else ak ++ [q]) := by
  have key : ∀ x, (x ∈ ak ∨ x = q) ↔ (x, true) ∈ held.set j (q, true) := fun x => by
    rw [mem_set hn hj, h.2]
    by_cases e : x = q
    · subst e; simp
    · simp [e]
  by_cases hq : q ∈ ak
  · rw [if_pos hq]
    refine ⟨h.1, fun x => ?_⟩
    rw [← key]
    exact ⟨.inl, fun hh => hh.elim id (fun e => e ▸ hq)⟩
  · rw [if_neg hq]
    refine ⟨nodup_snocR h.1 hq, fun x => ?_⟩
    rw [← key, List.mem_append, List.mem_singleton]
theorem Asked.room {held : List (Int × Bool)} {ak : List Int} (h : Asked held ak) {p : Int} (hp : p ∉ held.map Prod.fst) : Asked (held ++ [(p, true)]) (ak ++ [p]) := by
  refine ⟨nodup_snocR h.1 (fun hh => hp (mem_fst ((h.2 p).1 hh))), fun x => ?_⟩
  rw [List.mem_append, List.mem_append, List.mem_singleton, List.mem_singleton, h.2]
  simp
theorem Asked.clear {held : List (Int × Bool)} {ak : List Int} (h : Asked held ak) (hn : (held.map Prod.fst).Nodup) {j : Nat} {q : Int} {b : Bool} (hj : held[j]? = some (q, b)) : Asked (held.set j (q, false)) (ak.erase q) := by
  refine ⟨h.1.erase q, fun x => ?_⟩
  rw [List.Nodup.mem_erase_iff h.1, mem_set hn hj, h.2]
  simp
theorem Asked.put {held : List (Int × Bool)} {ak : List Int} (h : Asked held ak) (hn : (held.map Prod.fst).Nodup) {j : Nat} {q p : Int} (hj : held[j]? = some (q, false)) (hp : p ∉ held.map Prod.fst) : Asked (held.set j (p, true)) (ak ++ [p]) := by
  refine ⟨nodup_snocR h.1 (fun hh => hp (mem_fst ((h.2 p).1 hh))), fun x => ?_⟩
  obtain ⟨hjl, he⟩ := List.getElem?_eq_some_iff.1 hj
  rw [List.mem_append, List.mem_singleton, h.2]
  constructor
  · rintro (hm | rfl)
    · obtain ⟨i, hi⟩ := List.mem_iff_getElem?.1 hm
      have hij : j ≠ i := fun e => by subst e; rw [hj] at hi; injection hi with hi; injection hi with _ h2; cases h2
      exact List.mem_iff_getElem?.2 ⟨i, by rw [List.getElem?_set_ne hij]; exact hi⟩
    · exact List.mem_iff_getElem?.2 ⟨j, List.getElem?_set_self hjl⟩
  · intro hm
    rcases List.mem_or_eq_of_mem_set hm with e | e
    · exact .inl e
    · injection e with e1 _; exact .inr e1
theorem Asked.at_ {held : List (Int × Bool)} {ak : List Int} (h : Asked held ak) (hn : (held.map Prod.fst).Nodup) {j : Nat} {q : Int} {b : Bool} (hj : held[j]? = some (q, b)) : hasB ak q = b := by
  have hm := List.mem_of_getElem? hj
  cases b
  · rw [hasB_false, h.2]
    intro hh
    have := fst_inj hn hh hm
    cases this
  · rw [hasB_iff, h.2]; exact hm
theorem sweep_step {s : Nat} {held cur : List (Int × Bool)} {hand h' : Nat} {q : Int} (hs : sweepM s cur h' = sweepM s held hand) (hj : cur[h']? = some (q, true)) : sweepM s (cur.set h' (q, false)) ((h' + 1) % s) = sweepM s held hand := by
  rw [← hs, sweepM_on hj]
theorem set_fst {cur : List (Int × Bool)} {j : Nat} {q : Int} {b c : Bool} (hj : cur[j]? = some (q, b)) : (cur.set j (q, c)).map Prod.fst = cur.map Prod.fst := by
  rw [List.map_set]
  refine List.ext_getElem? fun i => ?_
  by_cases e : j = i
  · subst e
    have := (List.getElem?_eq_some_iff.1 hj).1
    rw [List.getElem?_set_self (by simpa using this), List.getElem?_map, hj]; rfl
  · rw [List.getElem?_set_ne e]

/-- What larderwickref1.Clock hands back. -/
def RClockRes (w w' : World) (e : Ending) (n : Nat) (c : CSt) : Prop :=
  ∃ A1 c1 A2 n2 c2, e = .returned (.tuple #[.slice A1 n c1, .slice A2 n2 c2, .int .i64 ((c.hand : Nat) : Int)]) ∧ RB w' A1 n c.hits ∧ RI w' A2 n2 (c.held.map Prod.fst) ∧ n2 ≤ 8 ∧ Below w.heap.size w w'

def RClockInv (s : Nat) (l : List Int) (w wr : World) (v7 v8 v9 : Value) (n8 n9 k hand : Nat) : Prop :=
  ∃ hits held ak, clockRun s (l.take k) = ⟨hits, held, hand⟩ ∧ Asked held ak ∧ Row wr w.heap.size 4 v7 k (hits.map Value.bool) ∧ Row wr w.heap.size 3 v8 n8 ((held.map Prod.fst).map (Value.int .i64)) ∧
    Row wr w.heap.size 3 v9 n9 (ak.map (Value.int .i64)) ∧ Apart v8.ownBlock v9.ownBlock ∧ n8 ≤ s ∧ n9 ≤ n8 ∧ hand < s ∧ Below w.heap.size w wr
theorem asked_le {held : List (Int × Bool)} {ak : List Int} (h : Asked held ak) : ak.length ≤ held.length := by
  have : ∀ {a b : List Int}, a.Nodup → (∀ x ∈ a, x ∈ b) → a.length ≤ b.length := by
    intro a
    induction a with
    | nil => intro b _ _; simp
    | cons x a ih =>
      intro b hn h
      rw [List.nodup_cons] at hn
      have hx := h x (by simp)
      have h1 := ih (b := b.erase x) hn.2 (fun z hz => by
        have hzx : z ≠ x := fun e => hn.1 (e ▸ hz)
        exact (List.mem_erase_of_ne hzx).2 (h z (by simp [hz])))
      have h2 := List.length_erase_of_mem hx
      have h3 := List.length_pos_of_mem hx
      rw [List.length_cons]; omega
  have h1 := this h.1 (b := held.map Prod.fst) (fun x hx => mem_fst ((h.2 x).1 hx))
  simpa using h1

set_option maxRecDepth 100000 in
set_option maxHeartbeats 8000000 in
theorem rclock_ok (A : Option Addr) (n c : Nat) (l : List Int) (s : Nat) (w : World) (h : RI w A n l) (hn : n ≤ 40) (hs1 : 1 ≤ s) (hs2 : s ≤ 8) :
    Calls Tryd.prog 7 #[.slice A n c, .int .i64 (s : Int)] w fun e w' => RClockRes w w' e n (clockRun s l) := by
  have HL := Lib.hid h.len
  have HND : Hid (∀ k, (pagesC s (l.take k)).Nodup) := Lib.hid (fun k => (clock_inv1 s hs1 (l.take k)).nd)
  go_enter Tryd.func7, Tryd.ntmps7
  go_wp2
  go_loopw [7, 8, 9, 10, 11, 12, 13] (fun v7 v8 v9 v10 i _ _ wr => ∃ k n8 c8 n9 c9 hand : Nat, ∃ A8 A9, k ≤ n ∧ i = .int .i64 k ∧ v8 = .slice A8 n8 c8 ∧ v9 = .slice A9 n9 c9 ∧ v10 = .int .i64 hand ∧ RClockInv s l w wr v7 v8 v9 n8 n9 k hand) (fun _ _ _ _ i _ _ _ => n - (intOf i).toNat)
  case atStart => exact ⟨0, 0, 0, 0, 0, 0, none, none, by omega, by go_num, rfl, rfl, by go_num, [], [], [], rfl, ⟨by simp, by simp⟩, Row.nil_ _ _ _, Row.nil_ _ _ _, Row.nil_ _ _ _, .inl rfl, by omega, by omega, by omega, Below.refl _ _⟩
  case round =>
    obtain ⟨k, n8, c8, n9, c9, hand, A8, A9, hk, rfl, rfl, rfl, rfl, hits, held, ak, HF, HAS, R7, R8, R9, hap, hn8, hn9, hhand, hB⟩ := hrel
    have HF' := Lib.hid HF
    have HAS' := Lib.hid HAS
    have HAP := Lib.hid hap
    clear HF HAS hap
    have hbs := hB.size
    by_cases hlt : k < n
    · obtain ⟨ad, y, rfl, HY, hc⟩ := (h.below hB).at_ hlt
      have HST := Lib.hid (clock_succ (s := s) HY.out)
      have HNDk : Hid ((held.map Prod.fst).Nodup) := Lib.hid (by have := HND.out k; unfold pagesC at this; rw [HF'.out] at this; exact this)
      have hl8 : (held.map Prod.fst).length = n8 := by have := R8.len; simpa using this
      by_cases hm : y ∈ held.map Prod.fst
      · have HB := Lib.hid ((hasB_iff _ _).2 hm)
        obtain ⟨b, hj⟩ := held_at hm
        have HNX : Hid (clockRun s (l.take (k + 1)) = ⟨hits ++ [true], held.set ((held.map Prod.fst).idxOf y) (y, true), hand⟩) := Lib.hid (by rw [HST.out, HF'.out, clockStep, if_pos hm])
        have HA2 := Lib.hid (HAS'.out.hit HNDk.out hj)
        have HFS := Lib.hid (set_fst (c := true) hj)
        have hle := asked_le HA2.out
        rw [List.length_set] at hle
        have hlh : held.length = n8 := by simpa using hl8
        clear hm
        go_wp2_with fail
        refine (has_any _ _ _ _ _ _ (Row.reads R8) (by omega)).mono ?_; rintro e w' ⟨rfl, rfl⟩
        rw [HB.out]
        go_wp2_with (at_builtin; refine wpList_push _ rfl (.tmp 27) (.tmp 28) _ rfl w.heap.size 4 _ _ Tryd.underlying24 infoB rfl (by decide) _ _ _ rfl R7 (.bool true) rfl rfl (by omega) hbs ?_; intro v7' w1 R7' g7)
        have hB1 := hB.grown g7 hbs (fun b hb => (R7.lt b hb).1)
        have hb1 := hB1.size
        have R8' := Row.kept R8 g7 R7 (by decide)
        have R9' := Row.kept R9 g7 R7 (by decide)
        refine (has_any _ _ _ _ _ _ (Row.reads R9') (by omega)).mono ?_; rintro e w' ⟨rfl, rfl⟩
        by_cases hq : y ∈ ak
        · have HQ := Lib.hid ((hasB_iff _ _).2 hq)
          rw [if_pos hq] at HA2
          clear hq
          rw [HQ.out]
          go_wp2
          go_roundw
          case rel => exact ⟨k + 1, n8, c8, n9, c9, hand, A8, A9, by omega, by go_num, rfl, rfl, rfl, _, _, ak, HNX.out, HA2.out, by rw [List.map_append]; exact R7', by rw [HFS.out]; exact R8', R9', HAP.out, hn8, hn9, hhand, hB1⟩
          case measure => simp [intOf]; omega
        · have HQ := Lib.hid ((hasB_false _ _).2 hq)
          rw [if_neg hq] at HA2 hle
          have hl9 : ak.length = n9 := by have := R9.len; simpa using this
          have hn9' : n9 + 1 ≤ n8 := by rw [List.length_append, List.length_singleton] at hle; omega
          clear hq hle
          rw [HQ.out]
          go_wp2_with (at_builtin; refine wpList_push_at _ rfl (.tmp 34) (.tmp 36) _ rfl w.heap.size 3 _ _ Tryd.underlying22 infoI rfl (by decide) _ _ _ rfl R9' (.int .i64 y) rfl rfl (by omega) hb1 ?_; intro v9' w2 R9'' g9 far9)
          have F9 := Lib.hid R9''.form
          go_roundw
          case rel =>
            obtain ⟨A', c', hv, _, _⟩ := F9.out
            refine ⟨k + 1, n8, c8, n9 + 1, c', hand, A8, A', by omega, by go_num, rfl, hv, rfl, _, _, ak ++ [y], HNX.out, HA2.out, by rw [List.map_append]; exact Row.kept R7' g9 R9' (by decide), by rw [HFS.out]; exact Row.apart R8' g9 HAP.out, by rw [List.map_append]; exact R9'', Apart.far HAP.out far9 (fun b hb => (R8'.lt b hb).2), hn8, hn9', hhand, hB1.grown g9 hb1 (fun b hb => (R9'.lt b hb).1)⟩
          case measure => simp [intOf]; omega
      · have HB := Lib.hid ((hasB_false _ _).2 hm)
        have hlh : held.length = n8 := by simpa using hl8
        by_cases hroom : n8 < s
        · have HNX : Hid (clockRun s (l.take (k + 1)) = ⟨hits ++ [false], held ++ [(y, true)], hand⟩) := Lib.hid (by rw [HST.out, HF'.out, clockStep, if_neg hm, if_pos (by show held.length < s; omega)])
          have HA2 := Lib.hid (HAS'.out.room hm)
          have HMP : Hid ((held ++ [(y, true)]).map Prod.fst = held.map Prod.fst ++ [y]) := Lib.hid (by simp)
          clear hm
          go_wp2_with fail
          refine (has_any _ _ _ _ _ _ (Row.reads R8) (by omega)).mono ?_; rintro e w' ⟨rfl, rfl⟩
          rw [HB.out]
          go_wp2_with (first
            | (at_builtin; refine wpList_push _ rfl (.tmp 38) (.tmp 39) _ rfl w.heap.size 4 _ _ Tryd.underlying24 infoB rfl (by decide) _ _ _ rfl R7 (.bool false) rfl rfl (by omega) hbs ?_; intro v7' w1 R7' g7
               have hB1 := hB.grown g7 hbs (fun b hb => (R7.lt b hb).1)
               have hb1 := hB1.size
               have R8' := Row.kept R8 g7 R7 (by decide)
               have R9' := Row.kept R9 g7 R7 (by decide))
            | (at_builtin; refine wpList_push_at _ rfl (.tmp 45) (.tmp 47) _ rfl w.heap.size 3 _ _ Tryd.underlying22 infoI rfl (by decide) _ _ _ rfl R8' (.int .i64 y) rfl rfl (by omega) hb1 ?_; intro v8' w2 R8'' g8 far8
               have hB2 := hB1.grown g8 hb1 (fun b hb => (R8'.lt b hb).1)
               have hb2 := hB2.size
               have R9'' := Row.apart R9' g8 HAP.out.symm
               have R7'' := Row.kept R7' g8 R8' (by decide)
               have HAP2 := Lib.hid (Apart.far HAP.out.symm far8 (fun b hb => (R9'.lt b hb).2)))
            | (at_builtin; refine wpList_push_at _ rfl (.tmp 49) (.tmp 51) _ rfl w.heap.size 3 _ _ Tryd.underlying22 infoI rfl (by decide) _ _ _ rfl R9'' (.int .i64 y) rfl rfl (by omega) hb2 ?_; intro v9' w3 R9''' g9 far9))
          have F8 := Lib.hid R8''.form
          have F9 := Lib.hid R9'''.form
          go_roundw
          case rel =>
            obtain ⟨A', c', hv, _, _⟩ := F8.out
            obtain ⟨A'', c'', hv2, _, _⟩ := F9.out
            refine ⟨k + 1, n8 + 1, c', n9 + 1, c'', hand, A', A'', by omega, by go_num, hv, hv2, rfl, _, _, ak ++ [y], HNX.out, HA2.out, by rw [List.map_append]; exact Row.kept R7'' g9 R9'' (by decide), by rw [HMP.out, List.map_append]; exact Row.apart R8'' g9 HAP2.out.symm, by rw [List.map_append]; exact R9''', Apart.far HAP2.out.symm far9 (fun b hb => (R8''.lt b hb).2), by omega, by omega, hhand, hB2.grown g9 hb2 (fun b hb => (R9''.lt b hb).1)⟩
          case measure => simp [intOf]; omega
        · have hns : n8 = s := by omega
          have HNX : Hid (clockRun s (l.take (k + 1)) = ⟨hits ++ [false], (sweepM s held hand).1.set (sweepM s held hand).2 (y, true), ((sweepM s held hand).2 + 1) % s⟩) := Lib.hid (by rw [HST.out, HF'.out, clockStep, if_neg hm, if_neg (by show ¬ held.length < s; omega)])
          have HM := Lib.hid hm
          subst hns
          clear hm hroom
          go_wp2_with fail
          refine (has_any _ _ _ _ _ _ (Row.reads R8) (by omega)).mono ?_; rintro e w' ⟨rfl, rfl⟩
          rw [HB.out]
          go_wp2_with (at_builtin; refine wpList_push _ rfl (.tmp 38) (.tmp 39) _ rfl w.heap.size 4 _ _ Tryd.underlying24 infoB rfl (by decide) _ _ _ rfl R7 (.bool false) rfl rfl (by omega) hbs ?_; intro v7' w1 R7' g7)
          have hB1 := hB.grown g7 hbs (fun b hb => (R7.lt b hb).1)
          have hb1 := hB1.size
          have R8' := Row.kept R8 g7 R7 (by decide)
          have R9' := Row.kept R9 g7 R7 (by decide)
          have HPG : Hid (∃ pg, pg = held.map Prod.fst) := ⟨_, rfl⟩
          clear R7 R8 R9
          go_loopg [9, 10] (marks held) (fun m v9 v10 wj => ∃ hand' n9' c9' : Nat, ∃ A9', ∃ cur ak', v9 = .slice A9' n9' c9' ∧ v10 = .int .i64 hand' ∧ hand' < n8 ∧ n9' ≤ n8 ∧ cur.map Prod.fst = held.map Prod.fst ∧ Hid (Asked cur ak') ∧ Hid (sweepM n8 cur hand' = sweepM n8 held hand) ∧ m = marks cur ∧
            Row wj w.heap.size 4 v7' (k + 1) (hits.map Value.bool ++ [Value.bool false]) ∧ Row wj w.heap.size 3 (.slice A8 n8 c8) n8 ((held.map Prod.fst).map (Value.int .i64)) ∧ Row wj w.heap.size 3 (.slice A9' n9' c9') n9' (ak'.map (Value.int .i64)) ∧ Apart (Value.slice A8 n8 c8).ownBlock (Value.slice A9' n9' c9').ownBlock ∧ Below w.heap.size w wj)
          case atStart => exact ⟨hand, n9, c9, A9, held, ak, rfl, rfl, hhand, hn9, rfl, HAS', Lib.hid rfl, rfl, R7', R8', R9', HAP.out, hB1⟩
          case round =>
            obtain ⟨hand', n9', c9', A9', cur, ak', rfl, rfl, hhand', hn9', hcur, HAC, HSW, hmk, R7j, R8j, R9j, hapj, hBj⟩ := hrel
            have HCUR := Lib.hid hcur
            have HMK := Lib.hid hmk
            have HAPj := Lib.hid hapj
            clear hcur hmk hapj
            have hbj := hBj.size
            have hlc : cur.length = n8 := by have := congrArg List.length HCUR.out; simp at this; omega
            obtain ⟨⟨q, mk⟩, hq⟩ : ∃ x, cur[hand']? = some x := ⟨_, List.getElem?_eq_getElem (show hand' < cur.length by omega)⟩
            have HQC := Lib.hid hq
            obtain ⟨ad8, q', rfl, HQ8, hc8⟩ := (Row.reads R8j).at_ hhand'
            have hqq : q' = q := by
              have := HQ8.out
              rw [← HCUR.out, List.getElem?_map, hq] at this
              simpa using this.symm
            rw [hqq] at hc8
            clear hqq HQ8
            have HNC : Hid ((cur.map Prod.fst).Nodup) := Lib.hid (by rw [HCUR.out]; exact HNDk.out)
            have HASQ := Lib.hid (HAC.out.at_ HNC.out hq)
            have hhi : (hand' : Int) < n8 := by omega
            have hmod : (hand' + 1) % n8 < n8 := Nat.mod_lt _ (by omega)
            have hmodI : ((hand' : Int) + 1) % (n8 : Int) = (((hand' + 1) % n8 : Nat) : Int) := by simp
            have HMOD := Lib.hid hmodI
            clear hmodI hq
            go_wp2_with fail
            refine (has_any _ _ _ _ _ _ (Row.reads R9j) (by omega)).mono ?_; rintro e w' ⟨rfl, rfl⟩
            rw [HASQ.out]
            cases mk
            · have HE := Lib.hid (HSW.out.symm.trans (sweepM_stop HQC.out))
              have HA2 : Hid (Asked (cur.set hand' (y, true)) (ak' ++ [y])) := Lib.hid (HAC.out.put HNC.out HQC.out (by rw [HCUR.out]; exact HM.out))
              have HMS : Hid ((cur.set hand' (y, true)).map Prod.fst = (held.map Prod.fst).set hand' y) := Lib.hid (by rw [List.map_set, HCUR.out])
              have HLE := Lib.hid (asked_le HA2.out)
              have hl9 : ak'.length = n9' := by have := R9j.len; simpa using this
              have hn9'' : n9' + 1 ≤ n8 := by have := HLE.out; rw [List.length_append, List.length_singleton, List.length_set] at this; omega
              clear hl9
              have hapn : Apart (Value.slice A9' n9' c9').ownBlock none := Apart.symm (.inl rfl)
              have hapn7 : Apart v7'.ownBlock none := Apart.symm (.inl rfl)
              go_wp2_with (first
                | (at_builtin; refine wpList_appendI_at _ rfl (.tmp 69) (.tmp 70) _ rfl w.heap.size 3 _ _ Tryd.underlying22 infoI rfl (.slice none 0 0) 0 [] rfl (Row.nil_ _ _ _) ad8 n8 c8 (held.map Prod.fst) rfl (Row.reads R8j) (by simp only [maxLen]; omega) (by omega) hbj ?_; intro v13 w4 R13 g13 far13
                   have hB4 := hBj.grown g13 hbj (fun b hb => by cases hb)
                   have hb4 := hB4.size
                   simp only [List.nil_append, Nat.zero_add] at R13
                   obtain ⟨b13, c13, hv13, hbb13⟩ := R13.form0 (show 0 < n8 by omega)
                   subst hv13
                   have hfar : wr.heap.size ≤ wr.heap.size ∧ ∀ z, (Value.slice A9' n9' c9').ownBlock = some z → z ≠ b13 := ⟨Nat.le_refl _, fun z hz he => by
                     rcases far13 with e | ⟨g, e, hg⟩
                     · cases e
                     · have e' : b13 = g := by simpa [Value.ownBlock] using e
                       have h9 := (R9j.lt z hz).2
                       subst e'
                       omega⟩
                   have hap9 : Apart (Value.slice A9' n9' c9').ownBlock (some b13) := by
                     cases hz : (Value.slice A9' n9' c9').ownBlock with
                     | none => exact .inl rfl
                     | some z => exact .inr (fun e => by injection e with e; exact hfar.2 z hz e)
                   have R9w := Row.apart R9j g13 hapn
                   have R7w := Row.apart R7j g13 hapn7
                   have hc13 : w4.cell? ⟨b13, hand', none⟩ = some (.int .i64 q) := by
                     rw [World.ownsRow.cellAt R13 hand' (by omega), List.getElem?_map, ← HCUR.out, List.getElem?_map, HQC.out]; rfl
                   have hfr := World.ownsRow.frozenAt R13 hand'
                   have hst := World.ownsRow.stored R13 hand' (.int .i64 y)
                   obtain ⟨hst1, hst2⟩ := hst
                   rw [← List.map_set] at hst1
                   have HST1 := Lib.hid hst1
                   have HGR := Lib.hid hst2
                   have R9x := Row.apart R9w hst2 hap9
                   have R7x := Row.kept R7w hst2 (v' := .slice (some ⟨b13, 0, none⟩) n8 c13) R13 (by decide)
                   have hB5 := hB4.grown hst2 hb4 (fun b hb => by injection hb with hb; omega)
                   have hb5 := hB5.size
                   have hsz5 : (w4.setCell ⟨b13, hand', none⟩ (.int .i64 y)).heap.size = w4.heap.size := by simp [World.setCell]
                   clear hst1 hst2 hfar)
                | (at_builtin; refine wpList_push_at _ rfl (.tmp 77) (.tmp 79) _ rfl w.heap.size 3 _ _ Tryd.underlying22 infoI rfl (by decide) _ _ _ rfl R9x (.int .i64 y) (by rw [hsz5]; rfl) rfl (by omega) hb5 ?_; intro v9' w6 R9y g9 far9))
              have F9 := Lib.hid R9y.form
              go_roundw
              case rel =>
                obtain ⟨A', c', hv2, _, _⟩ := F9.out
                refine ⟨k + 1, n8, c13, n9' + 1, c', (hand' + 1) % n8, _, A', by omega, by go_num, rfl, hv2, by first | rfl | rw [HMOD.out], hits ++ [false], cur.set hand' (y, true), ak' ++ [y], by rw [HNX.out, HE.out], HA2.out, by rw [List.map_append]; exact Row.kept R7x g9 R9x (by decide), by rw [HMS.out]; exact Row.apart HST1.out g9 hap9.symm, by rw [List.map_append]; exact R9y, Apart.far hap9.symm far9 (fun b hb => (HST1.out.lt b hb).2), hn8, hn9'', hmod, hB5.grown g9 hb5 (fun b hb => (R9x.lt b hb).1)⟩
              case measure => simp [intOf]; omega
            · have HA2 := Lib.hid (HAC.out.clear HNC.out HQC.out)
              have HFS := Lib.hid (set_fst (c := false) HQC.out)
              have HSW2 := Lib.hid (sweep_step HSW.out HQC.out)
              have HMS := Lib.hid (marks_set _ _ _ HQC.out)
              have hl9 : ak'.length = n9' := by have := R9j.len; simpa using this
              have HEL : Hid ((ak'.erase q).length ≤ n9') := Lib.hid (by have := List.length_erase_le (a := q) (l := ak'); omega)
              clear hl9
              go_wp2_with fail
              refine (without_ok _ _ _ _ q _ (Row.reads R9j) (by omega)).mono ?_; rintro e w4 ⟨A3, m3, c3, rfl, R3, hB3⟩
              have hm3 : m3 ≤ n9' := by have := R3.len; have h2 := HEL.out; rw [List.length_map] at this; omega
              have hB4 := hBj.trans (hB3.mono hbj)
              have L3 := Lib.hid R3.lt
              have R3' := R3.base_down hbj
              have R7w := R7j.below hB3
              have R8w := R8j.below hB3
              have hap3 : Apart (Value.slice (some ad8) n8 c8).ownBlock (Value.slice A3 m3 c3).ownBlock := by
                cases hz : (Value.slice A3 m3 c3).ownBlock with
                | none => exact Apart.symm (.inl rfl)
                | some z => exact .inr (fun e => by have h1 := (L3.out z hz).1; have h2 := (R8j.lt z e).2; omega)
              clear R3
              go_wp2
              go_roundg (marks (cur.set hand' (q, false)))
              case measure => have h1 := HMS.out; have h2 := HMK.out; omega
              case rel =>
                exact ⟨(hand' + 1) % n8, m3, c3, A3, cur.set hand' (q, false), ak'.erase q, rfl, by first | rfl | rw [HMOD.out], hmod, by omega, by rw [HFS.out]; exact HCUR.out, HA2, HSW2, rfl, R7w, R8w, R3', hap3, hB4⟩
    · have HE := Lib.hid (show k = n by omega)
      have F7 := Lib.hid R7.form
      have HT : Hid (clockRun s l = ⟨hits, held, hand⟩) := Lib.hid (by have := HF'.out; rwa [List.take_of_length_le (by have := HL.out; omega)] at this)
      go_wp2
      obtain ⟨A1, c1, hv, _, _⟩ := F7.out
      refine bodyPost_ret (v := .tuple #[u7, .slice A8 n8 c8, .int .i64 (hand : Int)]) (by simp [results, Tryd.results7, go_sem]) rfl ?_
      rw [hv] at R7
      rw [HT.out]
      refine ⟨A1, c1, A8, n8, c8, by rw [hv, HE.out], ?_, Row.reads R8, by omega, hB⟩
      rw [← HE.out]; exact Row.readsB R7
end Go.Proofs.YtpamnnnihfjdkaaDoor
