/- A row of tenants (a page, and its credit), which the call made itself; the walks of slices.IndexFunc and slices.Delete on it. -/
import Derived.Test.YtmeamgeojcbljaaDoorInts
import Derived.Test.YtmeamgeojcbljaaDoorInfo
import Derived.Laws.OwnMore
import Derived.Shelf.RegionOpenPlain
import Derived.Deep.RegionLaw
import Derived.Deep.AppendLies
import Derived.Lib.SliceRun
import Derived.Outline
namespace Go.Proofs.YtmeamgeojcbljaaDoor
open Go.ChangeShapes Go.WideShapes Go.ChangeAt Go.RowKit

/-- The cells of a list of tenants. -/
def cellsT (l : List (Int × Int)) : List Value := l.flatMap fun s => [.int .i64 s.1, .int .i64 s.2]
theorem cellsT_len (l : List (Int × Int)) : (cellsT l).length = l.length * 2 := by
  induction l with
  | nil => rfl
  | cons s l ih => simp only [cellsT, List.flatMap_cons, List.length_append, List.length_cons, List.length_nil] at *; omega
theorem cellsT_append (l m : List (Int × Int)) : cellsT (l ++ m) = cellsT l ++ cellsT m := List.flatMap_append
theorem cellsT_at : ∀ (l : List (Int × Int)) (k : Nat) (s : Int × Int), l[k]? = some s → (cellsT l)[k * 2]? = some (.int .i64 s.1) ∧ (cellsT l)[k * 2 + 1]? = some (.int .i64 s.2) := by
  intro l
  induction l with
  | nil => intro k s h; simp at h
  | cons t l ih =>
    intro k s h
    have e : cellsT (t :: l) = .int .i64 t.1 :: .int .i64 t.2 :: cellsT l := rfl
    rw [e]
    rcases k with _ | k
    · simp at h; subst h; exact ⟨rfl, rfl⟩
    · have := ih k s (by simpa using h)
      rw [show (k + 1) * 2 = k * 2 + 1 + 1 by omega, List.getElem?_cons_succ, List.getElem?_cons_succ, show k * 2 + 1 + 1 + 1 = (k * 2 + 1) + 1 + 1 by omega, List.getElem?_cons_succ, List.getElem?_cons_succ]
      exact this
theorem cellsT_set1 : ∀ (l : List (Int × Int)) (k : Nat) (s : Int × Int) (b : Int), l[k]? = some s → (cellsT l).set (k * 2 + 1) (.int .i64 b) = cellsT (l.set k (s.1, b)) := by
  intro l
  induction l with
  | nil => intro k s b h; simp at h
  | cons t l ih =>
    intro k s b h
    have e : cellsT (t :: l) = .int .i64 t.1 :: .int .i64 t.2 :: cellsT l := rfl
    rcases k with _ | k
    · simp at h; subst h; rfl
    · have := ih k s b (by simpa using h)
      rw [e, show (k + 1) * 2 + 1 = (k * 2 + 1) + 1 + 1 by omega, List.set_cons_succ, List.set_cons_succ, this]; rfl
theorem cellsT_set2 : ∀ (l : List (Int × Int)) (k : Nat) (x : Int) (b : Int), k < l.length → ((cellsT l).set (k * 2) (.int .i64 x)).set (k * 2 + 1) (.int .i64 b) = cellsT (l.set k (x, b)) := by
  intro l
  induction l with
  | nil => intro k x b h; simp at h
  | cons t l ih =>
    intro k x b h
    have e : cellsT (t :: l) = .int .i64 t.1 :: .int .i64 t.2 :: cellsT l := rfl
    rcases k with _ | k
    · rfl
    · have := ih k x b (by simpa using h)
      rw [e, show (k + 1) * 2 + 1 = (k * 2 + 1) + 1 + 1 by omega, show (k + 1) * 2 = k * 2 + 1 + 1 by omega, List.set_cons_succ, List.set_cons_succ, List.set_cons_succ, List.set_cons_succ, this]; rfl

/-- A row of tenants of the call's own. -/
def RowT (w : World) (base : Nat) (v : Value) (n : Nat) (l : List (Int × Int)) : Prop := w.ownsRow base 76 2 v n (cellsT l)
theorem RowT.len {w : World} {base : Nat} {v : Value} {n : Nat} {l : List (Int × Int)} (h : RowT w base v n l) : l.length = n := by
  have := h.1; rw [cellsT_len] at this; omega

theorem ownT_below {w w' : World} {base : Nat} {e : TypeId} {z : Nat} {v : Value} {n : Nat} {xs : List Value} (h : w.ownsRow base e z v n xs) (hb : Below w.heap.size w w') : w'.ownsRow base e z v n xs := by
  refine ⟨h.1, ?_⟩
  rcases h.2 with hn | ⟨g, cap, cur, rfl, hb', hgg, rest⟩
  · exact .inl hn
  · exact .inr ⟨g, cap, cur, rfl, hb', by rw [hb.block g (Array.getElem?_eq_some_iff.1 hgg).1]; exact hgg, rest⟩
theorem ownT_kept {w w' : World} {base base' : Nat} {e e' : TypeId} {z z' : Nat} {v v' : Value} {n n' : Nat} {xs xs' : List Value} (h : w.ownsRow base e z v n xs) (hg : w.grownBy w' v'.ownBlock) (h' : w.ownsRow base' e' z' v' n' xs') (hne : e ≠ e') : w'.ownsRow base e z v n xs := by
  refine World.ownsRow.kept h hg ?_
  rcases h.2 with ⟨rfl, _⟩ | ⟨g, cap, cur, rfl, _, hh, _⟩
  · exact .inl rfl
  · refine .inr fun he => ?_
    rcases h'.2 with ⟨rfl, _⟩ | ⟨g', cap', cur', rfl, _, hh', _⟩
    · cases he
    · have : g = g' := by simpa [Value.ownBlock] using he
      subst this
      rw [hh] at hh'
      injection hh' with hh'
      injection hh' with _ ht
      exact hne ht
theorem ownT_form {w : World} {base : Nat} {e : TypeId} {z : Nat} {v : Value} {n : Nat} {xs : List Value} (h : w.ownsRow base e z v n xs) : ∃ A c, v = .slice A n c ∧ n ≤ c ∧ c ≤ maxLen := by
  rcases h.2 with ⟨rfl, rfl⟩ | ⟨g, cap, cur, rfl, _, _, h1, h2, _⟩
  · exact ⟨none, 0, rfl, by omega, by simp [maxLen]⟩
  · exact ⟨_, _, rfl, h1, h2⟩
/-- append of one tenant that was just laid in a new block. -/
theorem wpList_pushT {P : Program} (w : World) {ops : Array Oper} {rest : List Oper} {o : Oper} {a : Act} {Q : Exit → Act → World → Prop} (hgd : o.guard = none) (s x : Operand) (t : TypeId)
    (ho : o.op = .call { callee := .builtin .append, args := #[s, x], argTypes := #[t, t] })
    (base : Nat) (e : TypeId) (z : Value) (bytes : Nat) (ht : P.underlying t = some (.slice e)) (hi : (P.info? e).map (fun i => (i.zero, i.size, i.bytes)) = some (some z, 2, bytes))
    (hzs : z.cells.size = 2) (hb8 : bytes ≤ 16)
    (v : Value) (n : Nat) (xs : List Value) (hs : a.eval s = v) (hown : w.ownsRow base e 2 v n xs)
    (u1 u2 : Value) (hx : a.eval x = .slice (some ⟨w.heap.size, 0, none⟩) 1 1) (h1 : u1.oneCell' = true) (h2 : u2.oneCell' = true)
    (hn : n ≤ 1048576) (hbase : base ≤ w.heap.size)
    (h : ∀ v' w', w'.ownsRow base e 2 v' (n + 1) (xs ++ [u1, u2]) → w.grownBy w' v.ownBlock → wpList P ops Q rest (a.put o.dst v') w') : wpList P ops Q (o :: rest) a (w.alloc (.cells #[u1, u2] e)) := by
  obtain ⟨i0, hi0, hz0, hz1, hz2⟩ := info_parts hi
  have hby : (n + 1) * bytes ≤ 140737488355328 := Nat.le_trans (Nat.mul_le_mul (show n + 1 ≤ 1048577 by omega) hb8) (by decide)
  refine wpList_append_own _ hgd s x t ho base e i0 z 2 bytes ht hi0 hz0 hz1 hz2 hzs (by omega) v n xs hs (World.ownsRow.alloc hown _) ⟨w.heap.size, 0, none⟩ 1 1 [u1, u2] hx rfl ?_ ?_ ?_ hby ?_ ?_
  · intro j y hy
    have hadd : (⟨w.heap.size, 0, none⟩ : Addr).add j = ⟨w.heap.size, j, none⟩ := by unfold Addr.add; split <;> simp_all
    show (w.alloc _).cell? _ = _
    rw [hadd, World.cell?_alloc_at _ _ _ _ rfl]
    match j with
    | 0 => simp at hy; subst hy; rfl
    | 1 => simp at hy; subst hy; rfl
    | j + 2 => simp at hy
  · intro y hy
    simp at hy
    rcases hy with rfl | rfl
    · exact h1
    · exact h2
  · simp only [maxLen]; omega
  · simp; omega
  · intro v' w' ho' hg' _
    exact h v' w' ho' (grownBy_trans (World.grownBy_alloc w _ _) hg')
/-- The same at a step of a region that draws. -/
theorem step_pushT {P : Program} (w : World) {ops : Array Oper} {o : Oper} {a : Act} {K : Act → World → Prop} {Q : Exit → Act → World → Prop} {E : Prop} (hgd : o.guard = none) (s x : Operand) (t : TypeId)
    (ho : o.op = .call { callee := .builtin .append, args := #[s, x], argTypes := #[t, t] })
    (base : Nat) (e : TypeId) (z : Value) (bytes : Nat) (ht : P.underlying t = some (.slice e)) (hi : (P.info? e).map (fun i => (i.zero, i.size, i.bytes)) = some (some z, 2, bytes))
    (hzs : z.cells.size = 2) (hb8 : bytes ≤ 16)
    (v : Value) (n : Nat) (xs : List Value) (hs : a.eval s = v) (hown : w.ownsRow base e 2 v n xs)
    (u1 u2 : Value) (hx : a.eval x = .slice (some ⟨w.heap.size, 0, none⟩) 1 1) (h1 : u1.oneCell' = true) (h2 : u2.oneCell' = true)
    (hn : n ≤ 1048576) (hbase : base ≤ w.heap.size)
    (h : ∀ v' w', w'.ownsRow base e 2 v' (n + 1) (xs ++ [u1, u2]) → w.grownBy w' v.ownBlock → K (a.put o.dst v') w') : if Region.wanted o (yielded ops a.tmps) = true then Oper.wp P o a (w.alloc (.cells #[u1, u2] e)) K Q else E := by
  obtain ⟨i0, hi0, hz0, hz1, hz2⟩ := info_parts hi
  have hby : (n + 1) * bytes ≤ 140737488355328 := Nat.le_trans (Nat.mul_le_mul (show n + 1 ≤ 1048577 by omega) hb8) (by decide)
  refine step_append_lies _ hgd s x t ho base e i0 z 2 bytes ht hi0 hz0 hz1 hz2 hzs (by omega) v n xs hs (World.ownsRow.alloc hown _) ⟨w.heap.size, 0, none⟩ 1 1 [u1, u2] hx rfl ?_ ?_ (by omega) ?_ hby ?_ _ rfl ?_
  · intro j y hy
    have hadd : (⟨w.heap.size, 0, none⟩ : Addr).add j = ⟨w.heap.size, j, none⟩ := by unfold Addr.add; split <;> simp_all
    show (w.alloc _).cell? _ = _
    rw [hadd, World.cell?_alloc_at _ _ _ _ rfl]
    match j with
    | 0 => simp at hy; subst hy; rfl
    | 1 => simp at hy; subst hy; rfl
    | j + 2 => simp at hy
  · intro y hy
    simp at hy
    rcases hy with rfl | rfl
    · exact h1
    · exact h2
  · simp only [maxLen]; omega
  · simp; omega
  · intro g cap w' ho' hg' _ _
    exact h _ w' ho' (grownBy_trans (World.grownBy_alloc w _ _) hg')
theorem infoT : (Tryd.prog.info? 76).map (fun i => (i.zero, i.size, i.bytes)) = some (some (.agg #[.int .i64 0, .int .i64 0]), 2, 16) := by kernel_rfl

/-- A slice of tenants reads as a list of pages and marks. -/
def RTn (w : World) (A : Option Addr) (n : Nat) (l : List (Int × Int)) : Prop :=
  l.length = n ∧ (0 < n → ∃ g, A = some ⟨g, 0, none⟩ ∧ ∀ k s, l[k]? = some s → w.cell? ⟨g, k * 2, none⟩ = some (.int .i64 s.1) ∧ w.cell? ⟨g, k * 2 + 1, none⟩ = some (.int .i64 s.2))
theorem RTn.at_ {w : World} {A : Option Addr} {n : Nat} {l : List (Int × Int)} (h : RTn w A n l) {k : Nat} (hk : k < n) :
    ∃ g s, A = some ⟨g, 0, none⟩ ∧ Hid (l[k]? = some s) ∧ w.cell? ⟨g, k * 2, none⟩ = some (.int .i64 s.1) ∧ w.cell? ⟨g, k * 2 + 1, none⟩ = some (.int .i64 s.2) := by
  obtain ⟨g, e, hc⟩ := h.2 (by omega)
  have hl : k < l.length := by have := h.1; omega
  have h1 := List.getElem?_eq_getElem hl
  exact ⟨g, l[k], e, h1, hc k _ h1⟩
theorem RTn.below {w w' : World} {A : Option Addr} {n : Nat} {l : List (Int × Int)} (h : RTn w A n l) (hb : Below w.heap.size w w') : RTn w' A n l :=
  ⟨h.1, fun hn => by
    obtain ⟨g, e, hc⟩ := h.2 hn
    refine ⟨g, e, fun k s hs => ?_⟩
    obtain ⟨h1, h2⟩ := hc k s hs
    exact ⟨by rw [hb.cell (cell_lt h1)]; exact h1, by rw [hb.cell (cell_lt h2)]; exact h2⟩⟩
theorem RowT.reads {w : World} {base : Nat} {A : Option Addr} {n c : Nat} {l : List (Int × Int)} (h : RowT w base (.slice A n c) n l) : RTn w A n l := by
  refine ⟨h.len, fun hn => ?_⟩
  obtain ⟨g, hA⟩ : ∃ g, A = some ⟨g, 0, none⟩ := by
    rcases h.2 with ⟨_, h0⟩ | ⟨g, cap, cur, hv, _⟩
    · omega
    · injection hv with hA _ hC
      exact ⟨g, hA⟩
  subst hA
  refine ⟨g, rfl, fun k s hs => ?_⟩
  obtain ⟨h1, h2⟩ := cellsT_at l k s hs
  have hk : k < n := by have := (List.getElem?_eq_some_iff.1 hs).1; have := h.len; omega
  exact ⟨by rw [World.ownsRow.cellAt h (k * 2) (by omega)]; exact h1, by rw [World.ownsRow.cellAt h (k * 2 + 1) (by omega)]; exact h2⟩
theorem mem_fstT_of_at {l : List (Int × Int)} {k : Nat} {s : Int × Int} (h : l[k]? = some s) : (l.map Prod.fst)[k]? = some s.1 := by rw [List.getElem?_map, h]; rfl

set_option maxHeartbeats 1000000 in
theorem tenantIs (q p : Int) (b : Int) (pa : Addr) (w : World) (hp : w.cell? pa = some (.int .i64 p)) :
    Calls Tryd.prog 59 #[.agg #[.int .i64 q, .int .i64 b], .pointer (some pa)] w fun e w' => e = .returned (.bool (q == p)) ∧ Below w.heap.size w w' := by
  have hpl := cell_lt hp
  have hp2 : (w.alloc (.cells #[.int .i64 q, .int .i64 b] 76)).cell? pa = some (.int .i64 p) := by rw [World.cell?_alloc_lt _ _ pa hpl]; exact hp
  go_enter Tryd.func59, Tryd.ntmps59
  go_wp2
  go_ret
  exact ⟨rfl, (Below.refl _ _).alloc (Nat.le_refl _) _⟩

set_option maxHeartbeats 1000000 in
theorem indexTenant (A : Option Addr) (n c : Nat) (l : List (Int × Int)) (p : Int) (pa : Addr) (w : World) (h : RTn w A n l) (hn : n ≤ 100) (hp : w.cell? pa = some (.int .i64 p)) :
    Calls Tryd.prog 58 #[.slice A n c, .func (Fn.func 59) #[] #[.pointer (some pa)]] w fun e w' => e = .returned (.int .i64 (ixI (l.map Prod.fst) p)) ∧ Below w.heap.size w w' := by
  have HL := Lib.hid h.1
  go_enter Tryd.func58, Tryd.ntmps58
  go_wp2
  go_loopw [5, 8] (fun _ i wr => ∃ k : Nat, k ≤ n ∧ i = .int .i64 k ∧ Below w.heap.size w wr ∧ Hid (p ∉ (l.map Prod.fst).take k)) (fun _ i _ => n - (intOf i).toNat)
  case atStart => exact ⟨0, by omega, by go_num, Below.refl _ _, by simp [Hid]⟩
  case round =>
    obtain ⟨k, hk, rfl, hB, hx⟩ := hrel
    by_cases hlt : k < n
    · obtain ⟨g, s, rfl, HS, hc0, hc1⟩ := (h.below hB).at_ hlt
      obtain ⟨q, b⟩ := s
      have hpr : wr.cell? pa = some (.int .i64 p) := by rw [hB.cell (cell_lt hp)]; exact hp
      by_cases hqp : q = p
      · subst hqp
        have HE := Lib.hid (show ixI (l.map Prod.fst) q = k by
          have h1 := mem_fstT_of_at HS.out
          rw [ixI_mem (mem_of_at h1), idxOf_at hx.out h1])
        have hb : (q == q) = true := by simp
        go_wp2_with fail
        refine (tenantIs q q b pa _ hpr).mono ?_; rintro e w' ⟨rfl, hB2⟩
        rw [hb]
        clear hb
        go_wp2
        go_ret
        rw [HE.out]
        exact ⟨rfl, hB.trans (hB2.mono hB.size)⟩
      · have HE := Lib.hid (not_mem_take_succ hx.out (mem_fstT_of_at HS.out) hqp)
        have hb : (q == p) = false := by simp [hqp]
        go_wp2_with fail
        refine (tenantIs q p b pa _ hpr).mono ?_; rintro e w' ⟨rfl, hB2⟩
        rw [hb]
        clear hb
        go_wp2
        go_roundw
        case rel => exact ⟨k + 1, by omega, by go_num, hB.trans (hB2.mono hB.size), HE⟩
        case measure => simp [intOf]; omega
    · have HE := Lib.hid (ixI_not (l := l.map Prod.fst) (x := p) (by have := hx.out; rw [List.take_of_length_le (by have := HL.out; simp; omega)] at this; exact this))
      go_wp2
      go_ret
      rw [HE.out]
      exact ⟨rfl, hB⟩

theorem mem_sndT_of_at {l : List (Int × Int)} {k : Nat} {s : Int × Int} (h : l[k]? = some s) : (l.map Prod.snd)[k]? = some s.2 := by rw [List.getElem?_map, h]; rfl

set_option maxHeartbeats 1000000 in
theorem tenantBroke (q b : Int) (w : World) :
    Calls Tryd.prog 60 #[.agg #[.int .i64 q, .int .i64 b]] w fun e w' => e = .returned (.bool (b == 0)) ∧ Below w.heap.size w w' := by
  go_enter Tryd.func60, Tryd.ntmps60
  go_wp2
  go_ret
  exact ⟨rfl, (Below.refl _ _).alloc (Nat.le_refl _) _⟩

set_option maxHeartbeats 1000000 in
theorem indexBroke (A : Option Addr) (n c : Nat) (l : List (Int × Int)) (w : World) (h : RTn w A n l) (hn : n ≤ 100) :
    Calls Tryd.prog 58 #[.slice A n c, .func (Fn.func 60) #[] #[]] w fun e w' => e = .returned (.int .i64 (ixI (l.map Prod.snd) 0)) ∧ Below w.heap.size w w' := by
  have HL := Lib.hid h.1
  go_enter Tryd.func58, Tryd.ntmps58
  go_wp2
  go_loopw [5, 8] (fun _ i wr => ∃ k : Nat, k ≤ n ∧ i = .int .i64 k ∧ Below w.heap.size w wr ∧ Hid ((0 : Int) ∉ (l.map Prod.snd).take k)) (fun _ i _ => n - (intOf i).toNat)
  case atStart => exact ⟨0, by omega, by go_num, Below.refl _ _, by simp [Hid]⟩
  case round =>
    obtain ⟨k, hk, rfl, hB, hx⟩ := hrel
    by_cases hlt : k < n
    · obtain ⟨g, s, rfl, HS, hc0, hc1⟩ := (h.below hB).at_ hlt
      obtain ⟨q, b⟩ := s
      by_cases hqp : b = 0
      · subst hqp
        have HE := Lib.hid (show ixI (l.map Prod.snd) 0 = k by
          have h1 := mem_sndT_of_at HS.out
          rw [ixI_mem (mem_of_at h1), idxOf_at hx.out h1])
        have hb : ((0 : Int) == 0) = true := rfl
        go_wp2_with fail
        refine (tenantBroke q 0 _).mono ?_; rintro e w' ⟨rfl, hB2⟩
        rw [hb]
        clear hb
        go_wp2
        go_ret
        rw [HE.out]
        exact ⟨rfl, hB.trans (hB2.mono hB.size)⟩
      · have HE := Lib.hid (not_mem_take_succ hx.out (mem_sndT_of_at HS.out) hqp)
        have hb : (b == (0 : Int)) = false := by simp [hqp]
        go_wp2_with fail
        refine (tenantBroke q b _).mono ?_; rintro e w' ⟨rfl, hB2⟩
        rw [hb]
        clear hb
        go_wp2
        go_roundw
        case rel => exact ⟨k + 1, by omega, by go_num, hB.trans (hB2.mono hB.size), HE⟩
        case measure => simp [intOf]; omega
    · have HE := Lib.hid (ixI_not (l := l.map Prod.snd) (x := 0) (by have := hx.out; rw [List.take_of_length_le (by have := HL.out; simp; omega)] at this; exact this))
      go_wp2
      go_ret
      rw [HE.out]
      exact ⟨rfl, hB⟩

/-- clear of one element of two cells. -/
theorem run_clear_two {P : Program} (w : World) (t e ty : TypeId) (z z1 z2 : Value) (ht : P.underlying t = some (.slice e)) (hv : ∀ w, (zeroValue e).run P w = .ok z w) (hz : z.cells = #[z1, z2]) (h1 : z1.oneCell' = true) (h2 : z2.oneCell' = true) (b o c : Nat)
    (hc : ∀ j, j < 2 → (w.cell? ⟨b, o + j, none⟩).isSome = true) (hf : ∀ j, j < 2 → w.frozen? ⟨b, o + j, none⟩ = false) :
    (Builtin.clear_ #[t] ty #[.slice (some ⟨b, o, none⟩) 1 c]).run P w = .ok (.tuple #[]) (w.setCells b o [z1, z2]) := by
  have hzc : (Builtin.zeroCells z.cells 1).toList = [z1, z2] := by
    rw [hz]
    simp [Builtin.zeroCells]
    rfl
  have hst := run_storeCells_cells (P := P) b o [z1, z2] 0 w (by simpa using hc) (by simpa using hf) (by
    intro v hv'
    simp at hv'
    rcases hv' with rfl | rfl
    · exact h1
    · exact h2)
  simp only [Nat.add_zero] at hst
  simp [Builtin.clear_, run_underlying ht, hv, hzc, hst]

theorem own_setCells {w : World} {base : Nat} {e : TypeId} {z g n c : Nat} {xs : List Value} (h : w.ownsRow base e z (.slice (some ⟨g, 0, none⟩) n c) n xs) (o : Nat) (vs : List Value) (ho : o + vs.length ≤ n * z) :
    (w.setCells g o vs).ownsRow base e z (.slice (some ⟨g, 0, none⟩) n c) n (xs.take o ++ vs ++ xs.drop (o + vs.length)) := by
  have hx := h.1
  refine ⟨by simp; omega, ?_⟩
  rcases h.2 with ⟨hv', _⟩ | ⟨g', cap, cur, hv', hb, hh, hnc, hcm, hcs, ht⟩
  · cases hv'
  · injection hv' with hA _ hC
    injection hA with hA
    injection hA with hg
    subst hg hC
    have hle : n * z ≤ c * z := Nat.mul_le_mul_right _ hnc
    obtain ⟨cur', h1, h2, h3⟩ := row_setCells g e vs o w cur hh (by omega)
    refine .inr ⟨g, c, cur', rfl, hb, h1, hnc, hcm, by omega, ?_⟩
    obtain ⟨R, hR⟩ : ∃ R, cur.toList = xs ++ R := ⟨cur.toList.drop (n * z), by rw [← ht, List.take_append_drop]⟩
    have e1 : (xs ++ R).take o = xs.take o := List.take_append_of_le_length (by omega)
    have e2 : (xs ++ R).drop (o + vs.length) = xs.drop (o + vs.length) ++ R := List.drop_append_of_le_length (by omega)
    rw [h3, hR, e1, e2, ← List.append_assoc]
    rw [List.take_append_of_le_length (by simp; omega), List.take_of_length_le (by simp; omega)]
theorem own_cut {w : World} {base : Nat} {e : TypeId} {z g n c : Nat} {xs : List Value} (h : w.ownsRow base e z (.slice (some ⟨g, 0, none⟩) n c) n xs) (m : Nat) (hm : m ≤ n) :
    w.ownsRow base e z (.slice (some ⟨g, 0, none⟩) m c) m (xs.take (m * z)) := by
  have hx := h.1
  have hle : m * z ≤ n * z := Nat.mul_le_mul_right _ hm
  refine ⟨by rw [List.length_take]; omega, ?_⟩
  rcases h.2 with ⟨hv', _⟩ | ⟨g', cap, cur, hv', hb, hh, hnc, hcm, hcs, ht⟩
  · cases hv'
  · injection hv' with hA _ hC
    injection hA with hA
    injection hA with hg
    subst hg hC
    refine .inr ⟨g, c, cur, rfl, hb, hh, by omega, hcm, hcs, ?_⟩
    rw [← ht, List.take_take, Nat.min_eq_left hle]
theorem cellsT_take (l : List (Int × Int)) (i : Nat) : (cellsT l).take (i * 2) = cellsT (l.take i) := by
  rcases Nat.lt_or_ge i l.length with h | h
  · have e : cellsT l = cellsT (l.take i) ++ cellsT (l.drop i) := by rw [← cellsT_append, List.take_append_drop]
    rw [e, List.take_append_of_le_length (by rw [cellsT_len, List.length_take]; omega), List.take_of_length_le (by rw [cellsT_len, List.length_take]; omega)]
  · rw [List.take_of_length_le h, List.take_of_length_le (by rw [cellsT_len]; omega)]
theorem cellsT_drop (l : List (Int × Int)) (i : Nat) : (cellsT l).drop (i * 2) = cellsT (l.drop i) := by
  rcases Nat.lt_or_ge i l.length with h | h
  · have e : cellsT l = cellsT (l.take i) ++ cellsT (l.drop i) := by rw [← cellsT_append, List.take_append_drop]
    rw [e, List.drop_append, List.drop_eq_nil_of_le (by rw [cellsT_len, List.length_take]; omega), cellsT_len, List.length_take]
    rw [show i * 2 - min i l.length * 2 = 0 by omega]; simp
  · rw [List.drop_eq_nil_of_le h, List.drop_eq_nil_of_le (by rw [cellsT_len]; omega)]; rfl
theorem zeroT (w : World) : (zeroValue 76).run Tryd.prog w = .ok (.agg #[.int .i64 0, .int .i64 0]) w := Tryd.zeroValue76 w
theorem cellsT_split (l : List (Int × Int)) (i : Nat) : cellsT l = cellsT (l.take i) ++ cellsT (l.drop i) := by rw [← cellsT_append, List.take_append_drop]

set_option maxRecDepth 100000 in
set_option maxHeartbeats 2000000 in
theorem deleteT (base g n c i : Nat) (l : List (Int × Int)) (w : World) (h : RowT w base (.slice (some ⟨g, 0, none⟩) n c) n l) (hi : i < n) (hnc : n ≤ c) (hn : n ≤ 100) :
    Calls Tryd.prog 61 #[.slice (some ⟨g, 0, none⟩) n c, .int .i64 i, .int .i64 ((i : Int) + 1)] w fun e w' =>
      e = .returned (.slice (some ⟨g, 0, none⟩) (n - 1) c) ∧ RowT w' base (.slice (some ⟨g, 0, none⟩) (n - 1) c) (n - 1) (l.take i ++ l.drop (i + 1)) ∧ w.grownBy w' (some g) := by
  have hlen := h.len
  obtain ⟨news, hnews⟩ : ∃ news, news = cellsT (l.drop (i + 1)) := ⟨_, rfl⟩
  have hnl : news.length = (n - (i + 1)) * 2 := by rw [hnews, cellsT_len, List.length_drop]; omega
  have hcl : (cellsT l).length = n * 2 := by rw [cellsT_len, hlen]
  have hrow : World.ownsRow w base 76 2 (.slice (some ⟨g, 0, none⟩) n c) n (cellsT l) := h
  have hget : ∀ t u, news[t]? = some u → w.cell? ⟨g, (i + 1) * 2 + t, none⟩ = some u := by
    intro t u hu
    have ht := (List.getElem?_eq_some_iff.1 hu).1
    rw [World.ownsRow.cellAt hrow _ (by omega), ← List.getElem?_drop, cellsT_drop, ← hnews]; exact hu
  obtain ⟨A, hA, hsrc⟩ : ∃ A : Addr, (if c = i + 1 then some (⟨g, 0, none⟩ : Addr) else some ⟨g, (i + 1) * 2, none⟩) = some A ∧ Hid (∀ t u, news[t]? = some u → w.drew.cell? (A.add t) = some u) := by
    by_cases hc : c = i + 1
    · refine ⟨⟨g, 0, none⟩, by simp [hc], fun t u hu => ?_⟩
      have h0 : news.length = 0 := by omega
      rw [List.length_eq_zero_iff.1 h0] at hu
      simp at hu
    · refine ⟨⟨g, (i + 1) * 2, none⟩, by simp [hc], fun t u hu => ?_⟩
      rw [show (⟨g, (i + 1) * 2, none⟩ : Addr).add t = ⟨g, (i + 1) * 2 + t, none⟩ from by unfold Addr.add; split <;> simp_all]
      exact hget t u hu
  have s1 : Hid (news.length = (n - (i + 1)) * 2) := hnl
  have s2 : Hid (∀ u ∈ news, u.oneCell' = true) := by
    intro u hu
    rw [hnews] at hu
    unfold cellsT at hu
    obtain ⟨s, _, hs⟩ := List.mem_flatMap.1 hu
    simp at hs
    rcases hs with rfl | rfl <;> rfl
  have s3 : Hid (∀ t, t < news.length → (w.drew.cell? ⟨g, 0 + i * 2 + t, none⟩).isSome = true ∧ w.drew.frozen? ⟨g, 0 + i * 2 + t, none⟩ = false) := by
    intro t ht
    refine ⟨?_, World.ownsRow.frozenAt hrow _⟩
    show (w.cell? _).isSome = true
    rw [World.ownsRow.cellAt hrow _ (by omega), List.getElem?_eq_getElem (by omega)]; rfl
  obtain ⟨W1, hW1⟩ : ∃ W1, W1 = w.drew.setCells g (0 + i * 2) news := ⟨_, rfl⟩
  have hr1 : World.ownsRow W1 base 76 2 (.slice (some ⟨g, 0, none⟩) n c) n ((cellsT l).take (i * 2) ++ news ++ (cellsT l).drop (i * 2 + news.length)) := by
    have := own_setCells (w := w.drew) hrow (i * 2) news (by omega)
    rw [hW1, Nat.zero_add]; exact this
  have hg1 : w.grownBy W1 (some g) := by
    rw [hW1]; exact grownBy_drewN (q := 1) (grownBy_setCells g news _ _)
  have hclr : ∀ ty, (Builtin.clear_ #[73] ty #[.slice (some ⟨g, (i + (n - (i + 1))) * 2, none⟩) (n - (i + (n - (i + 1)))) (c - (i + (n - (i + 1))))]).run Tryd.prog W1 = .ok (.tuple #[]) (W1.setCells g ((n - 1) * 2) [.int .i64 0, .int .i64 0]) := by
    rw [show i + (n - (i + 1)) = n - 1 by omega, show n - (n - 1) = 1 by omega]
    exact fun ty => run_clear_two W1 _ _ ty _ _ _ Tryd.underlying73 zeroT rfl rfl rfl g ((n - 1) * 2) _ (fun j hj => by
      have hx := hr1.1
      rw [World.ownsRow.cellAt hr1 _ (by omega), List.getElem?_eq_getElem (by omega)]; rfl) (fun j hj => World.ownsRow.frozenAt hr1 _)
  have hr2 : RowT (W1.setCells g ((n - 1) * 2) [.int .i64 0, .int .i64 0]) base (.slice (some ⟨g, 0, none⟩) (n - 1) c) (n - 1) (l.take i ++ l.drop (i + 1)) := by
    have h2 := own_cut (own_setCells hr1 ((n - 1) * 2) [.int .i64 0, .int .i64 0] (by simp; omega)) (n - 1) (by omega)
    have e1 : ((cellsT l).take (i * 2) ++ news).length = (n - 1) * 2 := by rw [List.length_append, List.length_take]; omega
    rw [List.append_assoc, List.take_append_of_le_length (by rw [List.length_take, List.length_append]; omega), List.take_take, Nat.min_self, List.take_append_of_le_length (by omega), List.take_of_length_le (by omega), cellsT_take, hnews, ← cellsT_append] at h2
    exact h2
  have hg2 := grownBy_trans hg1 (grownBy_setCells g [.int .i64 0, .int .i64 0] ((n - 1) * 2) W1)
  have HR2 := Lib.hid hr2
  have HG2 := Lib.hid hg2
  have hW : Hid (W1 = w.drew.setCells g (0 + i * 2) news) := hW1
  have hij : ((i : Int) == (i : Int) + 1) = false := by simp; omega
  have hic : i ≤ c := by omega
  have hjc : i + 1 ≤ c := by omega
  have k0 : (0 : Int) ≤ (i : Int) + 1 := by omega
  have k1 : (i : Int) + 1 ≤ (n : Int) := by omega
  have HE : Hid (i + (n - (i + 1)) = n - 1) := Lib.hid (by omega)
  clear hr1 hr2 hg1 hg2 hW1 hget hrow hnews hnl hcl h hlen
  go_enter Tryd.func61, Tryd.ntmps61
  go_wp2_with fail
  have hmix : Tryd.prog.follows .mixedOrders = true := by kernel_rfl
  go_region_law_o (refine step_append_room rfl (.tmp 22) (.tmp 25) 73 rfl 76 _ 2 Tryd.underlying73 rfl rfl g 0 i c (by simp [Act.eval, Act.put]) A (n - (i + 1)) (c - (i + 1)) news (by simp [Act.eval, Act.put]) s1.out hsrc.out s2.out (by omega) s3.out ?_; rw [← hW.out])
  go_wp2
  go_ret
  rw [HE.out]
  exact ⟨rfl, HR2.out, HG2.out⟩

/-- append of one number that lies anywhere, at a step of a region that draws; where the new slice lies. -/
theorem step_push2 {P : Program} (w : World) {ops : Array Oper} {o : Oper} {a : Act} {K : Act → World → Prop} {Q : Exit → Act → World → Prop} {E : Prop} (hgd : o.guard = none) (s x : Operand) (t : TypeId)
    (ho : o.op = .call { callee := .builtin .append, args := #[s, x], argTypes := #[t, t] })
    (base : Nat) (e : TypeId) (z : Value) (bytes : Nat) (ht : P.underlying t = some (.slice e)) (hi : (P.info? e).map (fun i => (i.zero, i.size, i.bytes)) = some (some z, 1, bytes))
    (hzs : z.cells.size = 1) (hb8 : bytes ≤ 16)
    (A : Option Addr) (n c : Nat) (xs : List Value) (hs : a.eval s = .slice A n c) (hown : Row w base e (.slice A n c) n xs)
    (g : Nat) (y : Int) (hx : a.eval x = .slice (some ⟨g, 0, none⟩) 1 1) (hc : w.cell? ⟨g, 0, none⟩ = some (.int .i64 y))
    (hn : n ≤ 1048576) (hbase : base ≤ w.heap.size)
    (h : ∀ g' c' w', Row w' base e (.slice (some ⟨g', 0, none⟩) (n + 1) c') (n + 1) (xs ++ [.int .i64 y]) → w.grownBy w' (Value.slice A n c).ownBlock → Far w.heap.size (Value.slice A n c).ownBlock (some g') → K (a.put o.dst (.slice (some ⟨g', 0, none⟩) (n + 1) c')) w') :
    if Region.wanted o (yielded ops a.tmps) = true then Oper.wp P o a w K Q else E := by
  obtain ⟨i0, hi0, hz0, hz1, hz2⟩ := info_parts hi
  have hby : (n + 1) * bytes ≤ 140737488355328 := Nat.le_trans (Nat.mul_le_mul (show n + 1 ≤ 1048577 by omega) hb8) (by decide)
  refine step_append_lies _ hgd s x t ho base e i0 z 1 bytes ht hi0 hz0 hz1 hz2 hzs (by omega) (.slice A n c) n xs hs hown ⟨g, 0, none⟩ 1 1 [.int .i64 y] hx rfl ?_ ?_ (by omega) ?_ hby hbase _ rfl ?_
  · intro j u hu
    rcases j with _ | j
    · simp at hu
      subst hu
      rw [show (⟨g, 0, none⟩ : Addr).add 0 = ⟨g, 0, none⟩ from by simp [Addr.add]]
      exact hc
    · simp at hu
  · intro u hu
    simp at hu
    subst hu; rfl
  · simp only [maxLen]; omega
  · intro g' c' w' ho' hg' hl _
    refine h g' c' w' ho' hg' ?_
    rcases hl with hl | hl
    · exact .inl hl.symm
    · exact .inr ⟨g', rfl, by omega⟩
end Go.Proofs.YtmeamgeojcbljaaDoor
