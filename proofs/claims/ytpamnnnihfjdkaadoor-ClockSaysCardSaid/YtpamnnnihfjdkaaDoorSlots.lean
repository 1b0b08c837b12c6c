/- A row of slots (a page, and whether it was asked for), which the call made itself; the walk of slices.IndexFunc on it. -/
import Derived.Test.YtpamnnnihfjdkaaDoorInts
import Derived.Test.YtpamnnnihfjdkaaDoorInfo
import Derived.Laws.OwnMore
import Derived.Outline
namespace Go.Proofs.YtpamnnnihfjdkaaDoor
open Go.ChangeShapes Go.WideShapes Go.ChangeAt Go.RowKit

/-- The cells of a list of slots. -/
def cellsS (l : List (Int × Bool)) : List Value := l.flatMap fun s => [.int .i64 s.1, .bool s.2]
theorem cellsS_len (l : List (Int × Bool)) : (cellsS l).length = l.length * 2 := by
  induction l with
  | nil => rfl
  | cons s l ih => simp only [cellsS, List.flatMap_cons, List.length_append, List.length_cons, List.length_nil] at *; omega
theorem cellsS_append (l m : List (Int × Bool)) : cellsS (l ++ m) = cellsS l ++ cellsS m := List.flatMap_append
theorem cellsS_at : ∀ (l : List (Int × Bool)) (k : Nat) (s : Int × Bool), l[k]? = some s → (cellsS l)[k * 2]? = some (.int .i64 s.1) ∧ (cellsS l)[k * 2 + 1]? = some (.bool s.2) := by
  intro l
  induction l with
  | nil => intro k s h; simp at h
  | cons t l ih =>
    intro k s h
    have e : cellsS (t :: l) = .int .i64 t.1 :: .bool t.2 :: cellsS l := rfl
    rw [e]
    rcases k with _ | k
    · simp at h; subst h; exact ⟨rfl, rfl⟩
    · have := ih k s (by simpa using h)
      rw [show (k + 1) * 2 = k * 2 + 1 + 1 by omega, List.getElem?_cons_succ, List.getElem?_cons_succ, show k * 2 + 1 + 1 + 1 = (k * 2 + 1) + 1 + 1 by omega, List.getElem?_cons_succ, List.getElem?_cons_succ]
      exact this
theorem cellsS_set1 : ∀ (l : List (Int × Bool)) (k : Nat) (s : Int × Bool) (b : Bool), l[k]? = some s → (cellsS l).set (k * 2 + 1) (.bool b) = cellsS (l.set k (s.1, b)) := by
  intro l
  induction l with
  | nil => intro k s b h; simp at h
  | cons t l ih =>
    intro k s b h
    have e : cellsS (t :: l) = .int .i64 t.1 :: .bool t.2 :: cellsS l := rfl
    rcases k with _ | k
    · simp at h; subst h; rfl
    · have := ih k s b (by simpa using h)
      rw [e, show (k + 1) * 2 + 1 = (k * 2 + 1) + 1 + 1 by omega, List.set_cons_succ, List.set_cons_succ, this]; rfl
theorem cellsS_set2 : ∀ (l : List (Int × Bool)) (k : Nat) (x : Int) (b : Bool), k < l.length → ((cellsS l).set (k * 2) (.int .i64 x)).set (k * 2 + 1) (.bool b) = cellsS (l.set k (x, b)) := by
  intro l
  induction l with
  | nil => intro k x b h; simp at h
  | cons t l ih =>
    intro k x b h
    have e : cellsS (t :: l) = .int .i64 t.1 :: .bool t.2 :: cellsS l := rfl
    rcases k with _ | k
    · rfl
    · have := ih k x b (by simpa using h)
      rw [e, show (k + 1) * 2 + 1 = (k * 2 + 1) + 1 + 1 by omega, show (k + 1) * 2 = k * 2 + 1 + 1 by omega, List.set_cons_succ, List.set_cons_succ, List.set_cons_succ, List.set_cons_succ, this]; rfl

/-- A row of slots of the call's own. -/
def RowS (w : World) (base : Nat) (v : Value) (n : Nat) (l : List (Int × Bool)) : Prop := w.ownsRow base 51 2 v n (cellsS l)
theorem RowS.len {w : World} {base : Nat} {v : Value} {n : Nat} {l : List (Int × Bool)} (h : RowS w base v n l) : l.length = n := by
  have := h.1; rw [cellsS_len] at this; omega

theorem own_below {w w' : World} {base : Nat} {e : TypeId} {z : Nat} {v : Value} {n : Nat} {xs : List Value} (h : w.ownsRow base e z v n xs) (hb : Below w.heap.size w w') : w'.ownsRow base e z v n xs := by
  refine ⟨h.1, ?_⟩
  rcases h.2 with hn | ⟨g, cap, cur, rfl, hb', hgg, rest⟩
  · exact .inl hn
  · exact .inr ⟨g, cap, cur, rfl, hb', by rw [hb.block g (Array.getElem?_eq_some_iff.1 hgg).1]; exact hgg, rest⟩
theorem own_kept {w w' : World} {base base' : Nat} {e e' : TypeId} {z z' : Nat} {v v' : Value} {n n' : Nat} {xs xs' : List Value} (h : w.ownsRow base e z v n xs) (hg : w.grownBy w' v'.ownBlock) (h' : w.ownsRow base' e' z' v' n' xs') (hne : e ≠ e') : w'.ownsRow base e z v n xs := by
  refine World.ownsRow.kept h hg ?_
  rcases h.2 with ⟨rfl, _⟩ | ⟨g, cap, cur, rfl, _, hh, _⟩
  · exact .inl rfl
  · refine .inr fun he => ?_
    rcases h'.2 with ⟨rfl, _⟩ | ⟨g', cap', cur', rfl, _, hh', _⟩
    · cases he
    · have : g = g' := by simpa [Value.ownBlock] using he
      subst this
      rw [hh] at hh'
      injection hh' with hh'
      injection hh' with _ ht
      exact hne ht
theorem own_form {w : World} {base : Nat} {e : TypeId} {z : Nat} {v : Value} {n : Nat} {xs : List Value} (h : w.ownsRow base e z v n xs) : ∃ A c, v = .slice A n c ∧ n ≤ c ∧ c ≤ maxLen := by
  rcases h.2 with ⟨rfl, rfl⟩ | ⟨g, cap, cur, rfl, _, _, h1, h2, _⟩
  · exact ⟨none, 0, rfl, by omega, by simp [maxLen]⟩
  · exact ⟨_, _, rfl, h1, h2⟩
/-- append of one slot that was just laid in a new block. -/
theorem wpList_pushS {P : Program} (w : World) {ops : Array Oper} {rest : List Oper} {o : Oper} {a : Act} {Q : Exit → Act → World → Prop} (hgd : o.guard = none) (s x : Operand) (t : TypeId)
    (ho : o.op = .call { callee := .builtin .append, args := #[s, x], argTypes := #[t, t] })
    (base : Nat) (e : TypeId) (z : Value) (bytes : Nat) (ht : P.underlying t = some (.slice e)) (hi : (P.info? e).map (fun i => (i.zero, i.size, i.bytes)) = some (some z, 2, bytes))
    (hzs : z.cells.size = 2) (hb8 : bytes ≤ 16)
    (v : Value) (n : Nat) (xs : List Value) (hs : a.eval s = v) (hown : w.ownsRow base e 2 v n xs)
    (u1 u2 : Value) (hx : a.eval x = .slice (some ⟨w.heap.size, 0, none⟩) 1 1) (h1 : u1.oneCell' = true) (h2 : u2.oneCell' = true)
    (hn : n ≤ 1048576) (hbase : base ≤ w.heap.size)
    (h : ∀ v' w', w'.ownsRow base e 2 v' (n + 1) (xs ++ [u1, u2]) → w.grownBy w' v.ownBlock → wpList P ops Q rest (a.put o.dst v') w') : wpList P ops Q (o :: rest) a (w.alloc (.cells #[u1, u2] e)) := by
  obtain ⟨i0, hi0, hz0, hz1, hz2⟩ := info_parts hi
  have hby : (n + 1) * bytes ≤ 140737488355328 := Nat.le_trans (Nat.mul_le_mul (show n + 1 ≤ 1048577 by omega) hb8) (by decide)
  refine wpList_append_own _ hgd s x t ho base e i0 z 2 bytes ht hi0 hz0 hz1 hz2 hzs (by omega) v n xs hs (World.ownsRow.alloc hown _) ⟨w.heap.size, 0, none⟩ 1 1 [u1, u2] hx rfl ?_ ?_ ?_ hby ?_ ?_
  · intro j y hy
    have hadd : (⟨w.heap.size, 0, none⟩ : Addr).add j = ⟨w.heap.size, j, none⟩ := by unfold Addr.add; split <;> simp_all
    show (w.alloc _).cell? _ = _
    rw [hadd, World.cell?_alloc_at _ _ _ _ rfl]
    match j with
    | 0 => simp at hy; subst hy; rfl
    | 1 => simp at hy; subst hy; rfl
    | j + 2 => simp at hy
  · intro y hy
    simp at hy
    rcases hy with rfl | rfl
    · exact h1
    · exact h2
  · simp only [maxLen]; omega
  · simp; omega
  · intro v' w' ho' hg' _
    exact h v' w' ho' (grownBy_trans (World.grownBy_alloc w _ _) hg')
theorem infoS : (Tryd.prog.info? 51).map (fun i => (i.zero, i.size, i.bytes)) = some (some (.agg #[.int .i64 0, .bool false]), 2, 16) := by kernel_rfl

/-- A slice of slots reads as a list of pages and marks. -/
def RS (w : World) (A : Option Addr) (n : Nat) (l : List (Int × Bool)) : Prop :=
  l.length = n ∧ (0 < n → ∃ g, A = some ⟨g, 0, none⟩ ∧ ∀ k s, l[k]? = some s → w.cell? ⟨g, k * 2, none⟩ = some (.int .i64 s.1) ∧ w.cell? ⟨g, k * 2 + 1, none⟩ = some (.bool s.2))
theorem RS.at_ {w : World} {A : Option Addr} {n : Nat} {l : List (Int × Bool)} (h : RS w A n l) {k : Nat} (hk : k < n) :
    ∃ g s, A = some ⟨g, 0, none⟩ ∧ Hid (l[k]? = some s) ∧ w.cell? ⟨g, k * 2, none⟩ = some (.int .i64 s.1) ∧ w.cell? ⟨g, k * 2 + 1, none⟩ = some (.bool s.2) := by
  obtain ⟨g, e, hc⟩ := h.2 (by omega)
  have hl : k < l.length := by have := h.1; omega
  have h1 := List.getElem?_eq_getElem hl
  exact ⟨g, l[k], e, h1, hc k _ h1⟩
theorem RS.below {w w' : World} {A : Option Addr} {n : Nat} {l : List (Int × Bool)} (h : RS w A n l) (hb : Below w.heap.size w w') : RS w' A n l :=
  ⟨h.1, fun hn => by
    obtain ⟨g, e, hc⟩ := h.2 hn
    refine ⟨g, e, fun k s hs => ?_⟩
    obtain ⟨h1, h2⟩ := hc k s hs
    exact ⟨by rw [hb.cell (cell_lt h1)]; exact h1, by rw [hb.cell (cell_lt h2)]; exact h2⟩⟩
theorem RowS.reads {w : World} {base : Nat} {A : Option Addr} {n c : Nat} {l : List (Int × Bool)} (h : RowS w base (.slice A n c) n l) : RS w A n l := by
  refine ⟨h.len, fun hn => ?_⟩
  obtain ⟨g, hA⟩ : ∃ g, A = some ⟨g, 0, none⟩ := by
    rcases h.2 with ⟨_, h0⟩ | ⟨g, cap, cur, hv, _⟩
    · omega
    · injection hv with hA _ hC
      exact ⟨g, hA⟩
  subst hA
  refine ⟨g, rfl, fun k s hs => ?_⟩
  obtain ⟨h1, h2⟩ := cellsS_at l k s hs
  have hk : k < n := by have := (List.getElem?_eq_some_iff.1 hs).1; have := h.len; omega
  exact ⟨by rw [World.ownsRow.cellAt h (k * 2) (by omega)]; exact h1, by rw [World.ownsRow.cellAt h (k * 2 + 1) (by omega)]; exact h2⟩
theorem mem_fst_of_at {l : List (Int × Bool)} {k : Nat} {s : Int × Bool} (h : l[k]? = some s) : (l.map Prod.fst)[k]? = some s.1 := by rw [List.getElem?_map, h]; rfl

set_option maxHeartbeats 1000000 in
theorem slotIs (q p : Int) (b : Bool) (pa : Addr) (w : World) (hp : w.cell? pa = some (.int .i64 p)) :
    Calls Tryd.prog 23 #[.agg #[.int .i64 q, .bool b], .pointer (some pa)] w fun e w' => e = .returned (.bool (q == p)) ∧ Below w.heap.size w w' := by
  have hpl := cell_lt hp
  have hp2 : (w.alloc (.cells #[.int .i64 q, .bool b] 51)).cell? pa = some (.int .i64 p) := by rw [World.cell?_alloc_lt _ _ pa hpl]; exact hp
  go_enter Tryd.func23, Tryd.ntmps23
  go_wp2
  go_ret
  exact ⟨rfl, (Below.refl _ _).alloc (Nat.le_refl _) _⟩

set_option maxHeartbeats 1000000 in
theorem indexSlot (A : Option Addr) (n c : Nat) (l : List (Int × Bool)) (p : Int) (pa : Addr) (w : World) (h : RS w A n l) (hn : n ≤ 100) (hp : w.cell? pa = some (.int .i64 p)) :
    Calls Tryd.prog 22 #[.slice A n c, .func (Fn.func 23) #[] #[.pointer (some pa)]] w fun e w' => e = .returned (.int .i64 (ixI (l.map Prod.fst) p)) ∧ Below w.heap.size w w' := by
  have HL := Lib.hid h.1
  go_enter Tryd.func22, Tryd.ntmps22
  go_wp2
  go_loopw [5, 8] (fun _ i wr => ∃ k : Nat, k ≤ n ∧ i = .int .i64 k ∧ Below w.heap.size w wr ∧ Hid (p ∉ (l.map Prod.fst).take k)) (fun _ i _ => n - (intOf i).toNat)
  case atStart => exact ⟨0, by omega, by go_num, Below.refl _ _, by simp [Hid]⟩
  case round =>
    obtain ⟨k, hk, rfl, hB, hx⟩ := hrel
    by_cases hlt : k < n
    · obtain ⟨g, s, rfl, HS, hc0, hc1⟩ := (h.below hB).at_ hlt
      obtain ⟨q, b⟩ := s
      have hpr : wr.cell? pa = some (.int .i64 p) := by rw [hB.cell (cell_lt hp)]; exact hp
      by_cases hqp : q = p
      · subst hqp
        have HE := Lib.hid (show ixI (l.map Prod.fst) q = k by
          have h1 := mem_fst_of_at HS.out
          rw [ixI_mem (mem_of_at h1), idxOf_at hx.out h1])
        have hb : (q == q) = true := by simp
        go_wp2_with fail
        refine (slotIs q q b pa _ hpr).mono ?_; rintro e w' ⟨rfl, hB2⟩
        rw [hb]
        clear hb
        go_wp2
        go_ret
        rw [HE.out]
        exact ⟨rfl, hB.trans (hB2.mono hB.size)⟩
      · have HE := Lib.hid (not_mem_take_succ hx.out (mem_fst_of_at HS.out) hqp)
        have hb : (q == p) = false := by simp [hqp]
        go_wp2_with fail
        refine (slotIs q p b pa _ hpr).mono ?_; rintro e w' ⟨rfl, hB2⟩
        rw [hb]
        clear hb
        go_wp2
        go_roundw
        case rel => exact ⟨k + 1, by omega, by go_num, hB.trans (hB2.mono hB.size), HE⟩
        case measure => simp [intOf]; omega
    · have HE := Lib.hid (ixI_not (l := l.map Prod.fst) (x := p) (by have := hx.out; rw [List.take_of_length_le (by have := HL.out; simp; omega)] at this; exact this))
      go_wp2
      go_ret
      rw [HE.out]
      exact ⟨rfl, hB⟩
end Go.Proofs.YtpamnnnihfjdkaaDoor
