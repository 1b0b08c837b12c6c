/- Words for memory that the walks of this seat share: a slice of integers that reads as a list; no program in sight. -/
import Derived.WalkKit
import Derived.ProofKit
import Derived.Below
import Derived.Laws.OwnMore
import Derived.OwnWalk
import Derived.Laws.IdiomCopy
import Derived.Deep.Draws
import Derived.Laws.AppendOwnNone
import Derived.Maps.AppendAt
import Derived.Lib.Hide
namespace Go.Proofs.YtmeamgeojcbljaaDoor
open Go.ChangeShapes Go.WideShapes Go.ChangeAt Go.RowKit

/-- The slice value '.slice A n c' reads as the list l of integers. -/
def RI (w : World) (A : Option Addr) (n : Nat) (l : List Int) : Prop :=
  l.length = n ∧ (0 < n → ∃ ad, A = some ad ∧ ∀ k x, l[k]? = some x → w.cell? (ad.add k) = some (.int .i64 x))

section
variable {w w' : World} {A : Option Addr} {n : Nat} {l : List Int}
theorem RI.len (h : RI w A n l) : l.length = n := h.1
theorem RI.at_ (h : RI w A n l) {k : Nat} (hk : k < n) : ∃ ad y, A = some ad ∧ Hid (l[k]? = some y) ∧ w.cell? (ad.add k) = some (.int .i64 y) := by
  obtain ⟨ad, e, hc⟩ := h.2 (by omega)
  have hl : k < l.length := by have := h.1; omega
  exact ⟨ad, l[k], e, List.getElem?_eq_getElem hl, hc k _ (List.getElem?_eq_getElem hl)⟩
theorem RI.keep (h : RI w A n l) (hk : ∀ p v, w.cell? p = some v → w'.cell? p = some v) : RI w' A n l :=
  ⟨h.1, fun hn => by obtain ⟨ad, e, hc⟩ := h.2 hn; exact ⟨ad, e, fun k x hx => hk _ _ (hc k x hx)⟩⟩
theorem cell_lt {p : Addr} {v : Value} (h : w.cell? p = some v) : p.block < w.heap.size := by
  rcases Nat.lt_or_ge p.block w.heap.size with hlt | hge
  · exact hlt
  · unfold World.cell? at h; rw [Array.getElem?_eq_none hge] at h; cases h
theorem RI.below (h : RI w A n l) (hb : Below w.heap.size w w') : RI w' A n l :=
  h.keep fun p v hv => by rw [hb.cell (cell_lt hv)]; exact hv
theorem RI.nil_ : RI w A 0 [] := ⟨rfl, fun h => absurd h (by omega)⟩
end

/-- The slice value v is a row of this call's own, of elements of type e (one cell each), that hold xs. -/
def Row (w : World) (base : Nat) (e : TypeId) (v : Value) (n : Nat) (xs : List Value) : Prop := w.ownsRow base e 1 v n xs

theorem grownBy_trans {w w1 w2 : World} {row : Option Nat} (h : w.grownBy w1 row) (k : w1.grownBy w2 row) : w.grownBy w2 row :=
  ⟨k.os.trans h.os, k.tape.trans h.tape, k.output.trans h.output, Nat.le_trans h.size k.size, fun b hb hne => (k.block b (Nat.lt_of_lt_of_le hb h.size) hne).trans (h.block b hb hne)⟩

theorem Row.len {w : World} {base : Nat} {e : TypeId} {v : Value} {n : Nat} {xs : List Value} (h : Row w base e v n xs) : xs.length = n := by have := h.1; omega

theorem row_ne {w : World} {base base' : Nat} {e e' : TypeId} {v v' : Value} {n n' : Nat} {xs xs' : List Value} (h : Row w base e v n xs) (h' : Row w base' e' v' n' xs') (hne : e ≠ e') : v.ownBlock = none ∨ v.ownBlock ≠ v'.ownBlock := by
  rcases h.2 with ⟨rfl, _⟩ | ⟨g, cap, cur, rfl, _, hh, _⟩
  · exact .inl rfl
  · refine .inr fun he => ?_
    rcases h'.2 with ⟨rfl, _⟩ | ⟨g', cap', cur', rfl, _, hh', _⟩
    · cases he
    · have : g = g' := by simpa [Value.ownBlock] using he
      subst this
      rw [hh] at hh'
      injection hh' with hh'
      injection hh' with _ ht
      exact hne ht

theorem Row.kept {w w' : World} {base base' : Nat} {e e' : TypeId} {v v' : Value} {n n' : Nat} {xs xs' : List Value} (h : Row w base e v n xs) (hg : w.grownBy w' v'.ownBlock) (h' : Row w base' e' v' n' xs') (hne : e ≠ e') : Row w' base e v n xs :=
  World.ownsRow.kept h hg (row_ne h h' hne)

theorem Row.below {w w' : World} {base : Nat} {e : TypeId} {v : Value} {n : Nat} {xs : List Value} (h : Row w base e v n xs) (hb : Below w.heap.size w w') : Row w' base e v n xs := by
  refine ⟨h.1, ?_⟩
  rcases h.2 with hn | ⟨g, cap, cur, rfl, hb', hgg, rest⟩
  · exact .inl hn
  · exact .inr ⟨g, cap, cur, rfl, hb', by rw [hb.block g (Array.getElem?_eq_some_iff.1 hgg).1]; exact hgg, rest⟩

theorem Row.form {w : World} {base : Nat} {e : TypeId} {v : Value} {n : Nat} {xs : List Value} (h : Row w base e v n xs) : ∃ A c, v = .slice A n c ∧ n ≤ c ∧ c ≤ maxLen := by
  rcases h.2 with ⟨rfl, rfl⟩ | ⟨g, cap, cur, rfl, _, _, h1, h2, _⟩
  · exact ⟨none, 0, rfl, by omega, by simp [maxLen]⟩
  · exact ⟨_, _, rfl, h1, h2⟩

theorem Row.reads {w : World} {base : Nat} {e : TypeId} {A : Option Addr} {c n : Nat} {l : List Int} (h : Row w base e (.slice A n c) n (l.map (Value.int .i64))) : RI w A n l := by
  refine ⟨by have := h.1; simpa using this, fun hn => ?_⟩
  rcases h.2 with ⟨hv, h0⟩ | ⟨g, cap, cur, hv, _, hh, _⟩
  · omega
  · injection hv with hA
    subst hA
    refine ⟨_, rfl, fun k x hx => ?_⟩
    exact World.ownsRow.cells (v := .slice (some ⟨g, 0, none⟩) n c) h (g := g) rfl k _ (by rw [List.getElem?_map, hx]; rfl)

theorem Row.lt {w : World} {base : Nat} {e : TypeId} {v : Value} {n : Nat} {xs : List Value} (h : Row w base e v n xs) : ∀ k, v.ownBlock = some k → base ≤ k ∧ k < w.heap.size := World.ownsRow.lt h
theorem Row.nil_ (w : World) (base : Nat) (e : TypeId) : Row w base e (.slice none 0 0) 0 [] := World.ownsRow_nil w base e 1

/-- append of one element that was just laid in a new block. -/
theorem wpList_push {P : Program} (w : World) {ops : Array Oper} {rest : List Oper} {o : Oper} {a : Act} {Q : Exit → Act → World → Prop} (hgd : o.guard = none) (s x : Operand) (t : TypeId)
    (ho : o.op = .call { callee := .builtin .append, args := #[s, x], argTypes := #[t, t] })
    (base : Nat) (e : TypeId) (z : Value) (bytes : Nat) (ht : P.underlying t = some (.slice e)) (hi : (P.info? e).map (fun i => (i.zero, i.size, i.bytes)) = some (some z, 1, bytes))
    (hzs : z.cells.size = 1) (hb8 : bytes ≤ 16)
    (v : Value) (n : Nat) (xs : List Value) (hs : a.eval s = v) (hown : Row w base e v n xs)
    (u : Value) (hx : a.eval x = .slice (some ⟨w.heap.size, 0, none⟩) 1 1) (h1 : u.oneCell' = true)
    (hn : n ≤ 1048576) (hbase : base ≤ w.heap.size)
    (h : ∀ v' w', Row w' base e v' (n + 1) (xs ++ [u]) → w.grownBy w' v.ownBlock → wpList P ops Q rest (a.put o.dst v') w') : wpList P ops Q (o :: rest) a (w.alloc (.cells #[u] e)) := by
  obtain ⟨i0, hi0, hz0, hz1, hz2⟩ := info_parts hi
  have hby : (n + 1) * bytes ≤ 140737488355328 := Nat.le_trans (Nat.mul_le_mul (show n + 1 ≤ 1048577 by omega) hb8) (by decide)
  refine wpList_append_own _ hgd s x t ho base e i0 z 1 bytes ht hi0 hz0 hz1 hz2 hzs (by omega) v n xs hs (World.ownsRow.alloc hown _) ⟨w.heap.size, 0, none⟩ 1 1 [u] hx rfl ?_ ?_ ?_ hby ?_ ?_
  · intro j y hy
    match j with
    | 0 =>
      simp at hy; subst hy
      show (w.alloc _).cell? ⟨w.heap.size, 0, none⟩ = _
      rw [World.cell?_alloc_at _ _ _ _ rfl]; rfl
    | j + 1 => simp at hy
  · intro y hy; simp at hy; subst hy; exact h1
  · simp only [maxLen]; omega
  · simp; omega
  · intro v' w' ho' hg' _
    exact h v' w' ho' (grownBy_trans (World.grownBy_alloc w _ _) hg')

theorem heap_setCell_at {w : World} {b o : Nat} {cur : Array Value} {e : TypeId} (h : w.heap[b]? = some (.cells cur e (0, 0))) (u : Value) :
    (w.setCell ⟨b, o, none⟩ u).heap[b]? = some (.cells (cur.setIfInBounds o u) e (0, 0)) := by
  simp [World.setCell, Array.getElem?_modify, h]

theorem row_setCells (b : Nat) (e : TypeId) : ∀ (vs : List Value) (o : Nat) (w : World) (cur : Array Value), w.heap[b]? = some (.cells cur e (0, 0)) → o + vs.length ≤ cur.size →
    ∃ cur', (w.setCells b o vs).heap[b]? = some (.cells cur' e (0, 0)) ∧ cur'.size = cur.size ∧ cur'.toList = cur.toList.take o ++ vs ++ cur.toList.drop (o + vs.length)
  | [], o, w, cur, h, _ => ⟨cur, h, rfl, by simp⟩
  | v :: vs, o, w, cur, h, hl => by
    simp only [List.length_cons] at hl
    obtain ⟨cur', h1, h2, h3⟩ := row_setCells b e vs (o + 1) (w.setCell ⟨b, o, none⟩ v) (cur.setIfInBounds o v) (heap_setCell_at h v) (by simp; omega)
    refine ⟨cur', h1, by rw [h2]; simp, ?_⟩
    rw [h3]
    have e1 : (cur.setIfInBounds o v).toList = cur.toList.set o v := by simp
    rw [e1]
    have e2 : (cur.toList.set o v).take (o + 1) = cur.toList.take o ++ [v] := by
      rw [List.take_succ_eq_append_getElem (by simp; omega)]
      congr 1
      · rw [List.take_set_of_le (Nat.le_refl _)]
      · simp
    have e3 : (cur.toList.set o v).drop (o + 1 + vs.length) = cur.toList.drop (o + 1 + vs.length) := by
      rw [List.drop_set_of_lt (by omega)]
    rw [e2, e3]
    simp [Nat.add_assoc, Nat.add_comm 1]

theorem grownBy_setCells (b : Nat) : ∀ (vs : List Value) (o : Nat) (w : World), w.grownBy (w.setCells b o vs) (some b)
  | [], _, w => World.grownBy.refl w _
  | v :: vs, o, w => grownBy_trans (w1 := w.setCell ⟨b, o, none⟩ v)
      ⟨rfl, rfl, rfl, by simp [World.setCell], fun k hk hne => Below.heap_setCell w _ v k (fun hh => hne (by rw [hh]))⟩ (grownBy_setCells b vs (o + 1) _)

theorem Row.setCells {w : World} {base : Nat} {e : TypeId} {g n c : Nat} {xs : List Value} (h : Row w base e (.slice (some ⟨g, 0, none⟩) n c) n xs) (vs : List Value) (hv : vs.length ≤ c) (m : Nat) (hm : m ≤ vs.length) :
    Row (w.setCells g 0 vs) base e (.slice (some ⟨g, 0, none⟩) m c) m (vs.take m) := by
  refine ⟨by simp; omega, ?_⟩
  rcases h.2 with ⟨hv', _⟩ | ⟨g', cap, cur, hv', hb, hh, hnc, hcm, hcs, _⟩
  · cases hv'
  · injection hv' with hA _ hC
    injection hA with hA
    injection hA with hg
    subst hg hC
    obtain ⟨cur', h1, h2, h3⟩ := row_setCells g e vs 0 w cur hh (by omega)
    refine .inr ⟨g, c, cur', rfl, hb, h1, by omega, hcm, by omega, ?_⟩
    rw [h3]
    simp
    rw [List.take_append_of_le_length hm]

theorem Row.drewN {w : World} {base : Nat} {e : TypeId} {v : Value} {n : Nat} {xs : List Value} (h : Row w base e v n xs) (q : Nat) : Row (w.drewN q) base e v n xs := h
theorem grownBy_drewN {w w' : World} {row : Option Nat} {q : Nat} (h : (w.drewN q).grownBy w' row) : w.grownBy w' row := ⟨h.os, h.tape, h.output, h.size, h.block⟩
theorem Row.take {w : World} {base : Nat} {e : TypeId} {A : Option Addr} {n c : Nat} {xs : List Value} (h : Row w base e (.slice A n c) n xs) (m : Nat) (hm : m ≤ n) : Row w base e (.slice A m c) m (xs.take m) := by
  have hl := h.len
  refine ⟨by simp; omega, ?_⟩
  rcases h.2 with ⟨hv', h0⟩ | ⟨g', cap, cur, hv', hb, hh, hnc, hcm, hcs, ht⟩
  · injection hv' with hA _ hC
    obtain rfl : m = 0 := by omega
    subst hA hC
    exact .inl ⟨rfl, rfl⟩
  · injection hv' with hA _ hC
    subst hA hC
    refine .inr ⟨g', c, cur, rfl, hb, hh, by omega, hcm, hcs, ?_⟩
    rw [← ht, List.take_take]
    congr 1
    omega

/-- The slice value '.slice A n c' reads as the list l of bools. -/
def RB (w : World) (A : Option Addr) (n : Nat) (l : List Bool) : Prop :=
  l.length = n ∧ (0 < n → ∃ ad, A = some ad ∧ ∀ k x, l[k]? = some x → w.cell? (ad.add k) = some (.bool x))

section
variable {w w' : World} {A : Option Addr} {n : Nat} {l : List Bool}
theorem RB.len (h : RB w A n l) : l.length = n := h.1
theorem RB.at_ (h : RB w A n l) {k : Nat} (hk : k < n) : ∃ ad y, A = some ad ∧ Hid (l[k]? = some y) ∧ w.cell? (ad.add k) = some (.bool y) := by
  obtain ⟨ad, e, hc⟩ := h.2 (by omega)
  have hl : k < l.length := by have := h.1; omega
  exact ⟨ad, l[k], e, List.getElem?_eq_getElem hl, hc k _ (List.getElem?_eq_getElem hl)⟩
theorem RB.keep (h : RB w A n l) (hk : ∀ p v, w.cell? p = some v → w'.cell? p = some v) : RB w' A n l :=
  ⟨h.1, fun hn => by obtain ⟨ad, e, hc⟩ := h.2 hn; exact ⟨ad, e, fun k x hx => hk _ _ (hc k x hx)⟩⟩
theorem RB.below (h : RB w A n l) (hb : Below w.heap.size w w') : RB w' A n l :=
  h.keep fun p v hv => by rw [hb.cell (cell_lt hv)]; exact hv
theorem RB.drewN (h : RB w A n l) (q : Nat) : RB (w.drewN q) A n l := h
end
theorem RI.drewN {w : World} {A : Option Addr} {n : Nat} {l : List Int} (h : RI w A n l) (q : Nat) : RI (w.drewN q) A n l := h
theorem Row.readsB {w : World} {base : Nat} {e : TypeId} {A : Option Addr} {c n : Nat} {l : List Bool} (h : Row w base e (.slice A n c) n (l.map Value.bool)) : RB w A n l := by
  refine ⟨by have := h.1; simpa using this, fun hn => ?_⟩
  rcases h.2 with ⟨hv, h0⟩ | ⟨g, cap, cur, hv, _, hh, _⟩
  · omega
  · injection hv with hA
    subst hA
    refine ⟨_, rfl, fun k x hx => ?_⟩
    exact World.ownsRow.cells (v := .slice (some ⟨g, 0, none⟩) n c) h (g := g) rfl k _ (by rw [List.getElem?_map, hx]; rfl)
theorem belowN {B : Nat} {a w : World} (h : Below B a w) (q : Nat) : Below B a (w.drewN q) := ⟨h.os, h.tape, h.output, h.size, h.block⟩

theorem block_add (a : Addr) (n : Nat) : (a.add n).block = a.block := by unfold Addr.add; split <;> rfl
theorem RI.row {w w' : World} {A : Option Addr} {n : Nat} {l : List Int} (h : RI w A n l) {row : Option Nat} (hg : w.grownBy w' row) (hr : ∀ ad, A = some ad → some ad.block ≠ row) : RI w' A n l :=
  ⟨h.1, fun hn => by obtain ⟨ad, e, hc⟩ := h.2 hn; exact ⟨ad, e, fun k x hx => hg.cell (hc k x hx) (by rw [block_add]; exact hr ad e)⟩⟩

theorem add_add (a : Addr) (i j : Nat) : (a.add i).add j = a.add (i + j) := by
  unfold Addr.add
  by_cases hi : i = 0 <;> by_cases hj : j = 0 <;> simp [hi, hj, Nat.add_assoc]

/-- A cut 's[k:]' of a slice that reads as a list. -/
theorem RI.cut {w : World} {A : Option Addr} {n : Nat} {l : List Int} (h : RI w A n l) {k cap : Nat} (hk : k ≤ n) (hc : n ≤ cap) :
    RI w (if cap = k then A else A.map (·.add k)) (n - k) (l.drop k) := by
  refine ⟨by rw [List.length_drop, h.1], fun hn => ?_⟩
  obtain ⟨ad, rfl, hcell⟩ := h.2 (by omega)
  rw [if_neg (by omega)]
  refine ⟨ad.add k, rfl, fun j x hx => ?_⟩
  rw [add_add]
  exact hcell _ x (by rw [← hx, List.getElem?_drop])
theorem RI.take {w : World} {A : Option Addr} {n : Nat} {l : List Int} (h : RI w A n l) {k : Nat} (hk : k ≤ n) : RI w A k (l.take k) := by
  refine ⟨by rw [List.length_take, h.1]; omega, fun hn => ?_⟩
  obtain ⟨ad, e, hcell⟩ := h.2 (by omega)
  refine ⟨ad, e, fun j x hx => hcell j x ?_⟩
  rw [List.getElem?_take] at hx
  split at hx
  · exact hx
  · cases hx

theorem cell_new (w : World) (cs : Array Value) (e : TypeId) (k : Nat) : (w.alloc (.cells cs e)).cell? ((⟨w.heap.size, 0, none⟩ : Addr).add k) = cs[k]? := by
  have hadd : (⟨w.heap.size, 0, none⟩ : Addr).add k = ⟨w.heap.size, k, none⟩ := by unfold Addr.add; split <;> simp_all
  rw [hadd, World.cell?_alloc_at _ _ _ _ rfl]
/-- A literal slice reads as the list that was written. -/
theorem RI.lit (w : World) (cs : Array Value) (e : TypeId) (l : List Int) (n : Nat) (h : cs.toList = l.map (Value.int .i64)) (hn : l.length = n) : RI (w.alloc (.cells cs e)) (some ⟨w.heap.size, 0, none⟩) n l := by
  refine ⟨hn, fun _ => ⟨_, rfl, fun k x hx => ?_⟩⟩
  rw [cell_new, ← Array.getElem?_toList, h, List.getElem?_map, hx]; rfl
theorem RB.lit (w : World) (cs : Array Value) (e : TypeId) (l : List Bool) (n : Nat) (h : cs.toList = l.map Value.bool) (hn : l.length = n) : RB (w.alloc (.cells cs e)) (some ⟨w.heap.size, 0, none⟩) n l := by
  refine ⟨hn, fun _ => ⟨_, rfl, fun k x hx => ?_⟩⟩
  rw [cell_new, ← Array.getElem?_toList, h, List.getElem?_map, hx]; rfl

/-- What a frame says of a slice of integers that came in, in this text's words. -/
theorem ri_of {w : World} {a : Option Addr} {len cap : Nat} {zs : List Int}
    (h : (a = none ∧ len = 0 ∧ cap = 0 ∧ zs = []) ∨ ∃ x, a = some x ∧ len ≤ cap ∧ cap ≤ maxLen ∧ zs.length = cap ∧ (∀ i, i < zs.length → w.cell? (x.add i) = some (.int .i64 (zs.getD i 0))) ∧ ∀ n ∈ zs, (Lit.int .i64 n).wf = true) :
    RI w a len (zs.take len) ∧ len ≤ 9223372036854775807 ∧ (∀ n ∈ zs.take len, (Lit.int .i64 n).wf = true) ∧ len ≤ cap := by
  rcases h with ⟨rfl, rfl, rfl, rfl⟩ | ⟨x, rfl, h1, h2, h3, h4, h5⟩
  · exact ⟨RI.nil_, by omega, by simp, by omega⟩
  · refine ⟨⟨by simp; omega, fun _ => ⟨x, rfl, fun k y hy => ?_⟩⟩, by simp only [maxLen] at h2; omega, fun n hn => h5 n (List.mem_of_mem_take hn), h1⟩
    rw [List.getElem?_take] at hy
    split at hy
    · have hk : k < zs.length := (List.getElem?_eq_some_iff.1 hy).1
      have := h4 k hk
      rw [List.getD_eq_getElem?_getD, hy] at this
      exact this
    · cases hy

/-- append of one element that was just laid in a new block, to a row of any length within the reach. -/
theorem wpList_push8 {P : Program} (w : World) {ops : Array Oper} {rest : List Oper} {o : Oper} {a : Act} {Q : Exit → Act → World → Prop} (hgd : o.guard = none) (s x : Operand) (t : TypeId)
    (ho : o.op = .call { callee := .builtin .append, args := #[s, x], argTypes := #[t, t] })
    (base : Nat) (e : TypeId) (z : Value) (bytes : Nat) (ht : P.underlying t = some (.slice e)) (hi : (P.info? e).map (fun i => (i.zero, i.size, i.bytes)) = some (some z, 1, bytes))
    (hzs : z.cells.size = 1)
    (v : Value) (n : Nat) (xs : List Value) (hs : a.eval s = v) (hown : Row w base e v n xs)
    (u : Value) (hx : a.eval x = .slice (some ⟨w.heap.size, 0, none⟩) 1 1) (h1 : u.oneCell' = true)
    (hn : n + 1 ≤ maxLen) (hby : (n + 1) * bytes ≤ 140737488355328) (hbase : base ≤ w.heap.size)
    (h : ∀ v' w', Row w' base e v' (n + 1) (xs ++ [u]) → w.grownBy w' v.ownBlock → wpList P ops Q rest (a.put o.dst v') w') : wpList P ops Q (o :: rest) a (w.alloc (.cells #[u] e)) := by
  obtain ⟨i0, hi0, hz0, hz1, hz2⟩ := info_parts hi
  refine wpList_append_own _ hgd s x t ho base e i0 z 1 bytes ht hi0 hz0 hz1 hz2 hzs (by omega) v n xs hs (World.ownsRow.alloc hown _) ⟨w.heap.size, 0, none⟩ 1 1 [u] hx rfl ?_ ?_ hn hby ?_ ?_
  · intro j y hy
    match j with
    | 0 =>
      simp at hy; subst hy
      show (w.alloc _).cell? ⟨w.heap.size, 0, none⟩ = _
      rw [World.cell?_alloc_at _ _ _ _ rfl]; rfl
    | j + 1 => simp at hy
  · intro y hy; simp at hy; subst hy; exact h1
  · simp; omega
  · intro v' w' ho' hg' _
    exact h v' w' ho' (grownBy_trans (World.grownBy_alloc w _ _) hg')

/-- append of a slice of integers that reads as a list, nil or not. -/
theorem wpList_appendI {P : Program} (w : World) {ops : Array Oper} {rest : List Oper} {o : Oper} {a : Act} {Q : Exit → Act → World → Prop} (hgd : o.guard = none) (s x : Operand) (t : TypeId)
    (ho : o.op = .call { callee := .builtin .append, args := #[s, x], argTypes := #[t, t] })
    (base : Nat) (e : TypeId) (z : Value) (bytes : Nat) (ht : P.underlying t = some (.slice e)) (hi : (P.info? e).map (fun i => (i.zero, i.size, i.bytes)) = some (some z, 1, bytes))
    (hzs : z.cells.size = 1)
    (v : Value) (n : Nat) (xs : List Value) (hs : a.eval s = v) (hown : Row w base e v n xs)
    (A : Option Addr) (m c : Nat) (l : List Int) (hx : a.eval x = .slice A m c) (hr : RI w A m l) (hnil : A = none → c = 0)
    (hn : n + m ≤ maxLen) (hby : (n + m) * bytes ≤ 140737488355328) (hbase : base ≤ w.heap.size)
    (h : ∀ v' w', Row w' base e v' (n + m) (xs ++ l.map (Value.int .i64)) → w.grownBy w' v.ownBlock → wpList P ops Q rest (a.put o.dst v') w') : wpList P ops Q (o :: rest) a w := by
  obtain ⟨i0, hi0, hz0, hz1, hz2⟩ := info_parts hi
  rcases A with _ | ad
  · have hm : m = 0 := by
      rcases Nat.eq_zero_or_pos m with h0 | h0
      · exact h0
      · obtain ⟨ad, hh, _⟩ := hr.2 h0
        cases hh
    subst hm
    have hc := hnil rfl
    subst hc
    have hl : l = [] := List.eq_nil_of_length_eq_zero hr.1
    subst hl
    exact wpList_append_own_none hgd s x t ho base e i0 1 ht hi0 v n xs hs hown hx (h v w (by simpa using hown) (World.grownBy.refl w _))
  · refine wpList_append_own _ hgd s x t ho base e i0 z 1 bytes ht hi0 hz0 hz1 hz2 hzs (by omega) v n xs hs hown ad m c (l.map (Value.int .i64)) hx (by simpa using hr.1) ?_ (ints_oneCell .i64 l) hn hby hbase (fun v' w' h1 h2 _ => h v' w' h1 h2)
    intro j u hu
    rw [List.getElem?_map] at hu
    cases hj : l[j]? with
    | none => rw [hj] at hu; cases hu
    | some y =>
      rw [hj] at hu
      have hu' : Value.int .i64 y = u := by simpa using hu
      subst hu'
      have hm : 0 < m := by have := (List.getElem?_eq_some_iff.1 hj).1; have := hr.1; omega
      obtain ⟨ad', e', hc⟩ := hr.2 hm
      injection e' with e'
      subst e'
      exact hc j y hj
theorem Row.kept_lt {w w' : World} {base : Nat} {e : TypeId} {v : Value} {n : Nat} {xs : List Value} (h : Row w base e v n xs) {row : Option Nat} (hg : w.grownBy w' row) (hr : ∀ k, row = some k → k < base) : Row w' base e v n xs := by
  refine World.ownsRow.kept h hg ?_
  cases hv : v.ownBlock with
  | none => exact .inl rfl
  | some k =>
    refine .inr fun he => ?_
    have h1 := (h.lt k hv).1
    have h2 := hr k he.symm
    omega

/-- The address behind a place that is not the first, as the walk spells it. -/
theorem add_succ (a : Addr) (k : Nat) : a.add (k + 1) = ⟨a.block, a.off + (k + 1), none⟩ := by unfold Addr.add; rw [if_neg (by omega)]
/-- Where a row lies behind a call: where it lay, or in new memory. -/
def Far (H : Nat) (r r' : Option Nat) : Prop := r' = r ∨ ∃ g, r' = some g ∧ H ≤ g
/-- Two rows do not share a block. -/
def Apart (r r' : Option Nat) : Prop := r = none ∨ r ≠ r'
theorem Apart.symm {r r' : Option Nat} (h : Apart r r') : Apart r' r := by
  rcases h with h | h
  · cases hr : r' with
    | none => exact .inl rfl
    | some k => rw [h]; exact .inr (by simp)
  · exact .inr h.symm
theorem Apart.far {r r' r2 : Option Nat} {H : Nat} (h : Apart r r') (hf : Far H r' r2) (hr : ∀ k, r = some k → k < H) : Apart r r2 := by
  rcases hf with e | ⟨g, e, hg⟩
  · rw [e]; exact h
  · rw [e]
    cases hr' : r with
    | none => exact .inl rfl
    | some k => exact .inr (fun he => by injection he with he; have := hr k hr'; omega)
theorem Row.apart {w w' : World} {base : Nat} {e : TypeId} {v : Value} {n : Nat} {xs : List Value} (h : Row w base e v n xs) {row : Option Nat} (hg : w.grownBy w' row) (ha : Apart v.ownBlock row) : Row w' base e v n xs := World.ownsRow.kept h hg ha

/-- append of one element that was just laid in a new block; where the new slice lies. -/
theorem wpList_push_at {P : Program} (w : World) {ops : Array Oper} {rest : List Oper} {o : Oper} {a : Act} {Q : Exit → Act → World → Prop} (hgd : o.guard = none) (s x : Operand) (t : TypeId)
    (ho : o.op = .call { callee := .builtin .append, args := #[s, x], argTypes := #[t, t] })
    (base : Nat) (e : TypeId) (z : Value) (bytes : Nat) (ht : P.underlying t = some (.slice e)) (hi : (P.info? e).map (fun i => (i.zero, i.size, i.bytes)) = some (some z, 1, bytes))
    (hzs : z.cells.size = 1) (hb8 : bytes ≤ 16)
    (v : Value) (n : Nat) (xs : List Value) (hs : a.eval s = v) (hown : Row w base e v n xs)
    (u : Value) (hx : a.eval x = .slice (some ⟨w.heap.size, 0, none⟩) 1 1) (h1 : u.oneCell' = true)
    (hn : n ≤ 1048576) (hbase : base ≤ w.heap.size)
    (h : ∀ v' w', Row w' base e v' (n + 1) (xs ++ [u]) → w.grownBy w' v.ownBlock → Far w.heap.size v.ownBlock v'.ownBlock → wpList P ops Q rest (a.put o.dst v') w') : wpList P ops Q (o :: rest) a (w.alloc (.cells #[u] e)) := by
  obtain ⟨i0, hi0, hz0, hz1, hz2⟩ := info_parts hi
  have hby : (n + 1) * bytes ≤ 140737488355328 := Nat.le_trans (Nat.mul_le_mul (show n + 1 ≤ 1048577 by omega) hb8) (by decide)
  refine wpList_append_own_at _ hgd s x t ho base e i0 z 1 bytes ht hi0 hz0 hz1 hz2 hzs (by omega) v n xs hs (World.ownsRow.alloc hown _) ⟨w.heap.size, 0, none⟩ 1 1 [u] hx rfl (cell_one_new _ _ _) ?_ ?_ hby ?_ ?_
  · intro y hy; simp at hy; subst hy; exact h1
  · simp only [maxLen]; omega
  · simp; omega
  · intro v' w' ho' hg' _ hat
    refine h v' w' ho' (grownBy_trans (World.grownBy_alloc w _ _) hg') ?_
    rcases hat with hat | hat
    · exact .inl hat
    · exact .inr ⟨_, hat, by simp⟩
end Go.Proofs.YtmeamgeojcbljaaDoor
