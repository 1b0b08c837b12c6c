/- A range over a function whose rounds may write any map, one that was made in a round too: what the loop itself leans on (its record, the block for deferred calls, iterators) lies as it lay. -/
import Derived.RangeFuncNested
import Derived.RangeFuncBound
import Derived.RangeFuncCalls
import Derived.RangeFuncLeaves
import Derived.Test.YtmeamgeojcbljaaDoorWords
namespace Go.Proofs.YtmeamgeojcbljaaDoor
open Go.RowKit

/-- What a range over a function leans on. -/
def isBook : Obj → Bool
  | .loop .. => true
  | .deferred .. => true
  | .mapIter .. => true
  | .stringIter .. => true
  | _ => false
structure KeepsBook (W W' : World) : Prop where
  size : W.heap.size ≤ W'.heap.size
  same : ∀ (k : Nat) (o : Obj), W.heap[k]? = some o → isBook o = true → W'.heap[k]? = some o
theorem KeepsBook.refl (W : World) : KeepsBook W W := ⟨Nat.le_refl _, fun _ _ h _ => h⟩
theorem KeepsBook.trans {A B C : World} (h : KeepsBook A B) (k : KeepsBook B C) : KeepsBook A C := ⟨Nat.le_trans h.size k.size, fun i o hi ho => k.same i o (h.same i o hi ho) ho⟩
theorem KeepsBook.of_grownBy {W W' : World} {row : Option Nat} (hg : W.grownBy W' row) (hrow : ∀ j o, row = some j → W.heap[j]? = some o → isBook o = false) : KeepsBook W W' :=
  ⟨hg.size, fun k o hk ho => (hg.block k (Array.getElem?_eq_some_iff.1 hk).1 (fun e => by have := hrow k o e.symm hk; rw [this] at ho; cases ho)).trans hk⟩
theorem KeepsBook.alloc (W : World) (o : Obj) : KeepsBook W (W.alloc o) := .of_grownBy (World.grownBy_alloc W o none) (fun _ _ e => by cases e)
theorem book_not_cells {o : Obj} (h : o.isCells = true) : isBook o = false := by cases o <;> simp_all [Obj.isCells, isBook]
theorem KeepsBook.setCell (W : World) (a : Addr) (v : Value) : KeepsBook W (W.setCell a v) :=
  ⟨(KeepsOthers.setCell W a v).size, fun k o hk ho => (KeepsOthers.setCell W a v).same k o hk (by cases o <;> simp_all [Obj.isCells, isBook])⟩
theorem KeepsBook.drewN (W : World) (n : Nat) : KeepsBook W (W.drewN n) := ⟨Nat.le_refl _, fun _ _ h _ => h⟩
theorem KeepsBook.drew (W : World) : KeepsBook W W.drew := ⟨Nat.le_refl _, fun _ _ h _ => h⟩
theorem KeepsBook.below {W W' : World} (h : Below W.heap.size W W') : KeepsBook W W' :=
  ⟨h.size, fun k o hk _ => (h.block k (Array.getElem?_eq_some_iff.1 hk).1).trans hk⟩

/-- It does not mind the turn of a block of that kind that lies at or beyond B. -/
def OwnB {β : Type} (B : Nat) (I : β → World → Prop) : Prop :=
  ∀ s W W' row, I s W → W.grownBy W' row → (∀ r, row = some r → B ≤ r ∧ ∃ o : Obj, W.heap[r]? = some o ∧ isBook o = true) → I s W'
theorem OwnB.putObj {β : Type} {B : Nat} {I : β → World → Prop} (h : OwnB B I) {s : β} {W : World} {l : Nat} {o : Obj} (o' : Obj) (hs : I s W) (hB : B ≤ l) (hl : W.heap[l]? = some o) (ho : isBook o = true) : I s (W.putObj l o') :=
  h s W _ (some l) hs (grownBy_putObj' W l o') (fun r e => by cases e; exact ⟨hB, o, hl, ho⟩)
theorem OwnB.alloc {β : Type} {B : Nat} {I : β → World → Prop} (h : OwnB B I) {s : β} {W : World} (o : Obj) (hs : I s W) : I s (W.alloc o) :=
  h s W _ none hs (World.grownBy_alloc W o none) (fun r e => by cases e)
theorem OwnB.and {β : Type} {B : Nat} {I I' : β → World → Prop} (h : OwnB B I) (h' : OwnB B I') : OwnB B (fun s W => I s W ∧ I' s W) := fun s W W' row hs hg hr => ⟨h s W W' row hs.1 hg hr, h' s W W' row hs.2 hg hr⟩
theorem OwnB.mono {β : Type} {B B' : Nat} {I : β → World → Prop} (h : OwnB B I) (hB : B ≤ B') : OwnB B' I := fun s W W' row hs hg hr => h s W W' row hs hg fun r e => ⟨Nat.le_trans hB (hr r e).1, (hr r e).2⟩
theorem Own.book {β : Type} {I : β → World → Prop} (h : Own I) (B : Nat) : OwnB B I := fun s W W' row hs hg hr => h s W W' row hs hg (fun r e => by
  obtain ⟨_, o, ho, hb⟩ := hr r e
  exact ⟨o, ho, by cases o <;> simp_all [isBook, Obj.isCells]⟩)
theorem ownB_pure {β : Type} (B : Nat) (p : β → Prop) : OwnB B (fun s (_ : World) => p s) := fun _ _ _ _ hs _ _ => hs
theorem ownB_below {β : Type} {n₀ B : Nat} {w₀ : World} (hn : n₀ ≤ w₀.heap.size) (hB : n₀ ≤ B) : OwnB B (fun (_ : β) W => Below n₀ w₀ W) :=
  fun _ _ _ _ hs hg hr => hs.grown hg (Nat.le_trans hn hs.size) (fun k e => Nat.le_trans hB (hr k e).1)
theorem ownB_keeps {β : Type} {B : Nat} {w₀ : World} (hB : w₀.heap.size ≤ B) : OwnB B (fun (_ : β) W => KeepsBook w₀ W) :=
  fun _ X Y row hs hg hr => ⟨Nat.le_trans hs.size hg.size, fun k o h0 ho => by
    have hX := hs.same k o h0 ho
    refine (hg.block k (Array.getElem?_eq_some_iff.1 hX).1 (fun e => ?_)).trans hX
    have h1 := (hr k e.symm).1
    have h2 := (Array.getElem?_eq_some_iff.1 h0).1
    omega⟩
theorem book_kept {W W' : World} {row : Option Nat} (hg : W.grownBy W' row) {l : Nat} {o : Obj} (hl : W.heap[l]? = some o) (hr : row ≠ some l) : W'.heap[l]? = some o :=
  (hg.block l (Array.getElem?_eq_some_iff.1 hl).1 (fun e => hr e.symm)).trans hl

/-- The contract of an iterator: it hands over the elements of some list that S lets, each of which V lets; a round keeps Kp. -/
def SeqB {α : Type} (F : Fence) (n : Nat) (P : Program) (g : Nat) (lb : Array Value) (encs : α → Array Value) (Kp : World → World → Prop) (S : List α → Prop) (V : List α → α → Prop) (w : World) : Prop :=
  ∀ (l : Nat) (J : List α → World → Prop) (W : World), Below w.heap.size w W → (∀ s W1 W' row, J s W1 → W1.grownBy W' row → (∀ r, row = some r → W.heap.size ≤ r ∧ ∃ o : Obj, W1.heap[r]? = some o ∧ isBook o = true) → J s W') →
    (∀ pre x W1, J pre W1 → V pre x → YieldAt F (n - 1) P l (encs x) W1 fun e W' => e = .returned (.bool true) ∧ J (pre ++ [x]) W' ∧ Kp W1 W') →
    J [] W → CallsIn F n P g (#[.func (.yield l) #[] #[]] ++ lb) W fun e W' => (∃ v, e = .returned v) ∧ ∃ xs, S xs ∧ J xs W'

/-- How the body of a round is left. -/
def postB {α : Type} (Kp : World → World → Prop) (I : List α → World → Prop) (xs : List α) (W : World) : Exit → Act → World → Prop
  | .normal, _, W' => KeepsBook W W' ∧ Kp W W' ∧ I xs W'
  | _, _, _ => False

variable {F : Fence} {n : Nat} {P : Program}

/-- The statement, at a function's own level. -/
theorem range_book {α : Type} {g : Operand} {ps : Array Tmp} {assign body : Code} {Q : Exit → Act → World → Prop} {a : Act} {w : World}
    (hro : F.round = none) (h1 : 1 ≤ n) {gf : Nat} {lb : Array Value} (hg : a.eval g = .func (.func gf) #[] lb) (hFg : F.fn gf) (eg : ∀ args w, (callFunc gf args).run P w = .ok (.enter gf args) w)
    {encs : α → Array Value} {Kp : World → World → Prop} {S : List α → Prop} {V : List α → α → Prop} {w0 : World} (hseq : SeqB F (n - 1) P gf lb encs Kp S V w0)
    (hKt : ∀ {A B C : World}, Kp A B → Kp B C → Kp A C) (hKb : ∀ (W : World) (l : Nat) (o : Loop) (o' : Obj), w.heap.size ≤ l → W.heap[l]? = some (.loop o) → Kp W (W.putObj l o')) (hb0 : Below w0.heap.size w0 w) (hps : ∀ x, (encs x).size = ps.size)
    (I : List α → World → Prop) (hI : OwnB w.heap.size I) (h0 : I [] w) (Ax : α → Act → World → Prop) (hAx : ∀ x a', OwnB w.heap.size (fun (_ : Unit) W => Ax x a' W))
    (hassign : ∀ (l : Nat) (pre : List α) (x : α) (W : World) (K : Act → World → Prop), I pre W → (∀ a' W', KeepsBook W W' → Kp W W' → I pre W' → Ax x a' W' → K a' W') →
      assign.wpIn (F.inRound l) (n - 1 - 1) P (Exit.then K (fun _ _ _ => False)) { tmps := (ps.zip (encs x)).foldl (fun t (p, v) => t.setIfInBounds p v) a.tmps, defers := [] } W)
    (hbody : ∀ (l : Nat) (pre : List α) (x : α) (a' : Act) (W : World), w.heap.size ≤ l → (∃ r, W.heap[l]? = some (.loop r)) → I pre W → Ax x a' W → V pre x → body.wpIn (F.inRound l) (n - 1 - 1) P (postB Kp I (pre ++ [x]) W) a' W)
    (hdone : ∀ (D : Nat) (xs : List α) (W : World), w.heap.size ≤ D → S xs → I xs W → KeepsBook w W → W.heap[D]? = some (.deferred (some [])) → Q .normal { a with defers := { target := .collected D, args := #[] } :: a.defers } W) :
    (Code.rangeFunc g ps assign body).wpIn F n P Q a w := by
  refine wpIn_rangeFunc ?_
  intro fn hfn
  rw [hro]
  obtain ⟨rec, hrec⟩ : ∃ rec : LoopState → Loop, rec = fun st => { state := st, pending := none, fn, tmps := a.tmps, params := ps, assign, body, defers := w.heap.size } := ⟨_, rfl⟩
  obtain ⟨W1, hW1⟩ : ∃ W1, (w.alloc (.deferred (some []))).alloc (.loop (rec .ready)) = W1 := ⟨_, rfl⟩
  have hL1 : W1.heap[w.heap.size + 1]? = some (.loop (rec .ready)) := by
    rw [← hW1]; have := World.alloc_heap_new (w.alloc (.deferred (some []))) (.loop (rec .ready)); rwa [World.size_alloc] at this
  have hK1 : W1.heap[w.heap.size]? = some (.deferred (some [])) := by
    rw [← hW1]; exact (Below.heap_alloc _ _ _ (by simp)).trans (World.alloc_heap_new w _)
  have hI' : OwnB w.heap.size (fun s W => I s W ∧ KeepsBook w W) := hI.and (ownB_keeps (Nat.le_refl _))
  have hI1 : I [] W1 ∧ KeepsBook w W1 := by rw [← hW1]; exact hI'.alloc _ (hI'.alloc _ ⟨h0, .refl _⟩)
  have hs1 : W1.heap.size = w.heap.size + 1 + 1 := by rw [← hW1]; simp
  have hb1 : Below w0.heap.size w0 W1 := by
    rw [← hW1]; exact hb0.trans ((((Below.refl _ w).alloc (Nat.le_refl _) _).alloc (by simp) _).mono hb0.size)
  refine ⟨w.heap.size + 1, [{ target := .collected w.heap.size, args := #[] }], W1, { target := .fn (.func gf) lb, args := #[.func (.yield (w.heap.size + 1)) #[] #[]] }, W1, gf,
    #[.func (.yield (w.heap.size + 1)) #[] #[]] ++ lb, W1, ?_, ?_, ?_, ?_, fun _ => h1, ?_⟩
  · rw [← hW1, hrec]; exact run_enterLoop_outer _ _ _ _ _
  · simp only [resolve, hg]
    simp [go_sem]
  · intro f' hf'; simp [Target.leads] at hf'; subst hf'; exact hFg
  · simp [invoke, go_sem, eg]
  · refine (hseq (w.heap.size + 1)
      (fun pre W => (I pre W ∧ KeepsBook w W) ∧ W.heap[w.heap.size + 1]? = some (.loop (rec .ready)) ∧ W.heap[w.heap.size]? = some (.deferred (some [])))
      W1 hb1
      (fun s A B row hs hg' hr => ⟨hI' s A B row hs.1 hg' (fun r e => ⟨by have := (hr r e).1; omega, (hr r e).2⟩),
        book_kept hg' hs.2.1 (fun e => by have := (hr _ e).1; omega), book_kept hg' hs.2.2 (fun e => by have := (hr _ e).1; omega)⟩)
      ?_ ⟨hI1, hL1, hK1⟩).mono ?_
    · rintro pre x W ⟨⟨hi, hkw⟩, hl, hk⟩ hV
      have hlt : w.heap.size + 1 < W.heap.size := (Array.getElem?_eq_some_iff.1 hl).1
      have hy := run_yield (P := P) (args := encs x) hl (by rw [hrec]; exact hps x)
      rw [hrec] at hy
      refine ⟨fn, _, assign, body, hy, roundIn_of_wpIn hfn (hassign _ pre x W _ hi ?_)⟩
      clear hy
      intro a' Wa hkfa hkpa hia hax
      have hla := hkfa.same _ _ hl rfl
      have hka := hkfa.same _ _ hk rfl
      have hlta : w.heap.size + 1 < Wa.heap.size := (Array.getElem?_eq_some_iff.1 hla).1
      refine ⟨_, run_beginRound hla (by rw [hrec]), ?_⟩
      have hl2 : (Wa.putObj (w.heap.size + 1) (.loop { rec .ready with state := .busy })).heap[w.heap.size + 1]? = some (.loop { rec .ready with state := .busy }) := World.putObj_heap_same hlta
      have hk2 : (Wa.putObj (w.heap.size + 1) (.loop { rec .ready with state := .busy })).heap[w.heap.size]? = some (.deferred (some [])) := (World.putObj_heap_other (by omega)).trans hka
      have hw2 : Kp Wa (Wa.putObj (w.heap.size + 1) (.loop { rec .ready with state := .busy })) := hKb _ _ _ _ (by omega) hla
      have hkw2 : KeepsBook w (Wa.putObj (w.heap.size + 1) (.loop { rec .ready with state := .busy })) := (ownB_keeps (β := Unit) (Nat.le_refl _)).putObj (s := ()) _ (hkw.trans hkfa) (by omega) hla rfl
      refine wpIn_mono (hbody _ pre x a' _ (by omega) ⟨_, hl2⟩ (hI.putObj _ hia (by omega) hla rfl) ((hAx x a').putObj (s := ()) _ hax (by omega) hla rfl) hV) ?_
      rintro e a3 W3 hp
      cases e with
      | normal =>
        obtain ⟨hk3, hkp3, hi3⟩ := hp
        have hl3 := hk3.same _ _ hl2 rfl
        have hr := run_endRound (P := P) none hl3
        have hkw3 := hkw2.trans hk3
        refine ⟨_, _, hr, rfl, ⟨⟨hI.putObj _ hi3 (by omega) hl3 rfl, (ownB_keeps (β := Unit) (Nat.le_refl _)).putObj (s := ()) _ hkw3 (by omega) hl3 rfl⟩, ?_, (World.putObj_heap_other (by omega)).trans (hk3.same _ _ hk2 rfl)⟩, hKt hkpa (hKt (hKt hw2 hkp3) (hKb _ _ _ _ (by omega) hl3))⟩
        rw [World.putObj_heap_same (Array.getElem?_eq_some_iff.1 hl3).1, hrec]; rfl
      | ret => exact hp.elim
      | exit id => exact hp.elim
      | goto t => exact hp.elim
      | panic ch => exact hp.elim
      | outgrown => exact hp.elim
    · rintro e W2 ⟨⟨v, rfl⟩, xs, hS, ⟨hi, hkw⟩, hl, hk⟩
      exact ⟨none, _, by have := run_endLoop (P := P) hl (by rw [hrec]; simp); rw [hrec] at this; exact this, hdone _ xs _ (Nat.le_refl _) hS (hI.putObj _ hi (by omega) hl rfl) ((ownB_keeps (β := Unit) (Nat.le_refl _)).putObj (s := ()) _ hkw (by omega) hl rfl) ((World.putObj_heap_other (by omega)).trans hk)⟩

/-- The statement, within a round. -/
theorem range_book_in {α : Type} {g : Operand} {ps : Array Tmp} {assign body : Code} {Q : Exit → Act → World → Prop} {a : Act} {w : World}
    {l₀ : Nat} {r₀ : Loop} (hro : F.round = some l₀) (hl₀ : w.heap[l₀]? = some (.loop r₀)) (h1 : 1 ≤ n) {gf : Nat} {lb : Array Value} (hg : a.eval g = .func (.func gf) #[] lb) (hFg : F.fn gf) (eg : ∀ args w, (callFunc gf args).run P w = .ok (.enter gf args) w)
    {encs : α → Array Value} {Kp : World → World → Prop} {S : List α → Prop} {V : List α → α → Prop} {w0 : World} (hseq : SeqB F (n - 1) P gf lb encs Kp S V w0)
    (hKt : ∀ {A B C : World}, Kp A B → Kp B C → Kp A C) (hKb : ∀ (W : World) (l : Nat) (o : Loop) (o' : Obj), w.heap.size ≤ l → W.heap[l]? = some (.loop o) → Kp W (W.putObj l o')) (hb0 : Below w0.heap.size w0 w) (hps : ∀ x, (encs x).size = ps.size)
    (I : List α → World → Prop) (hI : OwnB w.heap.size I) (h0 : I [] w) (Ax : α → Act → World → Prop) (hAx : ∀ x a', OwnB w.heap.size (fun (_ : Unit) W => Ax x a' W))
    (hassign : ∀ (l : Nat) (pre : List α) (x : α) (W : World) (K : Act → World → Prop), I pre W → (∀ a' W', KeepsBook W W' → Kp W W' → I pre W' → Ax x a' W' → K a' W') →
      assign.wpIn (F.inRound l) (n - 1 - 1) P (Exit.then K (fun _ _ _ => False)) { tmps := (ps.zip (encs x)).foldl (fun t (p, v) => t.setIfInBounds p v) a.tmps, defers := [] } W)
    (hbody : ∀ (l : Nat) (pre : List α) (x : α) (a' : Act) (W : World), w.heap.size ≤ l → (∃ r, W.heap[l]? = some (.loop r)) → I pre W → Ax x a' W → V pre x → body.wpIn (F.inRound l) (n - 1 - 1) P (postB Kp I (pre ++ [x]) W) a' W)
    (hdone : ∀ (xs : List α) (W : World), S xs → I xs W → KeepsBook w W → Q .normal a W) :
    (Code.rangeFunc g ps assign body).wpIn F n P Q a w := by
  refine wpIn_rangeFunc ?_
  intro fn hfn
  rw [hro]
  obtain ⟨rec, hrec⟩ : ∃ rec : LoopState → Loop, rec = fun st => { state := st, pending := none, fn, tmps := a.tmps, params := ps, assign, body, defers := r₀.defers } := ⟨_, rfl⟩
  obtain ⟨W1, hW1⟩ : ∃ W1, w.alloc (.loop (rec .ready)) = W1 := ⟨_, rfl⟩
  have hL1 : W1.heap[w.heap.size]? = some (.loop (rec .ready)) := by rw [← hW1]; exact World.alloc_heap_new w _
  have hI' : OwnB w.heap.size (fun s W => I s W ∧ KeepsBook w W) := hI.and (ownB_keeps (Nat.le_refl _))
  have hI1 : I [] W1 ∧ KeepsBook w W1 := by rw [← hW1]; exact hI'.alloc _ ⟨h0, .refl _⟩
  have hs1 : W1.heap.size = w.heap.size + 1 := by rw [← hW1]; simp
  have hb1 : Below w0.heap.size w0 W1 := by
    rw [← hW1]; exact hb0.trans (((Below.refl _ w).alloc (Nat.le_refl _) _).mono hb0.size)
  refine ⟨w.heap.size, [], W1, { target := .fn (.func gf) lb, args := #[.func (.yield w.heap.size) #[] #[]] }, W1, gf,
    #[.func (.yield w.heap.size) #[] #[]] ++ lb, W1, ?_, ?_, ?_, ?_, fun _ => h1, ?_⟩
  · rw [← hW1, hrec]; exact run_enterLoop_inner hl₀ _ _ _ _ _
  · simp only [resolve, hg]
    simp [go_sem]
  · intro f' hf'; simp [Target.leads] at hf'; subst hf'; exact hFg
  · simp [invoke, go_sem, eg]
  · refine (hseq w.heap.size
      (fun pre W => (I pre W ∧ KeepsBook w W) ∧ W.heap[w.heap.size]? = some (.loop (rec .ready)))
      W1 hb1
      (fun s A B row hs hg' hr => ⟨hI' s A B row hs.1 hg' (fun r e => ⟨by have := (hr r e).1; omega, (hr r e).2⟩),
        book_kept hg' hs.2 (fun e => by have := (hr _ e).1; omega)⟩)
      ?_ ⟨hI1, hL1⟩).mono ?_
    · rintro pre x W ⟨⟨hi, hkw⟩, hl⟩ hV
      have hlt : w.heap.size < W.heap.size := (Array.getElem?_eq_some_iff.1 hl).1
      have hy := run_yield (P := P) (args := encs x) hl (by rw [hrec]; exact hps x)
      rw [hrec] at hy
      refine ⟨fn, _, assign, body, hy, roundIn_of_wpIn hfn (hassign _ pre x W _ hi ?_)⟩
      clear hy
      intro a' Wa hkfa hkpa hia hax
      have hla := hkfa.same _ _ hl rfl
      have hlta : w.heap.size < Wa.heap.size := (Array.getElem?_eq_some_iff.1 hla).1
      refine ⟨_, run_beginRound hla (by rw [hrec]), ?_⟩
      have hl2 : (Wa.putObj w.heap.size (.loop { rec .ready with state := .busy })).heap[w.heap.size]? = some (.loop { rec .ready with state := .busy }) := World.putObj_heap_same hlta
      have hw2 : Kp Wa (Wa.putObj w.heap.size (.loop { rec .ready with state := .busy })) := hKb _ _ _ _ (Nat.le_refl _) hla
      have hkw2 : KeepsBook w (Wa.putObj w.heap.size (.loop { rec .ready with state := .busy })) := (ownB_keeps (β := Unit) (Nat.le_refl _)).putObj (s := ()) _ (hkw.trans hkfa) (Nat.le_refl _) hla rfl
      refine wpIn_mono (hbody _ pre x a' _ (Nat.le_refl _) ⟨_, hl2⟩ (hI.putObj _ hia (Nat.le_refl _) hla rfl) ((hAx x a').putObj (s := ()) _ hax (Nat.le_refl _) hla rfl) hV) ?_
      rintro e a3 W3 hp
      cases e with
      | normal =>
        obtain ⟨hk3, hkp3, hi3⟩ := hp
        have hl3 := hk3.same _ _ hl2 rfl
        have hr := run_endRound (P := P) none hl3
        have hkw3 := hkw2.trans hk3
        refine ⟨_, _, hr, rfl, ⟨⟨hI.putObj _ hi3 (Nat.le_refl _) hl3 rfl, (ownB_keeps (β := Unit) (Nat.le_refl _)).putObj (s := ()) _ hkw3 (Nat.le_refl _) hl3 rfl⟩, ?_⟩, hKt hkpa (hKt (hKt hw2 hkp3) (hKb _ _ _ _ (Nat.le_refl _) hl3))⟩
        rw [World.putObj_heap_same (Array.getElem?_eq_some_iff.1 hl3).1, hrec]; rfl
      | ret => exact hp.elim
      | exit id => exact hp.elim
      | goto t => exact hp.elim
      | panic ch => exact hp.elim
      | outgrown => exact hp.elim
    · rintro e W2 ⟨⟨v, rfl⟩, xs, hS, ⟨hi, hkw⟩, hl⟩
      exact ⟨none, _, by have := run_endLoop (P := P) hl (by rw [hrec]; simp); rw [hrec] at this; exact this, hdone xs _ hS (hI.putObj _ hi (Nat.le_refl _) hl rfl) ((ownB_keeps (β := Unit) (Nat.le_refl _)).putObj (s := ()) _ hkw (Nat.le_refl _) hl rfl)⟩

/-- What a round keeps for its iterator: one block, and all iterators. -/
structure KeepsIt (b : Nat) (W W' : World) : Prop where
  size : W.heap.size ≤ W'.heap.size
  block : b < W.heap.size → W'.heap[b]? = W.heap[b]?
  iter : ∀ (k : Nat) (o : Obj), W.heap[k]? = some o → (match o with | .mapIter .. => true | _ => false) = true → W'.heap[k]? = some o
theorem KeepsIt.refl (b : Nat) (W : World) : KeepsIt b W W := ⟨Nat.le_refl _, fun _ => rfl, fun _ _ h _ => h⟩
theorem KeepsIt.setCell {b : Nat} (W : World) {a : Addr} (v : Value) (h : b ≠ a.block) : KeepsIt b W (W.setCell a v) :=
  ⟨(KeepsOthers.setCell W a v).size, fun _ => Below.heap_setCell W a v b h, fun k o hk ho => (KeepsOthers.setCell W a v).same k o hk (by cases o <;> simp_all [Obj.isCells])⟩
theorem KeepsIt.below {b : Nat} {W W' : World} (h : Below W.heap.size W W') : KeepsIt b W W' :=
  ⟨h.size, fun hb => h.block b hb, fun k o hk _ => (h.block k (Array.getElem?_eq_some_iff.1 hk).1).trans hk⟩
theorem KeepsIt.trans {b : Nat} {A B C : World} (h : KeepsIt b A B) (k : KeepsIt b B C) : KeepsIt b A C :=
  ⟨Nat.le_trans h.size k.size, fun hb => (k.block (Nat.lt_of_lt_of_le hb h.size)).trans (h.block hb), fun i o hi ho => k.iter i o (h.iter i o hi ho) ho⟩
theorem KeepsIt.putObj {b : Nat} {w W : World} {l : Nat} {r : Loop} {o' : Obj} (hb : b < w.heap.size) (hl : w.heap.size ≤ l) (h : W.heap[l]? = some (.loop r)) : KeepsIt b W (W.putObj l o') :=
  ⟨by simp, fun _ => World.putObj_heap_other (by omega), fun k o hk ho => by
    by_cases e : k = l
    · subst e; rw [h] at hk; cases hk; cases ho
    · exact (World.putObj_heap_other e).trans hk⟩
theorem KeepsBook.it {b : Nat} {W W' : World} (h : KeepsBook W W') (hb : b < W.heap.size → W'.heap[b]? = W.heap[b]?) : KeepsIt b W W' :=
  ⟨h.size, hb, fun k o hk ho => h.same k o hk (by cases o <;> simp_all [isBook])⟩
/-- What loops have left behind for the function's end: no deferred call in any. -/
def Marks (n₀ : Nat) (W : World) : List Deferred → Prop
  | [] => True
  | d :: ds => (∃ D, d = { target := .collected D, args := #[] } ∧ n₀ ≤ D ∧ W.heap[D]? = some (.deferred (some [])) ∧ ∀ d' ∈ ds, d' ≠ d) ∧ Marks n₀ W ds
theorem Marks.keep {n₀ : Nat} {W W' : World} (hk : KeepsBook W W') : ∀ {ds : List Deferred}, Marks n₀ W ds → Marks n₀ W' ds
  | [], _ => trivial
  | d :: ds, ⟨⟨D, h1, h2, h3, h4⟩, h5⟩ => ⟨⟨D, h1, h2, hk.same D _ h3 rfl, h4⟩, Marks.keep hk h5⟩
theorem Marks.lt {n₀ : Nat} {W : World} : ∀ {ds : List Deferred}, Marks n₀ W ds → ∀ d ∈ ds, ∃ D, d = { target := .collected D, args := #[] } ∧ D < W.heap.size
  | [], _, d, h => by simp at h
  | e :: ds, ⟨⟨D, h1, h2, h3, h4⟩, h5⟩, d, h => by
    rw [List.mem_cons] at h
    rcases h with rfl | h
    · exact ⟨D, h1, (Array.getElem?_eq_some_iff.1 h3).1⟩
    · exact Marks.lt h5 d h
theorem Marks.cons {n₀ : Nat} {w W : World} {ds : List Deferred} (h : Marks n₀ w ds) (hk : KeepsBook w W) {D : Nat} (hn : n₀ ≤ w.heap.size) (hD : w.heap.size ≤ D) (hW : W.heap[D]? = some (.deferred (some []))) : Marks n₀ W ({ target := .collected D, args := #[] } :: ds) :=
  ⟨⟨D, rfl, by omega, hW, fun d' hd' e => by
    obtain ⟨D', e', hl⟩ := h.lt d' hd'
    rw [e] at e'
    injection e' with e'
    injection e' with e'
    omega⟩, h.keep hk⟩
theorem leaves_marks {F : Fence} {n : Nat} {P : Program} {fn : Func} {tmps : Array Value} {R : Ending → World → Prop} {n₀ : Nat} {w₀ : World} (hend : ∀ W', Below n₀ w₀ W' → LeavesInM F n P fn tmps R [] .returning W') :
    ∀ (ds : List Deferred) (W : World), Marks n₀ W ds → Below n₀ w₀ W → n₀ ≤ W.heap.size → LeavesInM F n P fn tmps R ds .returning W
  | [], W, _, hB, _ => hend W hB
  | d :: ds, W, ⟨⟨D, h1, h2, h3, h4⟩, h5⟩, hB, hn => by
    subst h1
    refine ⟨by simp, .inl ⟨D, _, rfl, run_takeDeferred h3, ?_⟩⟩
    have hb : Below n₀ W (W.putObj D (.deferred none)) := ⟨rfl, rfl, rfl, by simp, fun k hk => World.putObj_heap_other (by omega)⟩
    refine leaves_marks hend ds _ ?_ (hB.trans hb) (by simpa using hn)
    clear hB
    induction ds with
    | nil => trivial
    | cons e ds ih =>
      obtain ⟨⟨D', g1, g2, g3, g4⟩, g5⟩ := h5
      have hne : D' ≠ D := fun e' => h4 e (by simp) (by rw [g1, e'])
      exact ⟨⟨D', g1, g2, (World.putObj_heap_other hne).trans g3, g4⟩, ih g5 (fun d' hd' => h4 d' (by simp [hd']))⟩
end Go.Proofs.YtmeamgeojcbljaaDoor
