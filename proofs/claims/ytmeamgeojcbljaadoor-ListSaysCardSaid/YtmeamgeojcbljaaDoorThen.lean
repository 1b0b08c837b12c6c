/- A memo that is filled in the rounds of a range over a function; no program in sight. -/
import Derived.Test.YtmeamgeojcbljaaDoorRunTo
import Derived.Test.YtmeamgeojcbljaaDoorRound
namespace Go.Proofs.YtmeamgeojcbljaaDoor
open Go.RowKit Go.Maps

/-- All blocks of cells but q lie as they lay. -/
structure KeepsC (q : Nat) (A B : World) : Prop where
  size : A.heap.size ≤ B.heap.size
  cells : ∀ (k : Nat) (o : Obj), A.heap[k]? = some o → o.isCells = true → k ≠ q → B.heap[k]? = some o
theorem KeepsC.refl (q : Nat) (A : World) : KeepsC q A A := ⟨Nat.le_refl _, fun _ _ h _ _ => h⟩
theorem KeepsC.trans {q : Nat} {A B C : World} (h : KeepsC q A B) (k : KeepsC q B C) : KeepsC q A C := ⟨Nat.le_trans h.size k.size, fun i o hi ho hq => k.cells i o (h.cells i o hi ho hq) ho hq⟩
theorem KeepsC.below {q : Nat} {A B : World} (h : Below A.heap.size A B) : KeepsC q A B := ⟨h.size, fun k o hk _ _ => (h.block k (Array.getElem?_eq_some_iff.1 hk).1).trans hk⟩
theorem KeepsC.boxed {q : Nat} {A B : World} (h : KeepsC q A B) {k : Nat} {t : TypeId} {v : Value} (hb : Boxed A k t v) (hk : k ≠ q) : Boxed B k t v := h.cells k _ hb rfl hk
theorem ownB_cells {β : Type} {B : Nat} {q : Nat} {w₀ : World} : OwnB B (fun (_ : β) W => KeepsC q w₀ W) :=
  fun _ X Y row hs hg hr => ⟨Nat.le_trans hs.size hg.size, fun k o h0 ho hq => by
    have hX := hs.cells k o h0 ho hq
    refine (hg.block k (Array.getElem?_eq_some_iff.1 hX).1 (fun e => ?_)).trans hX
    obtain ⟨_, o', h1, h2⟩ := hr k e.symm
    rw [hX] at h1
    cases h1
    cases o <;> simp_all [isBook, Obj.isCells]⟩
theorem ownB_it {β : Type} {B b : Nat} {w₀ : World} (hB : w₀.heap.size ≤ B) (hb : b < w₀.heap.size) : OwnB B (fun (_ : β) W => KeepsIt b w₀ W) :=
  fun _ X Y row hs hg hr => ⟨Nat.le_trans hs.size hg.size, fun _ => (hg.block b (Nat.lt_of_lt_of_le hb hs.size) (fun e => by have := (hr b e.symm).1; omega)).trans (hs.block hb), fun k o h0 ho => by
    have hX := hs.iter k o h0 ho
    refine (hg.block k (Array.getElem?_eq_some_iff.1 hX).1 (fun e => ?_)).trans hX
    have h1 := (hr k e.symm).1
    have h2 := (Array.getElem?_eq_some_iff.1 h0).1
    omega⟩
theorem ownB_boxed {β : Type} {B k : Nat} {t : TypeId} {v : Value} : OwnB B (fun (_ : β) W => Boxed W k t v) :=
  fun _ X Y row hs hg hr => hs.kept hg fun e => by
    obtain ⟨_, o', h1, h2⟩ := hr k e.symm
    rw [show X.heap[k]? = _ from hs] at h1
    cases h1; cases h2

section
variable {K : Type} {P : Program} {kT eT sT : TypeId} {enc : K → Value} {lit : K → Lit} {ok : K → Prop}
/-- The memo at block q has the best of R; what lay when the loop began lies, but for q. -/
def ThenI (P : Program) (kT eT sT : TypeId) (lit : K → Lit) (ok : K → Prop) (W0 : World) (q : Nat) (good : K → Prop) (R : K → Int → Prop) (V : World) : Prop :=
  ∃ mb T, Memo P kT eT sT lit ok V q mb T ∧ MemoR R T ∧ (∀ y ∈ T, good y.1) ∧ (∀ b', mb = some b' → W0.heap.size ≤ b') ∧ Turned (fun k => k = q) W0 V
variable {W0 V V2 : World} {q : Nat} {good : K → Prop} {R R' : K → Int → Prop}
theorem ThenI.congr (h : ThenI P kT eT sT lit ok W0 q good R V) (hr : ∀ k c, R k c ↔ R' k c) : ThenI P kT eT sT lit ok W0 q good R' V := by
  obtain ⟨mb, T, h1, h2, h3⟩ := h
  exact ⟨mb, T, h1, h2.congr hr, h3⟩
theorem ThenI.turned (h : ThenI P kT eT sT lit ok W0 q good R V) : Turned (fun k => k = q) W0 V := by
  obtain ⟨_, _, _, _, _, _, h5⟩ := h; exact h5
theorem ThenI.start (h : Boxed W0 q sT (.map none)) : ThenI P kT eT sT lit ok W0 q good (fun _ _ => False) W0 :=
  ⟨none, [], ⟨h, rfl⟩, memoR_nil, by simp, by simp, .refl _ _⟩
theorem ThenI.below (h : ThenI P kT eT sT lit ok W0 q good R V) (hb : Below V.heap.size V V2) : ThenI P kT eT sT lit ok W0 q good R V2 := by
  obtain ⟨mb, T, h1, h2, h3, h4, h5⟩ := h
  exact ⟨mb, T, h1.keep fun k hk _ => hb.block k hk, h2, h3, h4, h5.trans ⟨hb.os, hb.tape, hb.output, hb.size, fun k hk _ => hb.block k hk⟩⟩
theorem ThenI.own {β : Type} {Rf : β → K → Int → Prop} {B : Nat} (hB : W0.heap.size ≤ B) : OwnB B (fun (s : β) V => ThenI P kT eT sT lit ok W0 q good (Rf s) V) := by
  intro s X Y row hs hg hr
  obtain ⟨mb, T, h1, h2, h3, h4, h5⟩ := hs
  refine ⟨mb, T, h1.keep fun k hk hS => hg.block k hk (fun e => ?_), h2, h3, h4, hg.os.trans h5.os, hg.tape.trans h5.tape, hg.output.trans h5.output, Nat.le_trans h5.size hg.size, fun k hk hS => (hg.block k (Nat.lt_of_lt_of_le hk h5.size) (fun e => by have := (hr k e.symm).1; omega)).trans (h5.block k hk hS)⟩
  obtain ⟨_, o, ho, hb⟩ := hr k e.symm
  rw [h1.book k o hS ho] at hb; cases hb
/-- Less, in a round. -/
theorem ThenI.less [DecidableEq K] (hlen : ∀ T : List (K × Int), (T.map Prod.fst).Nodup → (∀ y ∈ T, good y.1) → T.length ≤ 1048576) {f : FuncId} {x : K} {c : Int} (hg : good x)
    (hcall : ∀ mb T, Memo P kT eT sT lit ok V q mb T → T.length ≤ 1048576 → Calls P f #[.pointer (some ⟨q, 0, none⟩), enc x, .int .i64 c] V fun e w' => e = .returned (.bool (lessB T x c)) ∧
      ∃ mb', Memo P kT eT sT lit ok w' q mb' (lessL T x c) ∧ (mb' = mb ∨ (mb = none ∧ ∃ b', mb' = some b' ∧ V.heap.size ≤ b')) ∧ Turned (memoS q mb) V w')
    (h : ThenI P kT eT sT lit ok W0 q good R V) (hq : q < W0.heap.size) :
    Calls P f #[.pointer (some ⟨q, 0, none⟩), enc x, .int .i64 c] V fun e w' => (∃ y, e = .returned (.bool y)) ∧ ThenI P kT eT sT lit ok W0 q good (fun k c' => R k c' ∨ (k = x ∧ c' = c)) w' ∧ KeepsBook V w' ∧ KeepsC q V w' ∧
      (∀ b, b < W0.heap.size → b ≠ q → w'.heap[b]? = V.heap[b]?) := by
  obtain ⟨mb, T, h1, h2, h3, h4, h5⟩ := h
  refine (hcall mb T h1 (hlen T h1.good.1 h3)).mono ?_
  rintro e w' ⟨rfl, mb', g1, g2, g3⟩
  have hb : ∀ b, b < W0.heap.size → b ≠ q → w'.heap[b]? = V.heap[b]? := fun b hb hbq => g3.block b (Nat.lt_of_lt_of_le hb h5.size) (by
    rintro (e | e)
    · exact hbq e
    · have := h4 b e; omega)
  refine ⟨⟨_, rfl⟩, ⟨mb', lessL T x c, g1, h2.less x c, fun y hy => ?_, fun b' e => ?_, g3.os.trans h5.os, g3.tape.trans h5.tape, g3.output.trans h5.output, Nat.le_trans h5.size g3.size, fun k hk hS => (hb k hk hS).trans (h5.block k hk hS)⟩, g3.book h1.book, ⟨g3.size, fun k o hk ho hkq => ?_⟩, hb⟩
  · unfold lessL at hy
    split at hy
    · exact h3 y hy
    · rw [List.mem_cons] at hy
      rcases hy with rfl | hy
      · exact hg
      · exact h3 y (List.mem_filter.1 hy).1
  · rcases g2 with rfl | ⟨rfl, b2, e2, hb2⟩
    · exact h4 b' e
    · rw [e2] at e; cases e
      exact Nat.le_trans h5.size hb2
  · refine (g3.block k (Array.getElem?_eq_some_iff.1 hk).1 ?_).trans hk
    rintro (e | e)
    · exact hkq e
    · subst e
      obtain ⟨as, cl, hm⟩ := Mm.obj h1.2
      rw [hm] at hk; cases hk; cases ho
end
end Go.Proofs.YtmeamgeojcbljaaDoor
