/- A map from keys to costs, as a list of entries; no program in sight. -/
import Derived.Maps.OwnSet
import Derived.Maps.RangeWalk
import Derived.Maps.OwnIn
import Derived.Test.YtmeamgeojcbljaaDoorBook
namespace Go.Proofs.YtmeamgeojcbljaaDoor
open Go.RowKit Go.Maps

section
variable {K : Type}

/-- How keys lie in the memory, and how they read. -/
structure KeyRd (P : Program) (kT : TypeId) (enc : K → Value) (lit : K → Lit) (ok : K → Prop) : Prop where
  law : Maps.Keyed P kT
  key : ∀ x, ok x → keyOf P kT (enc x) = some (lit x)
  inj : ∀ x y, ok x → ok y → lit x = lit y → x = y
  einj : ∀ x y, enc x = enc y → x = y
  inv : ∀ v l, keyOf P kT v = some l → ∃ x, ok x ∧ v = enc x ∧ l = lit x

def ent (lit : K → Lit) (p : K × Int) : Lit × DataW Unit := (lit p.1, .lit (.int .i64 p.2))

/-- The entries are good ones, no key twice. -/
def GoodM (ok : K → Prop) (L : List (K × Int)) : Prop := (L.map Prod.fst).Nodup ∧ ∀ p ∈ L, ok p.1 ∧ (Lit.int .i64 p.2).wf = true

/-- Block b is a map that has the entries L. -/
def Mm (P : Program) (kT eT : TypeId) (lit : K → Lit) (ok : K → Prop) (W : World) (b : Nat) (L : List (K × Int)) : Prop :=
  GoodM ok L ∧ ∃ es, es.Perm (L.map (ent lit)) ∧ W.ownsMap (H := Unit) P kT (plainElem P eT) b L.length (.map es)

/-- Noted down. -/
def lessL [DecidableEq K] (L : List (K × Int)) (x : K) (c : Int) : List (K × Int) := if ∃ p ∈ L, p.1 = x ∧ p.2 ≤ c then L else (x, c) :: L.filter (fun p => p.1 ≠ x)
def lessB [DecidableEq K] (L : List (K × Int)) (x : K) (c : Int) : Bool := !decide (∃ p ∈ L, p.1 = x ∧ p.2 ≤ c)

theorem goodM_less [DecidableEq K] {ok : K → Prop} {L : List (K × Int)} (h : GoodM ok L) {x : K} {c : Int} (hx : ok x) (hc : (Lit.int .i64 c).wf = true) : GoodM ok (lessL L x c) := by
  unfold lessL
  split
  · exact h
  · refine ⟨?_, fun p hp => ?_⟩
    · rw [List.map_cons, List.nodup_cons]
      refine ⟨fun hm => ?_, h.1.sublist (List.filter_sublist.map _)⟩
      obtain ⟨p, hp, e⟩ := List.mem_map.1 hm
      have := (List.mem_filter.1 hp).2
      simp at this
      exact this e
    · rw [List.mem_cons] at hp
      rcases hp with rfl | hp
      · exact ⟨hx, hc⟩
      · exact h.2 p (List.mem_filter.1 hp).1

theorem exact_size {P : Program} {kT : TypeId} {R : Value → Option (DataW Unit × List MemPlace)} {W : World} {b n : Nat} {es : List (Lit × DataW Unit)} (h : W.ownsMap P kT R b n (.map es)) : W.ownsMap P kT R b es.length (.map es) := by
  obtain ⟨as, clock, hb, F, _, hD⟩ := h
  refine ⟨as, clock, hb, F, ?_, hD⟩
  injection hD with hD
  rw [hD, length_sorted]; simp

variable {P : Program} {kT eT : TypeId} {enc : K → Value} {lit : K → Lit} {ok : K → Prop} {W : World} {b : Nat} {L : List (K × Int)}

theorem Mm.made (W : World) : Mm P kT eT lit ok (W.alloc (.map #[] 0)) W.heap.size ([] : List (K × Int)) :=
  ⟨⟨by simp, by simp⟩, [], .refl _, World.ownsMap_made W P kT _⟩
theorem Mm.lt (h : Mm P kT eT lit ok W b L) : b < W.heap.size := by obtain ⟨_, es, _, ho⟩ := h; exact ho.lt
theorem Mm.block {W' : World} (h : Mm P kT eT lit ok W b L) (hb : W'.heap[b]? = W.heap[b]?) : Mm P kT eT lit ok W' b L := by
  obtain ⟨h1, es, h2, as, clock, h3, h4⟩ := h
  exact ⟨h1, es, h2, as, clock, hb.trans h3, h4⟩
theorem Mm.obj (h : Mm P kT eT lit ok W b L) : ∃ as clock, W.heap[b]? = some (.map as clock) := by
  obtain ⟨_, es, _, as, clock, h3, _⟩ := h; exact ⟨as, clock, h3⟩

theorem has_es {es : List (Lit × DataW Unit)} (hp : es.Perm (L.map (ent lit))) (kl : Lit) (hk : WideAt.IsKeyLit kl) : Maps.has (.map es) kl = true ↔ ∃ p ∈ L, lit p.1 = kl := by
  rw [has_eq, List.any_eq_true]
  constructor
  · rintro ⟨q, hq, e⟩
    obtain ⟨p, hp', rfl⟩ := List.mem_map.1 (hp.mem_iff.1 hq)
    exact ⟨p, hp', WideAt.sameKey_eq e⟩
  · rintro ⟨p, hp', rfl⟩
    exact ⟨ent lit p, hp.mem_iff.2 (List.mem_map.2 ⟨p, hp', rfl⟩), WideAt.sameKey_self hk⟩
theorem at_es {es : List (Lit × DataW Unit)} (hr : KeyRd P kT enc lit ok) (hg : GoodM ok L) (hp : es.Perm (L.map (ent lit))) {x : K} {c : Int} (hm : (x, c) ∈ L) (zd : DataW Unit) : (DataW.map es).atKey (lit x) zd = .lit (.int .i64 c) := by
  have hx := (hg.2 _ hm).1
  have hk : WideAt.IsKeyLit (lit x) := hr.law.key (hr.key x hx)
  unfold DataW.atKey
  have hin : ent lit (x, c) ∈ es := hp.mem_iff.2 (List.mem_map.2 ⟨_, hm, rfl⟩)
  cases hf : es.find? (fun p => p.1.sameKey (lit x)) with
  | none =>
    have := List.find?_eq_none.1 hf _ hin
    rw [show (ent lit (x, c)).1 = lit x from rfl, WideAt.sameKey_self hk] at this
    exact (this rfl).elim
  | some q =>
    obtain ⟨p, hp', rfl⟩ := List.mem_map.1 (hp.mem_iff.1 (List.mem_of_find?_eq_some hf))
    have e := WideAt.sameKey_eq (List.find?_some (p := fun p : Lit × DataW Unit => p.1.sameKey (lit x)) hf)
    have e2 : p.1 = x := hr.inj _ _ (hg.2 p hp').1 hx e
    have e3 : p = (x, c) := pair_of_nodup hg.1 hp' hm e2
    subst e3; simp only [hf]; rfl
where
  pair_of_nodup : ∀ {L : List (K × Int)} {p q : K × Int}, (L.map Prod.fst).Nodup → p ∈ L → q ∈ L → p.1 = q.1 → p = q := by
    intro L
    induction L with
    | nil => intro p q _ h; simp at h
    | cons a L ih =>
      intro p q hn hp hq e
      rw [List.map_cons, List.nodup_cons] at hn
      rw [List.mem_cons] at hp hq
      rcases hp with rfl | hp
      · rcases hq with rfl | hq
        · rfl
        · exact (hn.1 (List.mem_map.2 ⟨q, hq, e.symm⟩)).elim
      · rcases hq with rfl | hq
        · exact (hn.1 (List.mem_map.2 ⟨p, hp, e⟩)).elim
        · exact ih hn.2 hp hq e
theorem pair_of_nodup {p q : K × Int} (hn : (L.map Prod.fst).Nodup) (hp : p ∈ L) (hq : q ∈ L) (e : p.1 = q.1) : p = q := at_es.pair_of_nodup hn hp hq e

theorem put_es [DecidableEq K] {es : List (Lit × DataW Unit)} (hr : KeyRd P kT enc lit ok) (hg : GoodM ok L) (hp : es.Perm (L.map (ent lit))) {x : K} (hx : ok x) (c : Int) :
    ∃ es', (DataW.map es).put (lit x) (.lit (.int .i64 c)) = .map es' ∧ es'.Perm (((x, c) :: L.filter (fun p => p.1 ≠ x)).map (ent lit)) := by
  refine ⟨_, DataW.put_eq _ _ _, ?_⟩
  have hk : WideAt.IsKeyLit (lit x) := hr.law.key (hr.key x hx)
  unfold ChangeMaps.putKey
  refine (WideShapes.insert_perm _ _).trans ?_
  rw [List.map_cons]
  refine List.Perm.cons _ ?_
  refine (hp.filter _).trans ?_
  rw [List.filter_map]
  have : L.filter (ChangeMaps.notKey (lit x) ∘ ent lit) = L.filter (fun p => p.1 ≠ x) := by
    refine List.filter_congr fun p hp' => ?_
    have h1 := Maps.notKey_iff (p := ent lit p) hk
    by_cases e : p.1 = x
    · simp only [Function.comp]
      have : ¬ ChangeMaps.notKey (lit x) (ent lit p) = true := fun h => h1.1 h (by show lit p.1 = lit x; rw [e])
      simp [e]
      simpa using this
    · simp only [Function.comp]
      rw [h1.2 (fun h => e (hr.inj _ _ (hg.2 p hp').1 hx h))]
      simp [e]
  rw [this]

/-- A store, on the side of the list. -/
theorem Mm.put [DecidableEq K] {W' : World} {n : Nat} (hr : KeyRd P kT enc lit ok) {es : List (Lit × DataW Unit)} (hg : GoodM ok L) (hp : es.Perm (L.map (ent lit))) {x : K} (hx : ok x) {c : Int} (hc : (Lit.int .i64 c).wf = true) (hno : ¬ ∃ p ∈ L, p.1 = x ∧ p.2 ≤ c)
    (ho : W'.ownsMap (H := Unit) P kT (plainElem P eT) b n ((DataW.map es).put (lit x) (.lit (.int .i64 c)))) : Mm P kT eT lit ok W' b (lessL L x c) := by
  refine ⟨goodM_less hg hx hc, ?_⟩
  obtain ⟨es', e, hp'⟩ := put_es hr hg hp hx c
  rw [e] at ho
  refine ⟨es', ?_, ?_⟩
  · unfold lessL; rw [if_neg hno]; exact hp'
  · have := exact_size ho
    rw [hp'.length_eq, List.length_map] at this
    unfold lessL; rw [if_neg hno]; exact this

theorem look_yes {es : List (Lit × DataW Unit)} (hr : KeyRd P kT enc lit ok) (hg : GoodM ok L) (hp : es.Perm (L.map (ent lit))) {x : K} (hx : ok x) {old : Int} {zd : DataW Unit} (hh : Maps.has (.map es) (lit x) = true) (hat : (DataW.map es).atKey (lit x) zd = .lit (.int .i64 old)) : (x, old) ∈ L := by
  obtain ⟨p, hpL, e⟩ := (has_es hp _ (hr.law.key (hr.key x hx))).1 hh
  have e1 := hr.inj _ _ (hg.2 p hpL).1 hx e
  have e2 := at_es (x := p.1) (c := p.2) hr hg hp hpL zd
  rw [e1, hat] at e2
  injection e2 with e2; injection e2 with _ e2
  have : p = (x, old) := Prod.ext e1 e2.symm
  exact this ▸ hpL
theorem look_no {es : List (Lit × DataW Unit)} (hr : KeyRd P kT enc lit ok) (hp : es.Perm (L.map (ent lit))) {x : K} (hx : ok x) (hh : ¬ Maps.has (.map es) (lit x) = true) : ¬ ∃ p ∈ L, p.1 = x := by
  rintro ⟨p, hpL, rfl⟩
  exact hh ((has_es hp _ (hr.law.key (hr.key _ hx))).2 ⟨p, hpL, rfl⟩)

/-- What of the entries has come. -/
def Come (lit : K → Lit) (L ps : List (K × Int)) (left : Lit → Bool) : Prop := ∃ rest, L.Perm (ps ++ rest) ∧ ∀ kl, left kl = true ↔ ∃ p ∈ rest, lit p.1 = kl
theorem Come.start {n : Nat} (hr : KeyRd P kT enc lit ok) (hg : GoodM ok L) {es : List (Lit × DataW Unit)} (hp : es.Perm (L.map (ent lit))) (ho : W.ownsMap (H := Unit) P kT (plainElem P eT) b n (.map es)) : Come lit L [] (Maps.has (.map es)) := by
  refine ⟨L, .refl _, fun kl => ?_⟩
  constructor
  · intro h
    obtain ⟨q, hq, e⟩ := List.any_eq_true.1 h
    obtain ⟨p, hp', rfl⟩ := List.mem_map.1 (hp.mem_iff.1 hq)
    exact ⟨p, hp', WideAt.sameKey_eq e⟩
  · rintro ⟨p, hp', rfl⟩
    exact (has_es hp _ (hr.law.key (hr.key _ (hg.2 p hp').1))).2 ⟨p, hp', rfl⟩
theorem Come.step [DecidableEq K] {ps : List (K × Int)} {left : Lit → Bool} (hr : KeyRd P kT enc lit ok) (hg : GoodM ok L) {es : List (Lit × DataW Unit)} (hp : es.Perm (L.map (ent lit))) (h : Come lit L ps left) {x : K} {c : Int} (hx : ok x) (hl : left (lit x) = true)
    (hat : ∀ zd, (DataW.map es).atKey (lit x) zd = .lit (.int .i64 c)) : (∃ rest, L.Perm (ps ++ (x, c) :: rest)) ∧ Come lit L (ps ++ [(x, c)]) (fun z => left z && !z.sameKey (lit x)) := by
  obtain ⟨rest, h1, h2⟩ := h
  obtain ⟨p, hp', e⟩ := (h2 _).1 hl
  have hin : p ∈ L := h1.mem_iff.2 (by simp [hp'])
  have e1 : p.1 = x := hr.inj _ _ (hg.2 p hin).1 hx e
  have e2 : p.2 = c := by
    have := at_es (x := p.1) (c := p.2) hr hg hp hin (.lit (.int .i64 0))
    rw [e1, hat] at this
    injection this with this; injection this with _ this; exact this.symm
  have e3 : p = (x, c) := Prod.ext e1 e2
  subst e3
  have h3 : rest.Perm ((x, c) :: rest.erase (x, c)) := List.perm_cons_erase hp'
  have h4 : L.Perm (ps ++ (x, c) :: rest.erase (x, c)) := h1.trans (h3.append_left ps)
  refine ⟨⟨_, h4⟩, rest.erase (x, c), by simpa using h4, fun kl => ?_⟩
  have hn : ((ps ++ (x, c) :: rest.erase (x, c)).map Prod.fst).Nodup := (h4.map Prod.fst).nodup_iff.1 hg.1
  constructor
  · intro hk
    simp only [Bool.and_eq_true, Bool.not_eq_true'] at hk
    obtain ⟨q, hq, rfl⟩ := (h2 _).1 hk.1
    refine ⟨q, ?_, rfl⟩
    have := h3.mem_iff.1 hq
    rw [List.mem_cons] at this
    rcases this with rfl | this
    · have hs := WideAt.sameKey_self (hr.law.key (hr.key _ hx))
      rw [hs] at hk; cases hk.2
    · exact this
  · rintro ⟨q, hq, rfl⟩
    have hq' : q ∈ rest := List.mem_of_mem_erase hq
    have hqL : q ∈ L := h1.mem_iff.2 (by simp [hq'])
    simp only [Bool.and_eq_true, Bool.not_eq_true']
    refine ⟨(h2 _).2 ⟨q, hq', rfl⟩, ?_⟩
    cases hs : (lit q.1).sameKey (lit x)
    · rfl
    · have e := hr.inj _ _ (hg.2 q hqL).1 hx (WideAt.sameKey_eq hs)
      rw [List.map_append, List.map_cons, List.nodup_append, List.nodup_cons] at hn
      exact (hn.2.1.1 (List.mem_map.2 ⟨q, hq, e⟩)).elim
theorem Come.all {ps : List (K × Int)} {left : Lit → Bool} (h : Come lit L ps left) (hl : ∀ kl, left kl = false) : L.Perm ps := by
  obtain ⟨rest, h1, h2⟩ := h
  cases rest with
  | nil => simpa using h1
  | cons p rest => have := (h2 (lit p.1)).2 ⟨p, by simp, rfl⟩; rw [hl] at this; cases this
end

/-- A memo: a block of one cell, that has no map yet, or one. -/
def Memo {K : Type} (P : Program) (kT eT sT : TypeId) (lit : K → Lit) (ok : K → Prop) (W : World) (p : Nat) (mb : Option Nat) (L : List (K × Int)) : Prop :=
  Boxed W p sT (.map mb) ∧ match mb with | none => L = [] | some b => Mm P kT eT lit ok W b L

/-- A world in which no block but those in S has turned. -/
structure Turned (S : Nat → Prop) (W W' : World) : Prop where
  os : W'.os = W.os
  tape : W'.tape = W.tape
  output : W'.output = W.output
  size : W.heap.size ≤ W'.heap.size
  block : ∀ k, k < W.heap.size → ¬ S k → W'.heap[k]? = W.heap[k]?
theorem Turned.refl (S : Nat → Prop) (W : World) : Turned S W W := ⟨rfl, rfl, rfl, Nat.le_refl _, fun _ _ _ => rfl⟩
theorem Turned.of_grownBy {S : Nat → Prop} {W W' : World} {row : Option Nat} (h : W.grownBy W' row) (hr : ∀ k, row = some k → S k) : Turned S W W' :=
  ⟨h.os, h.tape, h.output, h.size, fun k hk hS => h.block k hk (fun e => hS (hr k e.symm))⟩
theorem Turned.trans {S : Nat → Prop} {A B C : World} (h : Turned S A B) (k : Turned S B C) : Turned S A C :=
  ⟨k.os.trans h.os, k.tape.trans h.tape, k.output.trans h.output, Nat.le_trans h.size k.size, fun i hi hS => (k.block i (Nat.lt_of_lt_of_le hi h.size) hS).trans (h.block i hi hS)⟩
theorem Turned.mono {S S' : Nat → Prop} {A B : World} (h : Turned S A B) (hS : ∀ k, S k → S' k) : Turned S' A B := ⟨h.os, h.tape, h.output, h.size, fun k hk hn => h.block k hk fun hs => hn (hS k hs)⟩
theorem Turned.below {n₀ : Nat} {S : Nat → Prop} {A B : World} (h : Turned S A B) (hn : n₀ ≤ A.heap.size) (hS : ∀ k, S k → n₀ ≤ k) : Below n₀ A B :=
  ⟨h.os, h.tape, h.output, h.size, fun k hk => h.block k (by omega) fun hs => by have := hS k hs; omega⟩
theorem Turned.book {S : Nat → Prop} {A B : World} (h : Turned S A B) (hS : ∀ k o, S k → A.heap[k]? = some o → isBook o = false) : KeepsBook A B :=
  ⟨h.size, fun k o hk ho => (h.block k (Array.getElem?_eq_some_iff.1 hk).1 fun hs => by rw [hS k o hs hk] at ho; cases ho).trans hk⟩
theorem Turned.cell {S : Nat → Prop} {A B : World} (h : Turned S A B) {p : Addr} {v : Value} (hp : A.cell? p = some v) (hS : ¬ S p.block) : B.cell? p = some v :=
  (World.cell?_of_block (h.block p.block (cell_lt hp) hS)).trans hp

theorem boxed_not_map {W : World} {p b : Nat} {t : TypeId} {v : Value} {as : Array MapEntry} {c : Nat} (h : Boxed W p t v) (hm : W.heap[b]? = some (.map as c)) : p ≠ b := by
  rintro rfl
  rw [show W.heap[p]? = _ from h] at hm
  cases hm
/-- The blocks of a memo. -/
def memoS (p : Nat) (mb : Option Nat) (k : Nat) : Prop := k = p ∨ mb = some k
theorem Memo.book {K : Type} {P : Program} {kT eT sT : TypeId} {lit : K → Lit} {ok : K → Prop} {W : World} {p : Nat} {mb : Option Nat} {L : List (K × Int)} (h : Memo P kT eT sT lit ok W p mb L) :
    ∀ k o, memoS p mb k → W.heap[k]? = some o → isBook o = false := by
  rintro k o (rfl | rfl) hk
  · rw [show W.heap[k]? = _ from h.1] at hk; cases hk; rfl
  · obtain ⟨as, c, e⟩ := Mm.obj h.2
    rw [e] at hk; cases hk; rfl
theorem Memo.keep {K : Type} {P : Program} {kT eT sT : TypeId} {lit : K → Lit} {ok : K → Prop} {W W' : World} {p : Nat} {mb : Option Nat} {L : List (K × Int)} (h : Memo P kT eT sT lit ok W p mb L)
    (hb : ∀ k, k < W.heap.size → memoS p mb k → W'.heap[k]? = W.heap[k]?) : Memo P kT eT sT lit ok W' p mb L := by
  refine ⟨(hb p h.1.lt (.inl rfl)).trans h.1, ?_⟩
  cases mb with
  | none => exact h.2
  | some b => exact Mm.block h.2 (hb b (Mm.lt h.2) (.inr rfl))
theorem Memo.lt {K : Type} {P : Program} {kT eT sT : TypeId} {lit : K → Lit} {ok : K → Prop} {W : World} {p : Nat} {mb : Option Nat} {L : List (K × Int)} (h : Memo P kT eT sT lit ok W p mb L) : ∀ k, memoS p mb k → k < W.heap.size := by
  rintro k (rfl | rfl)
  · exact h.1.lt
  · exact Mm.lt h.2
theorem Memo.good {K : Type} {P : Program} {kT eT sT : TypeId} {lit : K → Lit} {ok : K → Prop} {W : World} {p : Nat} {mb : Option Nat} {L : List (K × Int)} (h : Memo P kT eT sT lit ok W p mb L) : GoodM ok L := by
  cases mb with
  | none => rw [show L = [] from h.2]; exact ⟨by simp, by simp⟩
  | some b => exact h.2.1
/-- Noted down: the memo behind it. -/
theorem Memo.less {K : Type} [DecidableEq K] {P : Program} {kT eT sT : TypeId} {enc : K → Value} {lit : K → Lit} {ok : K → Prop} (hr : KeyRd P kT enc lit ok) {w w1 : World} {p b : Nat} {L : List (K × Int)} {es : List (Lit × DataW Unit)} {x : K} {c : Int} {n : Nat}
    (hb : Boxed w p sT (.map (some b))) (hg : GoodM ok L) (hp : es.Perm (L.map (ent lit))) (hown : w.ownsMap (H := Unit) P kT (plainElem P eT) b L.length (.map es)) (hx : ok x) (hc : (Lit.int .i64 c).wf = true)
    (hno : ¬ ∃ p ∈ L, p.1 = x ∧ p.2 ≤ c) (ho : w1.ownsMap (H := Unit) P kT (plainElem P eT) b n ((DataW.map es).put (lit x) (.lit (.int .i64 c)))) (hgr : w.grownBy w1 (some b)) :
    Memo P kT eT sT lit ok w1 p (some b) (lessL L x c) ∧ Turned (memoS p (some b)) w w1 := by
  obtain ⟨as, clock, hm, _⟩ := hown
  exact ⟨⟨hb.kept hgr (by intro e; cases e; exact boxed_not_map hb hm rfl), Mm.put hr hg hp hx hc hno ho⟩, .of_grownBy hgr (fun k e => .inr e)⟩
end Go.Proofs.YtmeamgeojcbljaaDoor
