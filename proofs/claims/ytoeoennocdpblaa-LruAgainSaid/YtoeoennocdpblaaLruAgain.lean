/- The walk of the law LruAgain: it returns true, for every input. -/
import Derived.Test.YtoeoennocdpblaaLruLaw
namespace Go.Proofs.Ytoeoennocdpblaa
open Go.ChangeShapes Go.WideShapes Go.ChangeAt Go.RowKit

theorem wrap_small (n : Nat) (h : n ≤ 17592186044420) : IntKind.i64.wrap (n : Int) = n := IntWalk.i64_in _ (by omega)

set_option maxHeartbeats 2000000 in
theorem law_LruAgain (A : Option Addr) (n c : Nat) (l : List Int) (slots p : Int) (w : World) (h : RI w A n l) (hnc : A = none → c = 0) (hn : n * 8 ≤ 140737488351232) :
    Calls Try.prog 7 #[.slice A n c, .int .i64 slots, .int .i64 p] w fun e w' => e = .returned (.bool true) ∧ Below w.heap.size w w' := by
  have HL := Lib.hid h.len
  go_enter Try.func7, Try.ntmps7
  go_wp2_with fail
  refine (lruFact_ok _).mono ?_; rintro e w0 ⟨rfl, hB0⟩
  have h0 := h.below hB0
  have hs0 := hB0.size
  go_wp2_with (first
    | (at_builtin; refine wpList_appendI _ rfl (.tmp 18) (.tmp 19) _ rfl w0.heap.size 3 _ _ Try.underlying22 infoI rfl _ 0 [] rfl (Row.nil_ _ _ _) A n c l rfl h0 hnc (by simp only [maxLen]; omega) (by omega) (Nat.le_refl _) ?_
       intro v1 w1 Ra g1
       have hB1 : Below w0.heap.size w0 w1 := (Below.refl _ _).grown g1 (Nat.le_refl _) (fun b hb => ((Row.nil_ w0 w0.heap.size 3).lt b hb).1)
       have hs1 := hB1.size)
    | (at_builtin; refine wpList_push8 _ rfl (.tmp 21) (.tmp 23) _ rfl w0.heap.size 3 _ _ Try.underlying22 infoI rfl _ _ _ rfl Ra (.int .i64 p) rfl rfl (by simp only [maxLen]; omega) (by omega) hs1 ?_
       intro v2 w2 Rb g2
       have Rb' : Row w2 w0.heap.size 3 v2 (n + 1) ((l ++ [p]).map (Value.int .i64)) := by simpa using Rb
       have hB2 : Below w0.heap.size w0 w2 := hB1.grown g2 hs1 (fun b hb => (Ra.lt b hb).1)
       have hs2 := hB2.size))
  obtain ⟨N, hN⟩ : ∃ N, n + 1 = N := ⟨_, rfl⟩
  rw [hN] at Rb'
  have HN := Lib.hid hN
  have hN8 : N * 8 ≤ 140737488351240 := by omega
  clear hN
  obtain ⟨Am, cm, hv, hcm, _⟩ := Rb'.form
  subst hv
  clear Rb
  have hB02 : Below w.heap.size w w2 := hB0.trans (hB2.mono hs0)
  have hs02 := hB02.size
  by_cases hg : GoodReqs (l ++ [p]) slots
  · obtain ⟨s, rfl⟩ : ∃ s : Nat, slots = ((s + 1 : Nat) : Int) := ⟨slots.toNat - 1, by have := hg.2.2.1; omega⟩
    have hn40 : N ≤ 40 := by have := hg.1; simp at this; have := HL.out; have := HN.out; omega
    have HG := Lib.hid hg
    refine (lru_ok _ _ _ _ _ _ (Row.reads Rb') HG.out).mono ?_; rintro e w3 ⟨A1, c1, A2, n2, c2, rfl, R1, R2, hn2, hB3⟩
    rw [show (((s + 1 : Nat) : Int)).toNat = s + 1 by omega] at R1 R2
    have hs3 := hB3.size
    have hB03 : Below w.heap.size w w3 := hB02.trans (hB3.mono hs02)
    have hs03 := hB03.size
    have Rc := Rb'.below hB3
    go_wp2_with (at_builtin; refine wpList_push8 _ rfl (.tmp 33) (.tmp 35) _ rfl w0.heap.size 3 _ _ Try.underlying22 infoI rfl _ _ _ rfl Rc (.int .i64 p) rfl rfl (by simp only [maxLen]; omega) (by omega) (by omega) ?_; intro v4 w4 Rd g4; obtain ⟨A4, c4, hv4, _, _⟩ := Rd.form; rw [hv4])
    have hlt4 : ∀ k, (Value.slice Am N cm).ownBlock = some k → k < w2.heap.size := fun k hk => (Rb'.lt k hk).2
    have hB4 : Below w.heap.size w w4 := hB03.grown g4 hs03 (fun b hb => by have := (Rc.lt b hb).1; omega)
    have hs4 := hB4.size
    have R1' := R1.kept_lt g4 hlt4
    have R2' := R2.kept_lt g4 hlt4
    have Re : Row w4 w0.heap.size 3 v4 (N + 1) ((l ++ [p] ++ [p]).map (Value.int .i64)) := by simpa using Rd
    clear Rd
    rw [hv4] at Re
    by_cases hg2 : GoodReqs (l ++ [p] ++ [p]) ((s + 1 : Nat) : Int)
    · refine (lru_ok _ _ _ _ _ _ (Row.reads Re) hg2).mono ?_; rintro e w5 ⟨A5, c5, A6, n6, c6, rfl, R5, R6, hn6, hB5⟩
      rw [show (((s + 1 : Nat) : Int)).toNat = s + 1 by omega] at R5 R6
      have hB05 : Below w.heap.size w w5 := hB4.trans (hB5.mono hs4)
      have R2f := R2'.below hB5
      have hl := HL.out
      obtain ⟨ad5, y5, rfl, HY5, hc5⟩ := (Row.readsB R5).at_ (k := N) (by omega)
      have hy5 : y5 = true := by
        have h1 := lru_again_at s l p
        rw [hl, HN.out] at h1
        have h3 := HY5.out; rw [h1] at h3; injection h3 with h3; exact h3.symm
      subst hy5
      have hhead := lru_again_head s l p
      have hn2p : 0 < n2 := by
        have := (List.getElem?_eq_some_iff.1 hhead).1; rw [R2f.lenI] at this; exact this
      obtain ⟨ad2, y2, rfl, HY2, hc2⟩ := (Row.reads R2f).at_ (k := 0) hn2p
      have hy2 : y2 = p := by have h3 := HY2.out; rw [hhead] at h3; injection h3 with h3; exact h3.symm
      subst hy2
      have HH := Lib.hid (show eqI (lruRun (s + 1) (l ++ [y2])).2 (lruRun (s + 1) (l ++ [y2] ++ [y2])).2 = true by rw [← lru_again_held]; simp [eqI])
      have hc2' : w5.cell? ad2 = some (.int .i64 y2) := hc2
      clear hhead hl
      go_wp2_with fail
      refine (ints_any _ _ _ _ _ _ _ _ _ (Row.reads R2f) (Row.reads R6) (by omega) (by omega)).mono ?_; rintro e w' ⟨rfl, d, rfl⟩
      rw [HH.out]
      go_wp2
      go_ret
      exact ⟨rfl, belowN hB05 d⟩
    · refine (lru_no _ _ _ _ _ _ (Row.reads Re) (by omega) hg2).mono ?_; rintro e w5 ⟨rfl, rfl⟩
      go_wp2
      go_ret
      exact ⟨rfl, hB4⟩
  · refine (lru_no _ _ _ _ _ _ (Row.reads Rb') (by omega) hg).mono ?_; rintro e w3 ⟨rfl, rfl⟩
    go_wp2_with (at_builtin; refine wpList_push8 _ rfl (.tmp 33) (.tmp 35) _ rfl w0.heap.size 3 _ _ Try.underlying22 infoI rfl _ _ _ rfl Rb' (.int .i64 p) rfl rfl (by simp only [maxLen]; omega) (by omega) (by omega) ?_; intro v4 w4 Rd g4; obtain ⟨A4, c4, hv4, _, _⟩ := Rd.form; rw [hv4])
    have hB4 : Below w.heap.size w w4 := hB02.grown g4 hs02 (fun b hb => by have := (Rb'.lt b hb).1; omega)
    have hs4 := hB4.size
    have Re : Row w4 w0.heap.size 3 v4 (N + 1) ((l ++ [p] ++ [p]).map (Value.int .i64)) := by simpa using Rd
    clear Rd
    rw [hv4] at Re
    refine (lru_any _ _ _ _ _ _ (Row.reads Re) (by omega)).mono ?_; rintro e w5 ⟨⟨x, y, z, rfl⟩, hB5⟩
    go_wp2
    go_ret
    exact ⟨rfl, hB4.trans (hB5.mono hs4)⟩
end Go.Proofs.Ytoeoennocdpblaa
