/- The Go function larderwicklaw2.SkiSays returns true for every input, and every argument reads afterwards as it read before. No conditions. -/
import Derived.Test.YtjflmcglnofooaaDoorRows
import Derived.Test.YtjflmcglnofooaaDoorSkiSays
import Derived.Test.YtjflmcglnofooaaDoorClosed
import Derived.Below
import Derived.ChangeOld
import Derived.Test.YtjflmcglnofooaaDoorLaid
import Derived.Test.YtjflmcglnofooaaDoorCards
import Derived.Test.YtjflmcglnofooaaDoorTie
import Derived.SevenTiedAt
import Derived.WalkKit
import Derived.ProofKit
import Derived.OpenShut
import Derived.ShutString
namespace Go.Proofs.YtjflmcglnofooaaDoor.skiSays
open Go.ChangeShapes Go.WideShapes Go.ChangeAt Go.RowKit
open Go.ChangeMaps (open_string shut_string)
set_option linter.unusedVariables false      -- a walk need not use every 'w<i>' (that an integer argument fits its kind)

theorem own : ownKnob Tryd.prog.godebug = none := by kernel_rfl

/-! ### STEP 1: THE WALK: the Go text returns true. 'Grown w w'': the world has at most new blocks (Derived/RowKit3.lean). Part the cases AHEAD of 'go_enter' where a test parts the walk; take each callee by a contract of your own. -/
theorem walk (a0 : Int) (a1 : Int) (a2 : Int) (w0 : (Lit.int .i64 a0).wf = true) (w1 : (Lit.int .i64 a1).wf = true) (w2 : (Lit.int .i64 a2).wf = true) (w : World) (hg : HErr w) :
    Calls Tryd.prog 3 #[.int .i64 a0, .int .i64 a1, .int .i64 a2] w fun e w' => e = .returned (.bool true) ∧ Below w.heap.size w w' := by
  exact law_SkiSays a0 a1 a2 w hg

/-! ### THE ROW's STEP: WRITTEN OUT: LEAVE IT -/
set_option maxRecDepth 100000 in
theorem lifted (os : Os) (started : os.Started) (H : Type) (enc : TypeId × Value → H) :
    ReturnsInHanded {} Tryd.checked os 3 .any (fun w args => (Rows.skiSaysSpec.pre enc Tryd.prog Tryd.f3 [] false w args ∧ laidMetH Tryd.prog Rows.skiSaysRow.laid w) ∧ sizedMet enc Tryd.prog Tryd.f3 (OpenSpec.ofChange Rows.skiSaysSpec) false w args) (Rows.skiSaysSpec.post enc Tryd.prog Tryd.f3 false true false false) := by
  refine returnsInHanded_of_change_and (C := Tryd.checked) (X := fun w _ => laidMetH Tryd.prog Rows.skiSaysRow.laid w) (fun _ _ _ hh h => h.of_heap hh) own started (by kernel_rfl) Tryd.func3
    (ChangeSpec.witness_at (enc := enc) (C := Tryd.checked) (os := os) (X := fun w _ => laidMetH Tryd.prog Rows.skiSaysRow.laid w) false (laidWorld os) #[.int .i64 0, .int .i64 0, .int .i64 0] 8 rfl (by kernel_rfl) (by kernel_rfl) (by kernel_rfl) (by kernel_rfl) (by kernel_rfl) (laidWorld_met os _)) ?_
  intro W base args ds gs before hval0 hW hcnd _ hL _
  have hg : HErr W := handle_of_laid hL
  have hval : ∀ (j : Nat) t v, Tryd.f3.params[j]? = some t → args[j]? = some v → Value.okWide Tryd.prog W .any base t v := hval0
  have hW' := hW
  obtain ⟨p, q, hA0, hV, rfl, hfz, hnd⟩ := hW
  have hA : DataW.TrodAll enc Tryd.prog W 0 (fun _ => true) true Tryd.f3.params.toList args.toList ds p := hA0
  rw [Tryd.params3] at hA hval
  obtain ⟨v0, vs0, d0, ds0, p0, q0, hargs, rfl, rfl, h0, r0⟩ := trodAll_cons hA
  obtain ⟨v1, vs1, d1, ds1, p1, q1, rfl, rfl, rfl, h1, r1⟩ := trodAll_cons r0
  obtain ⟨v2, vs2, d2, ds2, p2, q2, rfl, rfl, rfl, h2, r2⟩ := trodAll_cons r1
  obtain ⟨rfl, rfl, rfl⟩ := trodAll_nil r2
  obtain rfl : args = #[v0, v1, v2] := by cases args; simp_all
  obtain ⟨rfl, rfl⟩ := trodVars_none hV
  obtain ⟨a0, rfl, rfl, rfl, w0⟩ := open_int Tryd.underlying3 (hval 0 3 v0 rfl rfl) h0
  obtain ⟨a1, rfl, rfl, rfl, w1⟩ := open_int Tryd.underlying3 (hval 1 3 v1 rfl rfl) h1
  obtain ⟨a2, rfl, rfl, rfl, w2⟩ := open_int Tryd.underlying3 (hval 2 3 v2 rfl rfl) h2
  clear hA0 hval0
  simp only [List.append_nil] at hW'
  refine (walk a0 a1 a2 w0 w1 w2 W hg).mono fun e W' ⟨he, bel⟩ => ?_
  subst he
  exact ⟨_, rfl, _, _, _, [], _, [], hW', trodAll_mk1 (shut_bool Tryd.underlying4 _), (trodAll_cons_mk (shut_int Tryd.underlying3 w0) (trodAll_cons_mk (shut_int Tryd.underlying3 w1) (trodAll_cons_mk (shut_int Tryd.underlying3 w2) trodAll_mk0))), rfl, bel.frame _, fun h => by cases h⟩

/-! ### The closed facts of the row, one by one. -/
theorem fact1 : (Rows.skiSaysRow.wf (OpenSpec.ofChange Rows.skiSaysSpec)) = true := by kernel_rfl
theorem fact2 : (laidOutB Tryd.prog) = true := by kernel_rfl
theorem fact3 : (mapsRowed Tryd.prog) = true := by kernel_rfl
theorem fact4 : (Tryd.f3.params.all (Tryd.prog.readableRec ·)) = true := by kernel_rfl
theorem fact5 : (namedTie Tryd.prog Rows.skiSaysRow.named Rows.skiSaysSpec.vars) = true := by kernel_rfl
theorem fact6 : ((Rows.skiSaysRow.stops == [])) = true := by kernel_rfl
theorem fact7 : ((Tryd.prog.stops == [])) = true := by kernel_rfl
theorem fact8 : ((Rows.skiSaysRow.knobs == [])) = true := by kernel_rfl
theorem fact9 : ((Tryd.prog.stopKnobs == [])) = true := by kernel_rfl
theorem fact10 : ((Rows.skiSaysRow.inPlace == Tryd.prog.inPlace 3)) = true := by kernel_rfl
theorem fact11 : ((Rows.skiSaysRow.unfollowed == Tryd.prog.unfollowed 3)) = true := by kernel_rfl
theorem fact12 : ((Rows.skiSaysRow.recurses == Tryd.prog.recurses 3)) = true := by kernel_rfl
theorem fact13 : ((Rows.skiSaysRow.named == Tryd.prog.varsNamed 3)) = true := by kernel_rfl
theorem fact14 : ((Rows.skiSaysRow.maps == (Tryd.f3.params.toList ++ Rows.skiSaysSpec.plain.varTypes Tryd.prog).any (Tryd.prog.mapsRec ·))) = true := by kernel_rfl
theorem fact15 : ((Rows.skiSaysRow.ifaces == (Tryd.f3.params.toList ++ Rows.skiSaysSpec.plain.varTypes Tryd.prog).any (Tryd.prog.ifacesRec ·))) = true := by kernel_rfl
theorem fact16 : ((Rows.skiSaysRow.mapsOut == Tryd.prog.mapsAmong Tryd.f3.resultTypes.toList)) = true := by kernel_rfl
theorem fact17 : ((Rows.skiSaysRow.loops == (Tryd.f3.params.toList ++ Rows.skiSaysSpec.plain.varTypes Tryd.prog).any (Tryd.prog.loopsFrom ·))) = true := by kernel_rfl
theorem fact18 : ((Rows.skiSaysRow.wideKeys == (Tryd.f3.params.toList ++ Rows.skiSaysSpec.plain.varTypes Tryd.prog ++ Tryd.f3.resultTypes.toList).any (Tryd.prog.wideKeysFrom ·))) = true := by kernel_rfl
theorem fact19 : (Rows.skiSaysSpec.vars.all (Tryd.prog.varReadable ·)) = true := by kernel_rfl
theorem fact20 : (Tryd.f3.resultTypes.all (fun t => Tryd.prog.readableRec t && decide (t < Tryd.prog.types.size))) = true := by kernel_rfl
theorem fact21 : ((Rows.skiSaysRow.ifacesOut == Tryd.f3.resultTypes.toList.any (Tryd.prog.ifacesRec ·))) = true := by kernel_rfl
theorem fact22 : ((Rows.skiSaysRow.loopsOut == Tryd.f3.resultTypes.toList.any (Tryd.prog.loopsFrom ·))) = true := by kernel_rfl
theorem fact23 : ((Rows.skiSaysRow.plainKeys == Tryd.prog.plainKeys)) = true := by kernel_rfl
theorem fact24 : (Rows.skiSaysRow.shortTexts.isNone) = true := by kernel_rfl
theorem fact25 : (Tryd.prog.stopsHeard) = true := by kernel_rfl
theorem fact26 : (Tryd.prog.mayEnter) = true := by kernel_rfl
theorem fact27 : ((Rows.skiSaysRow.lifted == Tryd.prog.liftsFinal)) = true := by kernel_rfl
theorem fact28 : ((Tryd.prog.make == some Rows.skiSaysRow.make)) = true := by kernel_rfl
theorem fact29 : ((Rows.skiSaysRow.kinds == (if Rows.skiSaysRow.domain.isEmpty then [] else Tryd.f3.params.toList.map fun t => match Tryd.prog.underlying t with | some (.int k) => some k | _ => none))) = true := by kernel_rfl
theorem fact30 : ((Rows.skiSaysRow.pinned == Rows.skiSaysRow.pinnedBy)) = true := by kernel_rfl
theorem fact31 : ((Rows.skiSaysRow.veiled == (Tryd.f3.params.toList ++ Rows.skiSaysSpec.plain.varTypes Tryd.prog ++ Tryd.f3.resultTypes.toList).any (Tryd.prog.veiledRec ·))) = true := by kernel_rfl
theorem fact32 : (Rows.skiSaysRow.veiledFits Tryd.prog Tryd.f3.params.toList (Tryd.f3.params.toList ++ Rows.skiSaysSpec.plain.varTypes Tryd.prog ++ Tryd.f3.resultTypes.toList)) = true := by kernel_rfl

theorem over : Rows.skiSaysRow.holds Tryd.pinned (OpenSpec.ofChange Rows.skiSaysSpec) :=
  OpenClaim.holds_of_wide 3 Tryd.f3 rfl rfl rfl rfl rfl rfl rfl ⟨rfl, rfl, rfl, rfl, rfl⟩ rfl rfl rfl rfl rfl (by kernel_rfl) Tryd.func3 (closed_of fact1 fact2 fact3 fact4 fact5 fact6 fact7 fact8 fact9 fact10 fact11 fact12 fact13 fact14 fact15 fact16 fact17 fact18 fact19 fact20 fact21 fact22 fact23 fact24 fact25 fact26 fact27 fact28 fact29 fact30 fact31 fact32)
    (of_decide_eq_true (by kernel_rfl)) (by unfold Func.isWrapper; first | (rw [if_pos (by decide +kernel)]; kernel_rfl) | (rw [if_neg (by decide +kernel)]; exact ⟨rfl, rfl⟩))
    (fun os started H enc _ => lifted os started H enc)

/-- ████ THE STATEMENT ████ -/
theorem proved : Rows.SkiSaysSaid :=
  over
/-- ████ THE CARD: the row, its one listed variable tied to the program's text. ████ -/
theorem card : Rows.SkiSaysCardSaid :=
  Claim7.holds_tied_plain_at .later [] [.handle] true (true, "9bfb13da02578c22738ae76538620dcecea477fc49656c3517e9561b7e49f284") true
    over (fun _ h => by cases h) (by kernel_rfl) (fun _ h => by cases h) skiSays_row_tie rfl ⟨rfl, rfl⟩ (by kernel_rfl) rfl
    (fun f fn hf hfn => by
      obtain rfl : f = 3 := Option.some.inj ((show Tryd.prog.funcNamed "larderwick/larderwicklaw2.SkiSays" = some 3 by kernel_rfl).symm.trans hf) |>.symm
      obtain rfl : fn = Tryd.f3 := (Option.some.inj (Tryd.func3.symm.trans hfn)).symm
      exact ⟨by kernel_rfl, fun j t ht => by
        rw [Tryd.params3] at ht
        rcases j with _ | _ | _ | j
        · obtain rfl : t = 3 := by simpa using ht.symm
          exact (show Tryd.prog.wantsStandIn 3 = false by kernel_rfl)
        · obtain rfl : t = 3 := by simpa using ht.symm
          exact (show Tryd.prog.wantsStandIn 3 = false by kernel_rfl)
        · obtain rfl : t = 3 := by simpa using ht.symm
          exact (show Tryd.prog.wantsStandIn 3 = false by kernel_rfl)
        · simp at ht⟩)
    (by kernel_rfl)

end Go.Proofs.YtjflmcglnofooaaDoor.skiSays
