/- The walk of play.Run: what it returns, for every input. -/
import Derived.Test.YtpamnnnihfjdkaaDoorInts
import Derived.Test.YtpamnnnihfjdkaaDoorLib
import Derived.Test.YtpamnnnihfjdkaaDoorSorts
import Derived.Test.YtpamnnnihfjdkaaDoorPlayPlain
import Derived.Test.YtpamnnnihfjdkaaDoorLruPlain
import Derived.Outline
namespace Go.Proofs.YtpamnnnihfjdkaaDoor
open Go.ChangeShapes Go.WideShapes Go.ChangeAt Go.RowKit

theorem playCheck_ok (A : Option Addr) (n c : Nat) (l : List Int) (slots : Int) (w : World) (h : RI w A n l) (hg : GoodReqs l slots) :
    Calls Tryd.prog 12 #[.slice A n c, .int .i64 slots] w fun e w' => e = .returned .nilIface ∧ w = w' := by
  have HG := Lib.hid hg
  clear hg
  go_enter Tryd.func12, Tryd.ntmps12
  go_wp2_with fail
  refine (reqs_ok _ _ _ _ _ _ h HG.out).mono ?_; rintro e w' ⟨rfl, rfl⟩
  go_wp2
  go_ret
  exact ⟨rfl, rfl⟩
theorem playCheck_no (A : Option Addr) (n c : Nat) (l : List Int) (slots : Int) (w : World) (h : RI w A n l) (hn : n ≤ 9223372036854775807) (hg : ¬ GoodReqs l slots) :
    Calls Tryd.prog 12 #[.slice A n c, .int .i64 slots] w fun e w' => e = .returned (.iface 53 (.int .i64 (reqsE l slots))) ∧ w = w' := by
  have HG := Lib.hid hg
  clear hg
  go_enter Tryd.func12, Tryd.ntmps12
  go_wp2_with fail
  refine (reqs_no _ _ _ _ _ _ h hn HG.out).mono ?_; rintro e w' ⟨rfl, rfl⟩
  go_wp2
  go_ret
  exact ⟨rfl, rfl⟩
theorem play_no (A A2 : Option Addr) (n c n2 c2 : Nat) (l : List Int) (slots : Int) (w : World) (h : RI w A n l) (hn : n ≤ 9223372036854775807) (hg : ¬ GoodReqs l slots) :
    Calls Tryd.prog 14 #[.slice A n c, .int .i64 slots, .slice A2 n2 c2] w fun e w' =>
      e = .returned (.tuple #[.int .i64 0, .slice none 0 0, .iface 53 (.int .i64 (reqsE l slots))]) ∧ w = w' := by
  have HG := Lib.hid hg
  clear hg
  go_enter Tryd.func14, Tryd.ntmps14
  go_wp2_with fail
  refine (playCheck_no _ _ _ _ _ _ h hn HG.out).mono ?_; rintro e w' ⟨rfl, rfl⟩
  go_wp2
  exact bodyPost_ret (v := .tuple #[.int .i64 0, .slice none 0 0, .iface 53 (.int .i64 (reqsE l slots))]) (by simp [results, Tryd.results14, go_sem]) rfl ⟨rfl, rfl⟩

/-- What play.Run hands back, of what was played. -/
def PlayRes (w w' : World) (e : Ending) (r : Nat × List Int × Int) : Prop :=
  ((∃ A2 n2 c2, r.2.2 = 0 ∧ e = .returned (.tuple #[.int .i64 ((r.1 : Nat) : Int), .slice A2 n2 c2, .nilIface]) ∧ Row w' w.heap.size 3 (.slice A2 n2 c2) n2 (r.2.1.map (Value.int .i64)) ∧ n2 ≤ 8) ∨
    (r.2.2 ≠ 0 ∧ e = .returned (.tuple #[.int .i64 0, .slice none 0 0, .iface 53 (.int .i64 r.2.2)]))) ∧ Below w.heap.size w w'

def PlayInv (s : Nat) (l out : List Int) (w wr : World) (A10 : Option Addr) (n10 c10 k m d : Nat) : Prop :=
  ∃ held, playA s held (out.drop d) (l.drop k) m = playA s [] out l 0 ∧ Row wr w.heap.size 3 (.slice A10 n10 c10) n10 (held.map (Value.int .i64)) ∧ n10 ≤ s ∧ Below w.heap.size w wr

theorem drop_at {l : List Int} {k : Nat} {y : Int} (h : l[k]? = some y) : l.drop k = y :: l.drop (k + 1) := by
  obtain ⟨hk, rfl⟩ := List.getElem?_eq_some_iff.1 h
  exact List.drop_eq_getElem_cons hk

set_option maxHeartbeats 2000000 in
theorem play_ok (A A2 : Option Addr) (n c n2 c2 : Nat) (l out : List Int) (slots : Int) (w : World) (h : RI w A n l) (h2 : RI w A2 n2 out) (hn2 : n2 ≤ 9223372036854775807) (hg : GoodReqs l slots) :
    Calls Tryd.prog 14 #[.slice A n c, .int .i64 slots, .slice A2 n2 c2] w fun e w' => PlayRes w w' e (playA slots.toNat [] out l 0) := by
  obtain ⟨s, rfl⟩ : ∃ s : Nat, slots = s := ⟨slots.toNat, by have := hg.2.2.1; omega⟩
  have HL := Lib.hid h.len
  have HL2 := Lib.hid h2.len
  have HG := Lib.hid hg
  have hn : n ≤ 40 := by have := HL.out; have := hg.1; omega
  have hs1 : 1 ≤ s := by have := hg.2.2.1; omega
  have hs2 : s ≤ 8 := by have := hg.2.2.2; omega
  clear hg
  rw [Int.toNat_natCast]
  go_enter Tryd.func14, Tryd.ntmps14
  go_wp2_with fail
  refine (playCheck_ok _ _ _ _ _ _ h HG.out).mono ?_; rintro e w' ⟨rfl, rfl⟩
  go_wp2
  go_loopw [10, 11, 12, 14, 15, 24] (fun v10 v11 v12 _ _ i wr => ∃ k m d n10 c10 : Nat, ∃ A10, k ≤ n ∧ i = .int .i64 k ∧ m ≤ k ∧ v11 = .int .i64 m ∧ d ≤ n2 ∧ d ≤ k ∧ v12 = .int .i64 d ∧ v10 = .slice A10 n10 c10 ∧ PlayInv s l out w wr A10 n10 c10 k m d) (fun _ _ _ _ _ i _ => n - (intOf i).toNat)
  case atStart => exact ⟨0, 0, 0, 0, 0, none, by omega, by go_num, by omega, by go_num, by omega, by omega, by go_num, rfl, [], by simp, Row.nil_ _ _ _, by omega, Below.refl _ _⟩
  case round =>
    obtain ⟨k, m, d, n10, c10, A10, hk, rfl, hm, rfl, hd, hdk, rfl, rfl, held, HF, R10, hn10, hB⟩ := hrel
    have HF' := Lib.hid HF
    clear HF
    have hbs := hB.size
    have hl10 : held.length = n10 := by have := R10.len; simpa using this
    by_cases hlt : k < n
    · obtain ⟨ad, y, rfl, HY, hc⟩ := (h.below hB).at_ hlt
      have HD := Lib.hid (drop_at HY.out)
      by_cases hmem : y ∈ held
      · have HB := Lib.hid ((hasB_iff held y).2 hmem)
        have HN : Hid (playA s held (out.drop d) (l.drop (k + 1)) m = playA s [] out l 0) := Lib.hid (by rw [← HF'.out, HD.out, playA_hit hmem])
        clear hmem hl10
        go_wp2_with fail
        refine (contains_any _ _ _ _ _ _ (Row.reads R10) (by omega)).mono ?_; rintro e w' ⟨rfl, rfl⟩
        rw [HB.out]
        go_wp2
        go_roundw
        case rel => exact ⟨k + 1, m, d, n10, c10, A10, by omega, by go_num, by omega, rfl, hd, by omega, rfl, rfl, held, HN.out, R10, hn10, hB⟩
        case measure => simp [intOf]; omega
      · have HB := Lib.hid ((hasB_false held y).2 hmem)
        by_cases hfull : n10 = s
        · by_cases hout : d = n2
          · have ho : out.drop d = [] := by rw [List.drop_eq_nil_of_le]; have := HL2.out; omega
            have HE : Hid (playA s [] out l 0 = (0, [], 3)) := Lib.hid (by rw [← HF'.out, HD.out, ho, playA_short hmem (by omega)])
            clear hmem hl10 ho
            subst hfull
            subst hout
            go_wp2_with fail
            refine (contains_any _ _ _ _ _ _ (Row.reads R10) (by omega)).mono ?_; rintro e w' ⟨rfl, rfl⟩
            rw [HB.out]
            go_wp2
            refine bodyPost_ret (v := .tuple #[.int .i64 0, .slice none 0 0, .iface 53 (.int .i64 3)]) (by simp [results, Tryd.results14, go_sem]) rfl ?_
            rw [HE.out]
            exact ⟨.inr ⟨by simp, rfl⟩, hB⟩
          · have hdlt : d < n2 := by omega
            obtain ⟨ad2, z, hA2, HZ, hc2⟩ := (h2.below hB).at_ hdlt
            subst hA2
            have hoc := drop_at HZ.out
            have hdn : ((d : Int) == (n2 : Int)) = false := by simp; omega
            by_cases hz : z ∈ held
            · have HIX := Lib.hid (ixI_mem hz)
              have HDI := Lib.hid (del_idx hz)
              have hj : held.idxOf z < n10 := by have := List.idxOf_lt_length_iff.2 hz; omega
              have HN : Hid (playA s (held.erase z ++ [y]) (out.drop (d + 1)) (l.drop (k + 1)) (m + 1) = playA s [] out l 0) := Lib.hid (by rw [← HF'.out, HD.out, hoc, playA_out hmem (by omega) hz])
              clear hmem hl10 hz hoc
              generalize hjj : held.idxOf z = j at *
              have hj0 : ¬ (j : Int) < 0 := by omega
              have hj1 : (0 : Int) ≤ j := by omega
              subst hfull
              go_wp2_with fail
              refine (contains_any _ _ _ _ _ _ (Row.reads R10) (by omega)).mono ?_; rintro e w' ⟨rfl, rfl⟩
              rw [HB.out]
              go_wp2_with fail
              refine (index_any _ _ _ _ _ _ (Row.reads R10) (by omega)).mono ?_; rintro e w' ⟨rfl, rfl⟩
              rw [HIX.out]
              go_wp2_with fail
              have hdel := delete_own _ _ _ c10 held j (j + 1) _ R10 (by omega) (by omega) (by omega)
              rw [show ((j + 1 : Nat) : Int) = (j : Int) + 1 by omega] at hdel
              refine hdel.mono ?_; rintro e w2 ⟨v2, rfl, R10a, g2, hv2⟩
              rw [HDI.out] at R10a
              have hB2 := hB.grown g2 hbs (fun b hb => (R10.lt b hb).1)
              have hbs2 := hB2.size
              have HV2 := Lib.hid hv2
              clear hv2 hdel
              go_wp2_with (at_builtin; refine wpList_push _ rfl (.tmp 58) (.tmp 60) _ rfl w.heap.size 3 _ _ Tryd.underlying22 infoI rfl (by decide) _ _ _ rfl R10a (.int .i64 y) rfl rfl (by omega) hbs2 ?_; intro v3 w3 R10b g3)
              have F3 := Lib.hid R10b.form
              go_roundw
              case rel =>
                obtain ⟨A', c', hv3, _, _⟩ := F3.out
                refine ⟨k + 1, m + 1, d + 1, _, c', A', by omega, by go_num, by omega, by go_num, by omega, by omega, by go_num, hv3, _, HN.out, ?_, by omega, hB2.grown g3 hbs2 (fun b hb => (R10a.lt b hb).1)⟩
                rw [← hv3]; simpa using R10b
              case measure => simp [intOf]; omega
            · have HIX := Lib.hid (ixI_not hz)
              have HE : Hid (playA s [] out l 0 = (0, [], 5)) := Lib.hid (by rw [← HF'.out, HD.out, hoc, playA_none hmem (by omega) hz])
              clear hmem hl10 hz hoc
              subst hfull
              go_wp2_with fail
              refine (contains_any _ _ _ _ _ _ (Row.reads R10) (by omega)).mono ?_; rintro e w' ⟨rfl, rfl⟩
              rw [HB.out]
              go_wp2_with fail
              refine (index_any _ _ _ _ _ _ (Row.reads R10) (by omega)).mono ?_; rintro e w' ⟨rfl, rfl⟩
              rw [HIX.out]
              go_wp2
              refine bodyPost_ret (v := .tuple #[.int .i64 0, .slice none 0 0, .iface 53 (.int .i64 5)]) (by simp [results, Tryd.results14, go_sem]) rfl ?_
              rw [HE.out]
              exact ⟨.inr ⟨by simp, rfl⟩, hB⟩
        · have HN : Hid (playA s (held ++ [y]) (out.drop d) (l.drop (k + 1)) (m + 1) = playA s [] out l 0) := Lib.hid (by rw [← HF'.out, HD.out, playA_room hmem (by omega)])
          have hfb : ((n10 : Int) == (s : Int)) = false := by simp; omega
          clear hmem hl10
          go_wp2_with fail
          refine (contains_any _ _ _ _ _ _ (Row.reads R10) (by omega)).mono ?_; rintro e w' ⟨rfl, rfl⟩
          rw [HB.out]
          go_wp2_with (at_builtin; refine wpList_push _ rfl (.tmp 58) (.tmp 60) _ rfl w.heap.size 3 _ _ Tryd.underlying22 infoI rfl (by decide) _ _ _ rfl R10 (.int .i64 y) rfl rfl (by omega) hbs ?_; intro v3 w3 R10b g3)
          have F3 := Lib.hid R10b.form
          go_roundw
          case rel =>
            obtain ⟨A', c', hv3, _, _⟩ := F3.out
            refine ⟨k + 1, m + 1, d, _, c', A', by omega, by go_num, by omega, by go_num, hd, by omega, rfl, hv3, _, HN.out, ?_, by omega, hB.grown g3 hbs (fun b hb => (R10.lt b hb).1)⟩
            rw [← hv3]; simpa using R10b
          case measure => simp [intOf]; omega
    · have HE : Hid (playA s [] out l 0 = (m, sortI held, 0)) := Lib.hid (by
        rw [← HF'.out, List.drop_eq_nil_of_le (show l.length ≤ k by have := HL.out; omega), playA])
      go_wp2_with fail
      refine (sort_own _ _ _ _ _ _ R10 (by omega)).mono ?_; rintro e w2 ⟨rfl, R10a, g2⟩
      have hB2 := hB.grown g2 hbs (fun b hb => (R10.lt b hb).1)
      go_wp2
      refine bodyPost_ret (v := .tuple #[.int .i64 (m : Int), .slice A10 n10 c10, .nilIface]) (by simp [results, Tryd.results14, go_sem]) rfl ?_
      rw [HE.out]
      exact ⟨.inl ⟨A10, n10, c10, rfl, rfl, R10a, by omega⟩, hB2⟩
end Go.Proofs.YtpamnnnihfjdkaaDoor
