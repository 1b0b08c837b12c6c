/- The walks of larderwickref1.in, .All and .Pages: what is wrong with requests and slots. -/
import Derived.Test.YtgljpdfmejganaaInts
import Derived.Outline
namespace Go.Proofs.Ytgljpdfmejganaa
open Go.ChangeShapes Go.WideShapes Go.ChangeAt Go.RowKit

theorem RI.cellAt {w : World} {ad : Addr} {n : Nat} {l : List Int} {k : Nat} {y : Int} (h : RI w (some ad) n l) (hy : l[k]? = some y) : w.cell? (ad.add k) = some (.int .i64 y) := by
  have hk : k < n := by have := (List.getElem?_eq_some_iff.1 hy).1; have := h.1; omega
  obtain ⟨ad', e, hc⟩ := h.2 (by omega)
  injection e with e
  subst e
  exact hc k y hy
theorem RI.cell0 {w : World} {ad : Addr} {n : Nat} {l : List Int} {y : Int} (h : RI w (some ad) n l) (hy : l[0]? = some y) : w.cell? ad = some (.int .i64 y) := by
  have := h.cellAt hy
  rwa [show ad.add 0 = ad from by simp [Addr.add]] at this
theorem reqsE_ne (l : List Int) (slots : Int) (hg : ¬ GoodReqs l slots) : ((reqsE l slots : Int) == 0) = false := by
  unfold reqsE
  by_cases h4 : 40 < l.length
  · rw [if_pos h4]; rfl
  · have h1 : ¬ (AllIn l 0 15 ∧ 1 ≤ slots ∧ slots ≤ 8) := fun hh => hg ⟨by omega, hh⟩
    rw [if_neg h4, if_neg h1]; rfl
end Go.Proofs.Ytgljpdfmejganaa
