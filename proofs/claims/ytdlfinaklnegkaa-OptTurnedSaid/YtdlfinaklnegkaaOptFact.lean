/- The walk of the closed fact on the best way, and what opt.Run hands back at least. -/
import Derived.Test.YtdlfinaklnegkaaOpt
import Derived.Test.YtdlfinaklnegkaaSame
import Derived.Test.YtdlfinaklnegkaaOptFacts
namespace Go.Proofs.Ytdlfinaklnegkaa
open Go.ChangeShapes Go.WideShapes Go.ChangeAt Go.RowKit

theorem good_takeO {l : List Int} {s : Int} (h : GoodReqs l s) (t : Nat) : GoodReqs (l.take t) s :=
  ⟨by have := h.1; rw [List.length_take]; omega, fun x hx => h.2.1 x (List.mem_of_mem_take hx), h.2.2⟩
theorem good_dropO {l : List Int} {s : Int} (h : GoodReqs l s) (t : Nat) : GoodReqs (l.drop t) s :=
  ⟨by have := h.1; rw [List.length_drop]; omega, fun x hx => h.2.1 x (List.mem_of_mem_drop hx), h.2.2⟩

set_option maxHeartbeats 1000000 in
theorem optFact_ok (w : World) : Calls Try.prog 12 #[] w fun e w' => e = .returned (.bool true) ∧ Below w.heap.size w w' := by
  go_enter Try.func12, Try.ntmps12
  go_wp2_with fail
  have h0 := RI.lit w #[.int .i64 1, .int .i64 2, .int .i64 3, .int .i64 1, .int .i64 3, .int .i64 2] 3 [1, 2, 3, 1, 3, 2] 6 rfl rfl
  have hB0 := (Below.refl w.heap.size w).alloc (Nat.le_refl _) (.cells #[.int .i64 1, .int .i64 2, .int .i64 3, .int .i64 1, .int .i64 3, .int .i64 2] 3)
  refine (opt_ok _ _ _ _ _ _ h0 (by omega) (by simp [GoodReqs, AllIn])).mono ?_; rintro e w1 ⟨A1, c1, A2, n2, c2, A3, n3, c3, rfl, R1, R2, R3, hn2, hn3, hB1⟩
  rw [show Int.toNat 2 = 2 from rfl, opt_fact] at R1 R2
  have hB01 := hB0.trans (hB1.mono hB0.size)
  have e2 : n2 = 2 := by have := R2.len; simpa using this.symm
  subst e2
  have M1 : Hid (missN [false, false, false, true, true, false] = 4) := by simp [Hid, missN]
  have H2 := Lib.hid (Row.reads R2)
  obtain ⟨ad, y, rfl, HY, hc⟩ := (Row.reads R2).at_ (show 0 < 2 by omega)
  have hy : y = 2 := by have := HY.out; simpa using this.symm
  subst hy
  rw [show ad.add 0 = ad from by simp [Addr.add]] at hc
  have RH := Lib.hid (Row.readsB R1)
  clear R1 R2 R3 HY
  go_wp2_with fail
  refine (misses_any _ _ _ _ _ RH.out (by omega)).mono ?_; rintro e w' ⟨rfl, rfl⟩
  rw [M1.out]
  go_wp2
  go_ret
  exact ⟨rfl, hB01⟩

theorem opt_any (A : Option Addr) (n c : Nat) (l : List Int) (slots : Int) (w : World) (h : RI w A n l) (hnc : n ≤ c) (hn : n ≤ 9223372036854775807) :
    Calls Try.prog 13 #[.slice A n c, .int .i64 slots] w fun e w' => (∃ x y z q, e = .returned (.tuple #[x, y, z, q])) ∧ Below w.heap.size w w' := by
  by_cases hg : GoodReqs l slots
  · exact (opt_ok A n c l slots w h hnc hg).mono fun e w' ⟨A1, c1, A2, n2, c2, A3, n3, c3, he, _, _, _, _, _, hB⟩ => ⟨⟨_, _, _, _, he⟩, hB⟩
  · exact (opt_no A n c l slots w h hn hg).mono fun e w' ⟨he, hB⟩ => ⟨⟨_, _, _, _, he⟩, hB⟩

theorem opt_any2 (A : Option Addr) (n c : Nat) (l : List Int) (slots : Int) (w : World) (h : RI w A n l) (hnc : n ≤ c) (hn : n ≤ 9223372036854775807) :
    Calls Try.prog 13 #[.slice A n c, .int .i64 slots] w fun e w' => (∃ x y z q, e = .returned (.tuple #[x, y, z, q]) ∧ (q = .nilIface ∨ ∃ v, q = .iface 44 v)) ∧ Below w.heap.size w w' := by
  by_cases hg : GoodReqs l slots
  · exact (opt_ok A n c l slots w h hnc hg).mono fun e w' ⟨A1, c1, A2, n2, c2, A3, n3, c3, he, _, _, _, _, _, hB⟩ => ⟨⟨_, _, _, _, he, .inl rfl⟩, hB⟩
  · exact (opt_no A n c l slots w h hn hg).mono fun e w' ⟨he, hB⟩ => ⟨⟨_, _, _, _, he, .inr ⟨_, rfl⟩⟩, hB⟩
end Go.Proofs.Ytdlfinaklnegkaa
