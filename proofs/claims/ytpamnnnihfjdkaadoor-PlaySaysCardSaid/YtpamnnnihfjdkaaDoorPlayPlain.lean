/- Plain words on play.Run: what is played is a way of serving; what the best way lets go of may be played; no program in sight. -/
import Derived.Test.YtpamnnnihfjdkaaDoorOptRun
namespace Go.Proofs.YtpamnnnihfjdkaaDoor

/-- play.Run, from here on: of a store that has H, m times a page was not there: how often, which are there, the error's number. -/
def playA (s : Nat) : List Int → List Int → List Int → Nat → Nat × List Int × Int
  | H, _, [], m => (m, sortI H, 0)
  | H, out, p :: l, m =>
    if p ∈ H then playA s H out l m
    else if H.length = s then
      if out = [] then (0, [], 3)
      else if out.getD 0 0 ∈ H then playA s (H.erase (out.getD 0 0) ++ [p]) (out.drop 1) l (m + 1)
      else (0, [], 5)
    else playA s (H ++ [p]) out l (m + 1)
theorem playA_hit {s : Nat} {H out l : List Int} {y : Int} {m : Nat} (h : y ∈ H) : playA s H out (y :: l) m = playA s H out l m := by rw [playA, if_pos h]
theorem playA_room {s : Nat} {H out l : List Int} {y : Int} {m : Nat} (h : y ∉ H) (hf : ¬ H.length = s) : playA s H out (y :: l) m = playA s (H ++ [y]) out l (m + 1) := by rw [playA, if_neg h, if_neg hf]
theorem playA_short {s : Nat} {H l : List Int} {y : Int} {m : Nat} (h : y ∉ H) (hf : H.length = s) : playA s H [] (y :: l) m = (0, [], 3) := by rw [playA, if_neg h, if_pos hf, if_pos rfl]
theorem playA_none {s : Nat} {H out l : List Int} {y z : Int} {m : Nat} (h : y ∉ H) (hf : H.length = s) (hz : z ∉ H) : playA s H (z :: out) (y :: l) m = (0, [], 5) := by rw [playA, if_neg h, if_pos hf, if_neg (by simp), if_neg (by simpa using hz)]
theorem playA_out {s : Nat} {H out l : List Int} {y z : Int} {m : Nat} (h : y ∉ H) (hf : H.length = s) (hz : z ∈ H) : playA s H (z :: out) (y :: l) m = playA s (H.erase z ++ [y]) out l (m + 1) := by rw [playA, if_neg h, if_pos hf, if_neg (by simp), if_pos (by simpa using hz)]; rfl
theorem nodup_snoc {H : List Int} {p : Int} (hN : H.Nodup) (hp : p ∉ H) : (H ++ [p]).Nodup := by
  rw [List.nodup_append]
  exact ⟨hN, by simp, fun a ha b hb => by rw [List.mem_singleton] at hb; subst hb; exact fun e => hp (e ▸ ha)⟩
theorem playA_err {s : Nat} : ∀ (l H out : List Int) (m : Nat), (playA s H out l m).2.2 = 0 ∨ ((playA s H out l m).1 = 0 ∧ (playA s H out l m).2.1 = [] ∧ ((playA s H out l m).2.2 = 3 ∨ (playA s H out l m).2.2 = 5)) := by
  intro l
  induction l with
  | nil => intro H out m; exact .inl rfl
  | cons p l ih =>
    intro H out m
    rw [playA]
    split
    · exact ih _ _ _
    · split
      · split
        · exact .inr ⟨rfl, rfl, .inl rfl⟩
        · split
          · exact ih _ _ _
          · exact .inr ⟨rfl, rfl, .inr rfl⟩
      · exact ih _ _ _
theorem playA_sched {s : Nat} (hs : 1 ≤ s) : ∀ (l H out : List Int) (m : Nat), H.Nodup → H.length ≤ s → (playA s H out l m).2.2 = 0 →
    ∃ n, (playA s H out l m).1 = m + n ∧ Sched s H l n ∧ (playA s H out l m).2.1.length ≤ s ∧ (playA s H out l m).2.1.length ≤ H.length + n ∧ n ≤ l.length := by
  intro l
  induction l with
  | nil => intro H out m _ hL _; exact ⟨0, rfl, rfl, by simp [playA, sortI_len, hL], by simp [playA, sortI_len], by simp⟩
  | cons p l ih =>
    intro H out m hN hL he
    rw [playA] at he ⊢
    by_cases hp : p ∈ H
    · rw [if_pos hp] at he ⊢
      obtain ⟨n, h1, h2, h3, h4, h5⟩ := ih _ _ _ hN hL he
      exact ⟨n, h1, ⟨H, n, hN, hL, hp, fun x hx => .inr hx, h2, by rw [if_pos hp]; omega⟩, h3, h4, by simp; omega⟩
    · rw [if_neg hp] at he ⊢
      by_cases hf : H.length = s
      · rw [if_pos hf] at he ⊢
        by_cases ho : out = []
        · rw [if_pos ho] at he; cases he
        · rw [if_neg ho] at he ⊢
          by_cases hz : out.getD 0 0 ∈ H
          · rw [if_pos hz] at he ⊢
            have hN2 := nodup_snoc (hN.erase (out.getD 0 0)) (p := p) (fun h => hp (List.mem_of_mem_erase h))
            have hpos := List.length_pos_of_mem hz
            have hL2 : (H.erase (out.getD 0 0) ++ [p]).length ≤ s := by rw [List.length_append, List.length_erase_of_mem hz, List.length_singleton]; omega
            obtain ⟨n, h1, h2, h3, h4, h5⟩ := ih _ _ _ hN2 hL2 he
            refine ⟨n + 1, by omega, ⟨_, n, hN2, hL2, by simp, fun x hx => ?_, h2, by rw [if_neg hp]; omega⟩, h3, ?_, by simp; omega⟩
            · rw [List.mem_append, List.mem_singleton] at hx
              exact hx.elim (fun h => .inr (List.mem_of_mem_erase h)) .inl
            · rw [List.length_append, List.length_erase_of_mem hz, List.length_singleton] at h4; omega
          · rw [if_neg hz] at he; cases he
      · rw [if_neg hf] at he ⊢
        have hN2 := nodup_snoc hN hp
        obtain ⟨n, h1, h2, h3, h4, h5⟩ := ih _ _ _ hN2 (by simp; omega) he
        refine ⟨n + 1, by omega, ⟨_, n, hN2, by simp; omega, by simp, fun x hx => ?_, h2, by rw [if_neg hp]; omega⟩, h3, ?_, by simp; omega⟩
        · rw [List.mem_append, List.mem_singleton] at hx
          exact hx.elim (fun h => .inr h) .inl
        · rw [List.length_append, List.length_singleton] at h4; omega
/-- What the best way lets go of may be played. -/
theorem opt_plays {s : Nat} (hs : 1 ≤ s) : ∀ (l H K : List Int) (m : Nat), K.Perm H → H.Nodup → H.length ≤ s →
    playA s K (optF s H l).2.1 l m = (m + missN (optF s H l).1, (optF s H l).2.2, 0) ∧ (optF s H l).2.1.length + (optF s H l).2.2.length = H.length + missN (optF s H l).1 := by
  intro l
  induction l with
  | nil => intro H K m hK _ _; exact ⟨by simp [playA, optF, missN, sortI_eq hK], by simp [optF, missN, sortI_len]⟩
  | cons p l ih =>
    intro H K m hK hN hL
    rw [playA, optF]
    by_cases hp : p ∈ H
    · have hp' : p ∈ K := hK.mem_iff.2 hp
      rw [if_pos hp]
      simp only [if_pos hp']
      have := ih H K m hK hN hL
      refine ⟨by rw [this.1]; simp [missN], by rw [this.2]; simp [missN]⟩
    · have hp' : p ∉ K := fun h => hp (hK.mem_iff.1 h)
      rw [if_neg hp]
      by_cases hf : H.length = s
      · have hf' : K.length = s := by rw [hK.length_eq]; exact hf
        have hne : H ≠ [] := fun e => by rw [e] at hf; simp at hf; omega
        rw [if_pos hf]
        have hd := optDel (p :: l) hne hN
        obtain ⟨hm, _⟩ := pickO_latest H (p :: l) hne hN
        have hm' : pickO H (p :: l) ∈ K := hK.mem_iff.2 hm
        simp only [if_neg hp', if_pos hf']
        rw [if_neg (by simp), if_pos (by simpa using hm')]
        simp only [List.getD_cons_zero, List.drop_one, List.tail_cons]
        have hN' := nodup_snoc (hN.erase (pickO H (p :: l))) (p := p) (fun h => hp (List.mem_of_mem_erase h))
        have hd2 := hd.append_right [p]
        have hpos := List.length_pos_of_mem hm
        have := ih _ (K.erase (pickO H (p :: l)) ++ [p]) (m + 1) (((hK.erase _).append_right [p]).trans hd2.symm) (hd2.nodup_iff.2 hN') (by rw [hd2.length_eq, List.length_append, List.length_erase_of_mem hm]; simp; omega)
        refine ⟨?_, ?_⟩
        · rw [this.1]; simp [missN]; omega
        · have h2 := this.2
          rw [hd2.length_eq, List.length_append, List.length_erase_of_mem hm, List.length_singleton] at h2
          simp only [missN, List.filter_cons, Bool.not_false, if_true, List.length_cons] at h2 ⊢
          omega
      · have hf' : ¬ K.length = s := by rw [hK.length_eq]; exact hf
        rw [if_neg hf]
        simp only [if_neg hp', if_neg hf']
        have := ih (H ++ [p]) (K ++ [p]) (m + 1) (hK.append_right [p]) (nodup_snoc hN hp) (by simp; omega)
        refine ⟨?_, ?_⟩
        · rw [this.1]; simp [missN]; omega
        · have h2 := this.2
          rw [List.length_append, List.length_singleton] at h2
          simp only [missN, List.filter_cons, Bool.not_false, if_true, List.length_cons] at h2 ⊢
          omega
end Go.Proofs.YtpamnnnihfjdkaaDoor
