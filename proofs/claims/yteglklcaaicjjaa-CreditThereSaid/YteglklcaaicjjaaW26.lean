/- The plain law of CreditRun: a charge is taken just if each number alone could be. -/
import Derived.Test.YteglklcaaicjjaaW5
namespace Go.Proofs.Yteglklcaaicjjaa
open Go.RowKit Go.Maps

theorem take_one {S : List Nat} {id : Nat} (h : id ≤ far) : takeE S id 1 = if id ∈ S then 0 else 17 := by
  unfold takeE
  rw [if_neg (by omega), if_neg (by omega)]
  by_cases hm : id ∈ S
  · rw [if_pos hm, if_pos]
    rw [allIn_iff]
    intro k hk
    have : k = 0 := by omega
    subst this
    exact hm
  · rw [if_neg hm, if_neg]
    rw [allIn_iff]
    intro hall
    exact hm (hall 0 (by decide))
/-- One number more is away. -/
theorem cut_one {S : List Nat} {id i : Nat} (h : id + i ≤ far) : takeE (cutS S id i) (id + i) 1 = (if id + i ∈ S then 0 else 17) ∧ takeS (cutS S id i) (id + i) 1 = cutS S id (i + 1) := by
  have hmem : id + i ∈ cutS S id i ↔ id + i ∈ S := by rw [cutS_mem]; constructor
                                                      · exact fun h => h.1
                                                      · exact fun h => ⟨h, Or.inr (Nat.le_refl _)⟩
  have hE := take_one (S := cutS S id i) h
  refine ⟨?_, ?_⟩
  · rw [hE]
    by_cases hm : id + i ∈ S
    · rw [if_pos hm, if_pos (hmem.2 hm)]
    · rw [if_neg hm, if_neg (fun h => hm (hmem.1 h))]
  · unfold takeS
    rw [hE]
    by_cases hm : id + i ∈ S
    · rw [if_pos (hmem.2 hm), if_pos rfl]
      unfold cutS
      rw [List.filter_filter]
      congr 1
      funext x
      rw [Bool.eq_iff_iff]
      simp
      omega
    · rw [if_neg (fun h => hm (hmem.1 h)), if_neg (by decide)]
      unfold cutS
      apply List.filter_congr
      intro x hx
      have : x ≠ id + i := fun e => hm (e ▸ hx)
      rw [Bool.eq_iff_iff]
      simp
      omega
theorem take_all {S : List Nat} {id k : Nat} (h : id ≤ far) (h1 : 1 ≤ k) (h2 : k ≤ 64) : takeE S id k = 0 ↔ ∀ j, j < k → id + j ∈ S := by
  unfold takeE
  rw [if_neg (by omega), if_neg (by omega), Int.toNat_natCast]
  by_cases hall : allIn S id k = true
  · rw [if_pos hall]
    exact ⟨fun _ => (allIn_iff S id k).1 hall, fun _ => rfl⟩
  · rw [if_neg hall]
    exact ⟨fun h => absurd h (by decide), fun h => absurd ((allIn_iff S id k).2 h) hall⟩
end Go.Proofs.Yteglklcaaicjjaa
