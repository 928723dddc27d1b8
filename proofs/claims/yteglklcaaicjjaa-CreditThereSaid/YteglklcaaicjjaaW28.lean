/- The plain law of CreditThere: each number that there is can be taken, once. -/
import Derived.Test.YteglklcaaicjjaaW26
namespace Go.Proofs.Yteglklcaaicjjaa
open Go.RowKit Go.Maps

/-- What is there once other, and the first i numbers, have been taken. -/
def rest (S : List Nat) (other i : Nat) : List Nat := (S.drop i).filter fun x => decide (x ≠ other)
theorem rest_end (S : List Nat) (other : Nat) : rest S other S.length = [] := by unfold rest; rw [List.drop_length]; rfl
theorem take_none {T : List Nat} {x : Nat} (h : x ≤ far) (hx : x ∉ T) : takeE T x 1 = 17 ∧ takeS T x 1 = T := by
  have h1 : takeE T x 1 = 17 := by rw [take_one h, if_neg hx]
  exact ⟨h1, take_bad h1 (by decide)⟩
theorem take_some {T : List Nat} {x : Nat} (h : x ≤ far) (hx : x ∈ T) : takeE T x 1 = 0 ∧ takeS T x 1 = cutS T x 1 := by
  have h1 : takeE T x 1 = 0 := by rw [take_one h, if_pos hx]
  refine ⟨h1, ?_⟩
  unfold takeS
  rw [if_pos h1]
  rfl
theorem cut_ne (T : List Nat) (x : Nat) : cutS T x 1 = T.filter fun y => decide (y ≠ x) := by
  unfold cutS
  apply List.filter_congr
  intro y _
  rw [Bool.eq_iff_iff]
  simp
  omega
/-- Taking other at first. -/
theorem take_other {S : List Nat} {other next : Nat} (hlt : ∀ k ∈ S, k < next) (hn : next ≤ 6401) : takeE S other 1 = (if other ∈ S then 0 else 17) ∧ takeS S other 1 = rest S other 0 := by
  have hr : rest S other 0 = S.filter fun y => decide (y ≠ other) := by unfold rest; rw [List.drop_zero]
  have hout : other ∉ S → S.filter (fun y => decide (y ≠ other)) = S := fun hx => List.filter_eq_self.2 fun y hy => by
    have : y ≠ other := fun e => hx (e ▸ hy)
    simp [this]
  by_cases hf : other ≤ far
  · by_cases hx : other ∈ S
    · obtain ⟨h1, h2⟩ := take_some hf hx
      rw [if_pos hx, hr, h1, h2, cut_ne]
      exact ⟨rfl, rfl⟩
    · obtain ⟨h1, h2⟩ := take_none hf hx
      rw [if_neg hx, hr, h1, h2, hout hx]
      exact ⟨rfl, rfl⟩
  · have hx : other ∉ S := fun h => by have := hlt _ h; unfold far at hf; omega
    have h1 : takeE S other 1 = 17 := by unfold takeE; rw [if_neg (by decide), if_pos (by omega)]
    rw [if_neg hx, hr, h1, take_bad h1 (by decide), hout hx]
    exact ⟨rfl, rfl⟩
theorem rest_step {S : List Nat} {other i x : Nat} (hi : S[i]? = some x) : rest S other i = if x = other then rest S other (i + 1) else x :: rest S other (i + 1) := by
  obtain ⟨hl, he⟩ := List.getElem?_eq_some_iff.1 hi
  unfold rest
  rw [List.drop_eq_getElem_cons hl, he, List.filter_cons]
  by_cases e : x = other
  · rw [if_pos e, if_neg (by simp [e])]
  · rw [if_neg e, if_pos (by simp [e])]
theorem rest_above {S : List Nat} (hS : S.Pairwise (· < ·)) {other i x : Nat} (hi : S[i]? = some x) : ∀ y ∈ rest S other (i + 1), x < y := by
  obtain ⟨hl, he⟩ := List.getElem?_eq_some_iff.1 hi
  intro y hy
  unfold rest at hy
  have hd := (List.mem_filter.1 hy).1
  have hp : (S.drop i).Pairwise (· < ·) := hS.sublist (List.drop_sublist i S)
  rw [List.drop_eq_getElem_cons hl, he] at hp
  exact (List.pairwise_cons.1 hp).1 y hd
/-- Taking the i-th number, twice. -/
theorem rest_take {S : List Nat} (hS : S.Pairwise (· < ·)) {other i x : Nat} (hi : S[i]? = some x) (hf : x ≤ far) :
    takeE (rest S other i) x 1 = (if x = other then 17 else 0) ∧ takeS (rest S other i) x 1 = rest S other (i + 1) ∧ takeE (rest S other (i + 1)) x 1 = 17 ∧ takeS (rest S other (i + 1)) x 1 = rest S other (i + 1) := by
  have hab := rest_above hS (other := other) hi
  have hno : x ∉ rest S other (i + 1) := fun h => Nat.lt_irrefl _ (hab x h)
  obtain ⟨h1, h2⟩ := take_none hf hno
  have hst := rest_step (other := other) hi
  by_cases e : x = other
  · rw [if_pos e] at hst
    rw [hst, h1, h2, if_pos e]
    exact ⟨rfl, rfl, rfl, rfl⟩
  · rw [if_neg e] at hst
    obtain ⟨h3, h4⟩ := take_some (T := rest S other i) hf (by rw [hst]; exact List.mem_cons_self)
    rw [h1, h2, h3, h4, if_neg e, cut_ne, hst, List.filter_cons, if_neg (by simp), List.filter_eq_self.2 (fun y hy => decide_eq_true (Nat.ne_of_gt (hab y hy)))]
    exact ⟨rfl, rfl, rfl, rfl⟩
/-- The list rises. -/
theorem rises {S : List Nat} (hS : S.Pairwise (· < ·)) {j x y : Nat} (hx : S[j]? = some x) (hy : S[j + 1]? = some y) : x < y := by
  obtain ⟨h1, e1⟩ := List.getElem?_eq_some_iff.1 hx
  obtain ⟨h2, e2⟩ := List.getElem?_eq_some_iff.1 hy
  have := List.pairwise_iff_getElem.1 hS j (j + 1) h1 h2 (by omega)
  rw [e1, e2] at this
  exact this
theorem there_step {S : List Nat} {other i x : Nat} (hi : S[i]? = some x) : other ∈ S.take (i + 1) ↔ other ∈ S.take i ∨ x = other := by
  rw [List.take_add_one, hi, List.mem_append]
  simp
  exact ⟨fun h => h.imp id Eq.symm, fun h => h.imp id Eq.symm⟩
end Go.Proofs.Yteglklcaaicjjaa
