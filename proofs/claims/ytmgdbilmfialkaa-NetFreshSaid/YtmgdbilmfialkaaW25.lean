/- How long a slice that comes in can be. -/
import Derived.Test.YtmgdbilmfialkaaW24
import Derived.SizedLaws
namespace Go.Proofs.Ytmgdbilmfialkaa
open Go.RowKit Go.WideShapes

open Go.ChangeShapes Go.Deep in
/-- How long a slice that came in can be. -/
theorem sized_len {H : Type} {enc : TypeId × Value → H} {P : Program} {w : World} {t e : TypeId} {ao : Option Addr} {n c : Nat} {d : DataW H} {p : List MemPlace} (ht : P.underlying t = some (.slice e)) (h : DataW.Trod enc P w 0 (fun _ => true) true t (.slice ao n c) d p)
    {ts : List TypeId} {ds : List (DataW H)} (hs : (DataW.weightsEach P ts ds).all (· ≤ reachBytes) = true) {j : Nat} (hj : ts[j]? = some t) (hd : ds[j]? = some d) : n * P.bytesOf e ≤ reachBytes := by
  obtain ⟨fuel, hf⟩ := h
  rcases open_slice ht hf with ⟨h1, _⟩ | ⟨a, len, cap, m, k, D, Pl, hcs, _, _, _, _, hx, _⟩
  · simp [Value.cells] at h1
    obtain ⟨_, rfl, _⟩ := h1
    rw [Nat.zero_mul]; exact Nat.zero_le _
  · simp [Value.cells] at hcs
    obtain ⟨_, rfl, _⟩ := hcs
    injection hx with hx _
    subst hx
    have := sized_slice hs hj hd ht
    refine Nat.le_trans (Nat.mul_le_mul_right _ ?_) this
    simp
end Go.Proofs.Ytmgdbilmfialkaa
