/- The builtin clear on a row's tail; slices.DeleteFunc, the table's Close, by walks. -/
import Derived.Test.YtgcimkbggnjcdaaW10
namespace Go.Proofs.Ytgcimkbggnjcdaa
open Go.RowKit

/-- clear(s[i:]) of a row's tail: the row's block turns there alone; what stands ahead of it stays. -/
theorem wpList_clear_row {P : Program} {w : World} {ops : Array Oper} {rest : List Oper} {o : Oper} {a : Act} {Q : Exit → Act → World → Prop} (hgd : o.guard = none) (x : Operand) (t : TypeId)
    (ho : o.op = .call { callee := .builtin .clear, args := #[x], argTypes := #[t] }) (e : TypeId) (K : Nat) (z : Value) (hu : P.underlying t = some (.slice e)) (hv : ∀ w, (zeroValue e).run P w = .ok z w) (hzs : z.cells.size = K) (hz1 : ∀ v ∈ z.cells.toList, v.oneCell' = true)
    (B g n cap : Nat) (xs : List Value) (hown : Row B w e K (some ⟨g, 0, none⟩) n cap xs)
    (i m c : Nat) (hx : a.eval x = .slice (some ⟨g, i * K, none⟩) m c) (him : i + m = n) (hm : 0 < m)
    (h : ∀ v w', Row B w' e K (some ⟨g, 0, none⟩) i cap (xs.take (i * K)) → Fr (fun k => k = g) w w' → wpList P ops Q rest (a.put o.dst v) w') : wpList P ops Q (o :: rest) a w := by
  refine wpList_plain hgd fun K' hK => ?_
  obtain ⟨hBg, cur, hg, hcs, htake⟩ := hown.block
  have hnc := hown.le
  have hcap := hown.capmax
  have hnK : n * K ≤ cap * K := Nat.mul_le_mul_right _ hnc
  have hK1 : i * K + m * K = n * K := by rw [← Nat.add_mul, him]
  have hlen : (Builtin.zeroCells z.cells m).toList.length = m * K := by rw [Array.length_toList, size_zeroCells, hzs]
  have hone : ∀ v ∈ (Builtin.zeroCells z.cells m).toList, v.oneCell' = true := by
    intro v hv'
    unfold Builtin.zeroCells at hv'
    rw [Array.mem_toList_iff, Array.mem_map] at hv'
    obtain ⟨j, hj, rfl⟩ := hv'
    rw [Array.mem_range] at hj
    have hpos : 0 < z.cells.size := by
      rcases Nat.eq_zero_or_pos z.cells.size with h0 | h0
      · rw [h0] at hj; omega
      · exact h0
    have hlt : j % z.cells.size < z.cells.size := Nat.mod_lt _ hpos
    rw [getElem!_pos z.cells _ hlt]
    exact hz1 _ (by rw [Array.mem_toList_iff]; exact Array.getElem_mem hlt)
  have hst := run_storeCells_at P g (i * K) e (Builtin.zeroCells z.cells m).toList 0 cur w hg (by rw [hlen]; omega) hone
  simp only [Nat.add_zero] at hst
  obtain ⟨m', rfl⟩ : ∃ m', m = m' + 1 := ⟨m - 1, by omega⟩
  unfold Oper.wp
  simp [execOp, ho, resolve, invoke, builtin, hx, Builtin.clear_, run_underlying hu, hv, hst, Result.andThen]
  refine hK _ _ (h _ _ ?_ ?_)
  · have hl2 : (cur.toList.take (i * K) ++ ((Builtin.zeroCells z.cells (m' + 1)).toList ++ cur.toList.drop (i * K + (Builtin.zeroCells z.cells (m' + 1)).toList.length))).length = cur.size := by
      simp only [List.length_append, List.length_take, List.length_drop, Array.length_toList] at hlen ⊢; omega
    refine ⟨by rw [List.length_take, hown.len]; omega, Or.inr ⟨g, cap, _, rfl, hBg, setRow_heap w g cur _ e _ hg, by omega, hcap, ?_, ?_⟩⟩
    · rw [List.size_toArray]
      simpa [hcs] using hl2
    · show List.take (i * K) _ = _
      rw [← htake, List.take_take, Nat.min_eq_left (by omega)]
      have hA : i * K ≤ (cur.toList.take (i * K)).length := by rw [List.length_take, Array.length_toList]; omega
      exact (List.take_append_of_le_length hA).trans (by rw [List.take_take, Nat.min_self])
  · exact ⟨rfl, rfl, rfl, by simp [World.setRow], fun k _ hk => setRow_other w g k _ hk⟩
end Go.Proofs.Ytgcimkbggnjcdaa
