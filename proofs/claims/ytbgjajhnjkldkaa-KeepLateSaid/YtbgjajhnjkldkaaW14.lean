/- What comes in: Guids and acts. -/
import Derived.Test.YtbgjajhnjkldkaaW13
namespace Go.Proofs.Ytbgjajhnjkldkaa
open Go.ChangeShapes Go.WideShapes Go.ChangeAt Go.RowKit Go.Deep

theorem take1 {cs : List Value} {i : Nat} (h : i < cs.length) : (cs.drop i).take 1 = [cs[i]] := by
  rw [List.drop_eq_getElem_cons h]
  rfl
theorem guid_cells {H : Type} {enc : TypeId × Value → H} {w : World} {base : Nat} {sp : Nat → Bool} {held : Bool} {fuel : Nat} {cs : List Value} {x : DataW H × List MemPlace}
    (h : DataW.trod enc Try.prog w base sp held fuel 39 cs = some x) : ∃ g, cs = (gcs g).toList := by
  obtain ⟨xs, m, _, _, hl, hxl, hf⟩ := DataW.trod_array Try.underlying39 h
  have h16 : cs.length = 16 := hl
  have key : ∀ i, i < 16 → ∃ z : Int, cs[i]? = some (.int .u8 z) := fun i hi => by
    have h1 := hf i hi
    have e1 : Try.prog.cellsOf 5 = 1 := by kernel_rfl
    rw [e1, Nat.mul_one, take1 (by omega), List.getElem?_eq_getElem (by omega)] at h1
    obtain ⟨z, hz, _, _⟩ := DataW.trod_int Try.underlying5 h1
    injection hz with hz _
    exact ⟨z, by rw [List.getElem?_eq_getElem (by omega), hz]⟩
  obtain ⟨g, hg⟩ := choose_lt key
  refine ⟨g, ?_⟩
  rw [gcs_range]
  apply List.ext_getElem?
  intro i
  by_cases hi : i < 16
  · rw [hg i hi, List.getElem?_map, List.getElem?_range hi]; rfl
  · rw [List.getElem?_eq_none (by omega), List.getElem?_eq_none (by simp; omega)]
theorem guid_of {H : Type} {enc : TypeId × Value → H} {w : World} {r : Reach} {b0 base : Nat} {sp : Nat → Bool} {held : Bool} {v : Value} {d : DataW H} {ps : List MemPlace} (hval : Value.okWide Try.prog w r b0 39 v) (h : DataW.Trod enc Try.prog w base sp held 39 v d ps) : ∃ g, v = .agg (gcs g) ∧ True := by
  unfold Value.okWide at hval
  rw [Try.underlying39] at hval
  obtain ⟨cs, rfl, _, _⟩ := hval
  obtain ⟨fuel, hf⟩ := h
  obtain ⟨g, hg⟩ := guid_cells (cs := (Value.agg cs).cells.toList) hf
  refine ⟨g, ?_, trivial⟩
  have : cs.toList = (gcs g).toList := hg
  rw [Array.toList_inj.1 this]

/-- One act. -/
structure ActV where
  d : Int
  k : Int
  u : ByteArray
  g : Gd
  t : Int
instance : Inhabited ActV := ⟨⟨0, 0, .empty, fun _ => 0, 0⟩⟩
def acs (a : ActV) : List Value := .int .i64 a.d :: .int .i64 a.k :: .string a.u :: ((gcs a.g).toList ++ [.int .u16 a.t])
structure ActAt (w : World) (b o i : Nat) (a : ActV) : Prop where
  cells : ∀ j, j < 20 → w.cell? ⟨b, o + i * 20 + j, none⟩ = (acs a)[j]?
  in1 : InI a.k
  t0 : 0 ≤ a.t
  t1 : a.t ≤ 65535
theorem ActAt.below {w w' : World} {b o i B : Nat} {a : ActV} (h : ActAt w b o i a) (hb : Below B w w') (hB : b < B) : ActAt w' b o i a :=
  ⟨fun j hj => (hb.cell (p := ⟨b, _, none⟩) hB).trans (h.cells j hj), h.in1, h.t0, h.t1⟩
def Acts (w : World) (ao : Option Addr) (n : Nat) (A : Nat → ActV) : Prop := ∀ k, k < n → ∃ b o, ao = some ⟨b, o, none⟩ ∧ b < w.heap.size ∧ ActAt w b o k (A k)
theorem split5 (cs : List Value) (h : cs.length = 20) : cs = (cs.drop 0).take 1 ++ ((cs.drop 1).take 1 ++ ((cs.drop 2).take 1 ++ ((cs.drop 3).take 16 ++ (cs.drop 19).take 1))) := by
  have e : ∀ k m, (cs.drop k).take m ++ cs.drop (k + m) = cs.drop k := fun k m => by
    rw [← List.drop_drop, List.take_append_drop]
  have e19 : (cs.drop 19).take 1 = cs.drop 19 := List.take_of_length_le (by rw [List.length_drop]; omega)
  rw [e19, e 3 16, e 2 1, e 1 1]
  have := e 0 1
  rw [List.drop_zero] at this ⊢
  exact this.symm
theorem acts_of {H : Type} {enc : TypeId × Value → H} {w : World} {ao : Option Addr} {n c : Nat} {d : DataW H} {p : List MemPlace}
    (h : DataW.Trod enc Try.prog w 0 (fun _ => true) true 22 (.slice ao n c) d p) : ∃ A, Acts w ao n A ∧ n ≤ 9223372036854775807 := by
  obtain ⟨fuel, hf⟩ := h
  rcases open_slice Try.underlying22 hf with ⟨hcs, _⟩ | ⟨a, len, cap, m, n', D, Pl, hcs, hb, hl, hm, hmm, hx, hi⟩
  · simp [Value.cells] at hcs
    obtain ⟨rfl, rfl, rfl⟩ := hcs
    exact ⟨fun _ => default, fun k hk => absurd hk (Nat.not_lt_zero _), by omega⟩
  · simp [Value.cells] at hcs
    obtain ⟨rfl, rfl, rfl⟩ := hcs
    have hlen : n ≤ 9223372036854775807 := by unfold maxLen at hm; omega
    have key : ∀ i, i < n → ∃ q : ActV, ∃ b o, (some a) = some ⟨b, o, none⟩ ∧ b < w.heap.size ∧ ActAt w b o i q := fun i hil => by
      obtain ⟨cs', hc, ht'⟩ := hi i (by split at hmm <;> omega)
      have eC : Try.prog.cellsOf 53 = 20 := by kernel_rfl
      rw [eC] at hc
      obtain ⟨ys, n2, _, _, hlen2, hyl, hf2⟩ := DataW.trod_struct Try.underlying53 ht'
      obtain ⟨_, hcl, hat⟩ := World.cells?_some hc
      have c3 : Try.prog.cellsOf 3 = 1 := by kernel_rfl
      have c9 : Try.prog.cellsOf 9 = 1 := by kernel_rfl
      have c29 : Try.prog.cellsOf 29 = 1 := by kernel_rfl
      have c39 : Try.prog.cellsOf 39 = 16 := by kernel_rfl
      have u9 : Try.prog.underlying 9 = some .string := by kernel_rfl
      have t0 := hf2 0 ⟨"Do", 3, 0, false, "", "", 0⟩ rfl
      have t1 := hf2 1 ⟨"Open", 3, 1, false, "", "", 8⟩ rfl
      have t2 := hf2 2 ⟨"User", 9, 2, false, "", "", 16⟩ rfl
      have t3 := hf2 3 ⟨"Guid", 39, 3, false, "", "", 32⟩ rfl
      have t4 := hf2 4 ⟨"Tick", 29, 19, false, "", "", 48⟩ rfl
      dsimp only at t0 t1 t2 t3 t4
      rw [c3] at t0 t1
      rw [c9] at t2
      rw [c39] at t3
      rw [c29] at t4
      rw [List.getElem?_eq_getElem (by rw [hyl]; decide)] at t0
      rw [List.getElem?_eq_getElem (by rw [hyl]; decide)] at t1
      rw [List.getElem?_eq_getElem (by rw [hyl]; decide)] at t2
      rw [List.getElem?_eq_getElem (by rw [hyl]; decide)] at t3
      rw [List.getElem?_eq_getElem (by rw [hyl]; decide)] at t4
      obtain ⟨x0, e0, _, w0⟩ := DataW.trod_int Try.underlying3 t0
      obtain ⟨x1, e1, _, w1⟩ := DataW.trod_int Try.underlying3 t1
      obtain ⟨u, e2, _, _⟩ := DataW.trod_string u9 t2
      obtain ⟨g, e3⟩ := guid_cells t3
      obtain ⟨x4, e4, _, w4⟩ := DataW.trod_int Try.underlying29 t4
      have hs := split5 cs' hcl
      rw [e0, e1, e2, e3, e4] at hs
      have hs2 : cs' = acs ⟨x0, x1, u, g, x4⟩ := hs
      obtain ⟨l1, u1⟩ := bounds_i64 w1
      obtain ⟨l4, u4⟩ := bounds_u16 w4
      obtain ⟨b, off, spot⟩ := a
      have h0 := hat 0 (by omega)
      rw [hs2] at h0 hat
      have h0' : w.cell? ((Addr.mk b off spot).add (i * 20) |>.add 0) = some (.int .i64 x0) := h0
      have hspot : spot = none := by
        obtain ⟨cz, hcz, _⟩ := hi 0 (by split at hmm <;> omega)
        rw [eC] at hcz
        obtain ⟨_, hczl, hatz⟩ := World.cells?_some hcz
        have hz := hatz 0 (by omega)
        rw [List.getElem?_eq_getElem (by omega)] at hz
        simpa [Addr.add] using World.cell?_spot hz
      subst hspot
      refine ⟨⟨x0, x1, u, g, x4⟩, b, off, rfl, ?_, ⟨fun j hj => ?_, ⟨l1, u1⟩, l4, u4⟩⟩
      · rw [add_plain, add_plain] at h0'
        exact World.block_lt_of_cell? w _ h0'
      · have := hat j hj
        rw [add_plain, add_plain] at this
        exact this
    obtain ⟨f, hf⟩ := choose_lt key
    exact ⟨f, hf, hlen⟩
end Go.Proofs.Ytbgjajhnjkldkaa
