/- The document's keep in memory; contracts of place and Has, by walks. -/
import Derived.Test.YtbgjajhnjkldkaaW8
namespace Go.Proofs.Ytbgjajhnjkldkaa
open Go.RowKit Go.WideShapes Go.Maps

def icells (x : It) : List Value := .int .i64 x.k :: (ics x.u x.g x.t).toList
theorem icells_len (x : It) : (icells x).length = 19 := rfl
def flatI (S : List It) : List Value := S.flatMap icells
theorem flatI_length (S : List It) : (flatI S).length = S.length * 19 := flat_len icells 19 icells_len S
theorem flatI_at {S : List It} {i : Nat} {x : It} (h : S[i]? = some x) {j : Nat} (hj : j < 19) : (flatI S)[i * 19 + j]? = (icells x)[j]? := flat_get icells 19 icells_len S i j x h hj
theorem icells_one (x : It) : ∀ u ∈ icells x, u.oneCell' = true := by
  intro u hu
  unfold icells at hu
  rcases List.mem_cons.1 hu with rfl | hu
  · rfl
  · have := ics_one x.u x.g x.t
    rw [Array.all_eq_true_iff_forall_mem] at this
    exact this u (by simpa using hu)
theorem flatI_one (S : List It) : ∀ u ∈ flatI S, u.oneCell' = true := by
  intro v hv
  obtain ⟨x, _, hv⟩ := List.mem_flatMap.1 hv
  exact icells_one x v hv
theorem flatI_append (S T : List It) : flatI (S ++ T) = flatI S ++ flatI T := List.flatMap_append
theorem rowI_cell {B : Nat} {w : World} {g n cap : Nat} {S : List It} (h : Row B w 44 19 (some ⟨g, 0, none⟩) n cap (flatI S)) {i : Nat} {x : It} (hi : S[i]? = some x) {j : Nat} (hj : j < 19) : w.cell? ⟨g, i * 19 + j, none⟩ = (icells x)[j]? := by
  have hl := h.len
  rw [flatI_length] at hl
  have hil : i < S.length := (List.getElem?_eq_some_iff.1 hi).1
  exact (h.cell (by omega)).trans (flatI_at hi hj)

/-- THE DOCUMENT's KEEP. -/
structure RfAt (B : Nat) (w : World) (rb : Nat) (S : List It) (lo : Option Addr) (lc : Nat) : Prop where
  low : B ≤ rb
  blk : Blk w rb 37 #[.slice lo S.length lc]
  row : Row B w 44 19 lo S.length lc (flatI S)
  asc : S.Pairwise fun x y => x.k < y.k
def RfA (B : Nat) (w : World) (rb : Nat) (S : List It) : Prop := ∃ lo lc, RfAt B w rb S lo lc
section
variable {B : Nat} {w w' : World} {rb : Nat} {S : List It} {lo : Option Addr} {lc : Nat}
theorem RfAt.fr {T : Nat → Prop} (h : RfAt B w rb S lo lc) (hf : Fr T w w') (h1 : ¬ T rb) (h2 : ∀ k, rowOf lo k → ¬ T k) : RfAt B w' rb S lo lc := ⟨h.low, h.blk.fr hf h1, h.row.fr hf h2, h.asc⟩
theorem RfAt.below (h : RfAt B w rb S lo lc) (hf : Below w.heap.size w w') : RfAt B w' rb S lo lc := h.fr (Fr.of_below (T := none0) hf) (fun h => h) (fun _ _ h => h)
theorem RfA.below (h : RfA B w rb S) (hf : Below w.heap.size w w') : RfA B w' rb S := by
  obtain ⟨lo, lc, h⟩ := h
  exact ⟨lo, lc, h.below hf⟩
theorem RfAt.c0 (h : RfAt B w rb S lo lc) : w.cell? ⟨rb, 0, none⟩ = some (.slice lo S.length lc) := h.blk.cell 0
/-- The keep's step leaves the document's. -/
theorem RfA.step {pb mb : Nat} {P : List It} (h : RfA B w rb S) (hk : KeepAt B w pb mb P) (hf : Fr (fun j => j = mb) w w') : RfA B w' rb S := by
  obtain ⟨lo, lc, h⟩ := h
  obtain ⟨M, _, hd⟩ := hk.map
  exact ⟨lo, lc, h.fr hf (Blk.ne_dict h.blk hd) (fun k hk => row_ne_dict h.row hd k hk)⟩
end
theorem find_idx {S : List It} {k : Int} {x : It} (h : findS S k = some x) : ∃ i, S[i]? = some x ∧ x.k = k ∧ S.findIdx? (fun y => decide (y.k = k)) = some i := by
  unfold findS at h
  obtain ⟨h1, l1, l2, h2, h3⟩ := List.find?_eq_some_iff_append.1 h
  refine ⟨l1.length, by rw [h2]; simp, by simpa using h1, ?_⟩
  rw [h2, List.findIdx?_append]
  have : l1.findIdx? (fun y => decide (y.k = k)) = none := by
    rw [List.findIdx?_eq_none_iff]
    intro y hy
    simpa using h3 y hy
  rw [this, List.findIdx?_cons, h1]
  simp
def placeV (S : List It) (k : Int) : Int := match S.findIdx? (fun y => decide (y.k = k)) with | some i => (i : Int) | none => -1
theorem place_none {S : List It} {k : Int} (h : findS S k = none) : placeV S k = -1 := by
  have : S.findIdx? (fun y => decide (y.k = k)) = none := by
    rw [List.findIdx?_eq_none_iff]
    intro y hy
    simpa using findS_none h y hy
  unfold placeV
  rw [this]
theorem place_some {S : List It} {k : Int} {i : Nat} (h : S.findIdx? (fun y => decide (y.k = k)) = some i) : placeV S k = (i : Int) := by unfold placeV; rw [h]

theorem place_any (B : Nat) (w : World) (rb : Nat) (S : List It) (lo : Option Addr) (lc : Nat) (k : Int) (h : RfAt B w rb S lo lc) (hlen : S.length < 1000000) :
    Calls Try.prog 25 #[.pointer (some ⟨rb, 0, none⟩), .int .i64 k] w fun e w' => e = .returned (.int .i64 (placeV S k)) ∧ w = w' := by
  obtain ⟨r, hr⟩ : ∃ r, placeV S k = r := ⟨_, rfl⟩
  rw [hr]
  have HR := Lib.hid hr
  have HROW := Lib.hid h.row
  have c1 := h.c0
  clear h hr
  go_enter Try.func25, Try.ntmps25
  go_wp2_with fail
  go_loop [4, 5] (fun _ s5 => ∃ i : Nat, i ≤ S.length ∧ s5 = .int .i64 i ∧ Hid (∀ j y, j < i → S[j]? = some y → ¬ y.k = k)) (fun _ s => S.length - (intOf s).toNat)
  case atStart => exact ⟨0, Nat.zero_le _, rfl, fun j y hj => absurd hj (Nat.not_lt_zero _)⟩
  case round =>
    obtain ⟨i, hi, rfl, hno⟩ := hrel
    by_cases hlt : i < S.length
    · obtain ⟨g, rfl⟩ := HROW.out.form (by omega)
      have hi2 : S[i]? = some S[i] := List.getElem?_eq_getElem hlt
      have d0 : w.cell? ⟨g, i * 19, none⟩ = some (.int .i64 S[i].k) := rowI_cell HROW.out hi2 (j := 0) (by omega)
      have HI := Lib.hid hi2
      clear hi2
      generalize S[i] = y at *
      by_cases hq : y.k = k
      · have HH : Hid ((i : Int) = r) := by
          show _ = _
          rw [← HR.out]
          unfold placeV
          have : S.findIdx? (fun y => decide (y.k = k)) = some i := by
            rw [List.findIdx?_eq_some_iff_getElem]
            obtain ⟨hl, he⟩ := List.getElem?_eq_some_iff.1 HI.out
            refine ⟨hl, by rw [he]; simpa using hq, fun j hj => ?_⟩
            have := hno.out j _ hj (List.getElem?_eq_getElem (by omega))
            simpa using this
          rw [this]
        rw [hq] at d0
        clear hq hno
        go_wp2_with fail
        go_ret
        exact ⟨ret_int HH.out, rfl⟩
      · have HN : Hid (∀ j z, j < i + 1 → S[j]? = some z → ¬ z.k = k) := fun j z hj hz => by
          rcases Nat.lt_succ_iff_lt_or_eq.1 hj with h | h
          · exact hno.out j z h hz
          · subst h; rw [HI.out] at hz; injection hz with hz; subst hz; exact hq
        have e1 : (y.k == k) = false := by simpa using hq
        clear hq hno
        go_wp2_with fail
        go_round
        case rel => exact ⟨i + 1, by omega, by go_num, HN.out⟩
        case measure => simp [intOf]; omega
    · have HH : Hid ((-1 : Int) = r) := by
        show _ = _
        rw [← HR.out]
        unfold placeV
        have : S.findIdx? (fun y => decide (y.k = k)) = none := by
          rw [List.findIdx?_eq_none_iff]
          intro y hy
          obtain ⟨j, hj⟩ := List.mem_iff_getElem?.1 hy
          have := hno.out j y (by have := (List.getElem?_eq_some_iff.1 hj).1; omega) hj
          simpa using this
        rw [this]
      clear hno
      go_wp2_with fail
      go_ret
      exact ⟨ret_int HH.out, rfl⟩
theorem rhas_any (B : Nat) (w : World) (rb : Nat) (S : List It) (k : Int) (h : RfA B w rb S) (hlen : S.length < 1000000) :
    Calls Try.prog 12 #[.pointer (some ⟨rb, 0, none⟩), .int .i64 k] w fun e w' => e = .returned (.bool (findS S k).isSome) ∧ w = w' := by
  obtain ⟨lo, lc, h⟩ := h
  have H := Lib.hid h
  clear h
  cases hf : findS S k with
  | none =>
    have HP := Lib.hid (place_none hf)
    clear hf
    go_enter Try.func12, Try.ntmps12
    go_wp2_with fail
    refine (place_any B w rb S lo lc k H.out hlen).mono ?_
    rw [HP.out]
    rintro e w1 ⟨rfl, rfl⟩
    go_wp2_with fail
    go_ret
    exact ⟨rfl, rfl⟩
  | some x =>
    obtain ⟨i, _, _, hidx⟩ := find_idx hf
    have HP := Lib.hid (place_some hidx)
    have i1 : (0 : Int) ≤ (i : Int) := by omega
    clear hf hidx
    go_enter Try.func12, Try.ntmps12
    go_wp2_with fail
    refine (place_any B w rb S lo lc k H.out hlen).mono ?_
    rw [HP.out]
    rintro e w1 ⟨rfl, rfl⟩
    go_wp2_with fail
    go_ret
    exact ⟨rfl, rfl⟩
end Go.Proofs.Ytbgjajhnjkldkaa
