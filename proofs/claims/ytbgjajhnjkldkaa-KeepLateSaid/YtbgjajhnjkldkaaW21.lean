/- KeepLate: what stays of a keep, step by step; by a walk over the contracts. -/
import Derived.Test.YtbgjajhnjkldkaaW20
namespace Go.Proofs.Ytbgjajhnjkldkaa
open Go.RowKit Go.WideShapes Go.Maps

/-- What is kept when the first j have been asked back at t. -/
def keepL (S : List It) (t : Int) (j : Nat) : List It := (S.take j).filter (fun x => decide (x.t ≤ t)) ++ S.drop j
theorem keepL_zero (S : List It) (t : Int) : keepL S t 0 = S := by simp [keepL]
theorem keepL_end (S : List It) (t : Int) : (keepL S t S.length).length = (lateS S t).length := by
  unfold keepL lateS
  rw [List.take_of_length_le (Nat.le_refl _), List.drop_length, List.append_nil, List.length_map]
theorem keepL_split {S : List It} {j : Nat} {x : It} (t : Int) (h : S[j]? = some x) : keepL S t j = (S.take j).filter (fun x => decide (x.t ≤ t)) ++ x :: S.drop (j + 1) := by
  obtain ⟨hl, he⟩ := List.getElem?_eq_some_iff.1 h
  unfold keepL
  rw [← he, ← List.drop_eq_getElem_cons hl]
theorem keepL_asc {S : List It} (hasc : S.Pairwise fun x y => x.k < y.k) (t : Int) (j : Nat) : (keepL S t j).Pairwise fun x y => x.k < y.k := by
  refine hasc.sublist ?_
  have := List.Sublist.append (List.filter_sublist (p := fun x : It => decide (x.t ≤ t)) (l := S.take j)) (List.Sublist.refl (S.drop j))
  rw [List.take_append_drop] at this
  exact this
theorem keepL_find {S : List It} (hasc : S.Pairwise fun x y => x.k < y.k) {j : Nat} {x : It} (t : Int) (h : S[j]? = some x) : findS (keepL S t j) x.k = some x :=
  find_of (keepL_asc hasc t j) (by rw [keepL_split t h]; simp)
theorem keepL_stay {S : List It} {j : Nat} {x : It} {t : Int} (h : S[j]? = some x) (ht : x.t ≤ t) : keepL S t (j + 1) = keepL S t j := by
  rw [keepL_split t h]
  unfold keepL
  rw [List.take_add_one, h, Option.toList_some, List.filter_append, List.filter_cons_of_pos (by simpa using ht), List.filter_nil, List.append_assoc]
  rfl
theorem keepL_go {S : List It} (hasc : S.Pairwise fun x y => x.k < y.k) {j : Nat} {x : It} {t : Int} (h : S[j]? = some x) (ht : ¬ x.t ≤ t) : keepL S t (j + 1) = delS (keepL S t j) x.k := by
  have hi : (keepL S t j)[((S.take j).filter (fun x => decide (x.t ≤ t))).length]? = some x := by
    rw [keepL_split t h, List.getElem?_append_right (Nat.le_refl _), Nat.sub_self]; rfl
  rw [delS_split (keepL_asc hasc t j) hi rfl, keepL_split t h, List.take_left, List.drop_length_add_append]
  unfold keepL
  rw [List.take_add_one, h, Option.toList_some, List.filter_append, List.filter_cons_of_neg (by simpa using ht), List.filter_nil, List.append_nil]
  rfl
theorem keepL_le (S : List It) (t : Int) (j : Nat) : (keepL S t j).length ≤ S.length := by
  unfold keepL
  rw [List.length_append, List.length_drop]
  have := List.length_filter_le (fun x : It => decide (x.t ≤ t)) (S.take j)
  rw [List.length_take] at this
  omega
theorem late_asc {S : List It} (hasc : S.Pairwise fun x y => x.k < y.k) (t : Int) : (lateS S t).Pairwise (· < ·) :=
  List.pairwise_map.2 (hasc.sublist List.filter_sublist)
theorem late_mem {S : List It} {t z : Int} : z ∈ lateS S t ↔ ∃ x ∈ S, x.k = z ∧ x.t ≤ t := by
  unfold lateS
  rw [List.mem_map]
  constructor
  · rintro ⟨x, hx, rfl⟩
    obtain ⟨h1, h2⟩ := List.mem_filter.1 hx
    exact ⟨x, h1, rfl, by simpa using h2⟩
  · rintro ⟨x, hx, rfl, ht⟩
    exact ⟨x, List.mem_filter.2 ⟨hx, by simpa using ht⟩, rfl⟩
theorem late_own {S : List It} (hasc : S.Pairwise fun x y => x.k < y.k) {x : It} (hx : x ∈ S) (t : Int) : x.k ∈ lateS S t ↔ x.t ≤ t := by
  rw [late_mem]
  constructor
  · rintro ⟨y, hy, hk, ht⟩
    have h1 := find_of hasc hx
    have h2 := find_of hasc hy
    rw [hk, h1] at h2
    injection h2 with h2
    rw [h2]; exact ht
  · exact fun ht => ⟨x, hx, rfl, ht⟩
theorem late_mono {S : List It} {t t' z : Int} (h : t ≤ t') (hz : z ∈ lateS S t) : z ∈ lateS S t' := by
  obtain ⟨x, hx, hk, ht⟩ := late_mem.1 hz
  exact late_mem.2 ⟨x, hx, hk, by omega⟩
/-- In a rising list the place tells. -/
theorem asc_place {L : List Int} (h : L.Pairwise (· < ·)) {p q : Nat} {y z : Int} (hp : L[p]? = some y) (hq : L[q]? = some z) (hlt : y < z) : p < q := by
  obtain ⟨h1, e1⟩ := List.getElem?_eq_some_iff.1 hp
  obtain ⟨h2, e2⟩ := List.getElem?_eq_some_iff.1 hq
  have hpw := List.pairwise_iff_getElem.1 h
  rcases Nat.lt_trichotomy p q with h3 | h3 | h3
  · exact h3
  · subst h3; rw [e1] at e2; omega
  · have := hpw q p h2 h1 h3; omega
theorem asc_at {L : List Int} (h : L.Pairwise (· < ·)) {p q : Nat} {y z : Int} (hp : L[p]? = some y) (hq : L[q]? = some z) (hlt : p < q) : y < z := by
  obtain ⟨h1, e1⟩ := List.getElem?_eq_some_iff.1 hp
  obtain ⟨h2, e2⟩ := List.getElem?_eq_some_iff.1 hq
  have hpw := List.pairwise_iff_getElem.1 h p q h1 h2 hlt
  rw [e1, e2] at hpw
  exact hpw
def icA (x : It) : Array Value := #[.int .i64 x.k, .string x.u, .int .u8 (x.g 0), .int .u8 (x.g 1), .int .u8 (x.g 2), .int .u8 (x.g 3), .int .u8 (x.g 4), .int .u8 (x.g 5), .int .u8 (x.g 6), .int .u8 (x.g 7), .int .u8 (x.g 8), .int .u8 (x.g 9), .int .u8 (x.g 10), .int .u8 (x.g 11), .int .u8 (x.g 12), .int .u8 (x.g 13), .int .u8 (x.g 14), .int .u8 (x.g 15), .int .i64 x.t]
theorem icA_list (x : It) : (icA x).toList = icells x := rfl
theorem icA_one (x : It) : (icA x).all (·.oneCell') = true := by simp [icA, Value.oneCell']
theorem info44 : (Try.prog.info? 44).map (·.size) = some 19 := by kernel_rfl
theorem icA_guid (x : It) : ∀ j v, (gcs x.g).toList[j]? = some v → (icA x)[2 + j]? = some v := by
  intro j v hj
  rw [← Array.getElem?_toList, icA_list, Nat.add_comm]
  unfold icells ics
  simp only [List.getElem?_cons_succ]
  have h16 : j < 16 := (List.getElem?_eq_some_iff.1 hj).1
  have e : ([Value.int .u8 (x.g 0), .int .u8 (x.g 1), .int .u8 (x.g 2), .int .u8 (x.g 3), .int .u8 (x.g 4), .int .u8 (x.g 5), .int .u8 (x.g 6), .int .u8 (x.g 7), .int .u8 (x.g 8), .int .u8 (x.g 9), .int .u8 (x.g 10), .int .u8 (x.g 11), .int .u8 (x.g 12), .int .u8 (x.g 13), .int .u8 (x.g 14), .int .u8 (x.g 15)] ++ [Value.int .i64 x.t])[j]? = some v := by
    rw [List.getElem?_append_left (by simpa using h16)]
    exact hj
  exact e
theorem row_int {B : Nat} {w : World} {g n cap : Nat} {L : List Int} (h : Row B w 3 1 (some ⟨g, 0, none⟩) n cap (ints L)) {i : Nat} {z : Int} (hi : L[i]? = some z) : w.cell? ⟨g, i, none⟩ = some (.int .i64 z) := by
  have hl := h.len
  rw [ints_len] at hl
  have hil : i < L.length := (List.getElem?_eq_some_iff.1 hi).1
  refine (h.cell (by omega)).trans ?_
  unfold ints
  rw [List.getElem?_map, hi]; rfl
attribute [-go_sem] Go.Instr.loadAt
attribute [local go_sem] load35 load3 load9

set_option maxRecDepth 100000 in
set_option maxHeartbeats 8000000 in
theorem KeepLate_walk (ao : Option Addr) (n c : Nat) (F : Nat → ActV) (m l : Nat) (w : World) (hF : Acts w ao n F) (_ : n ≤ 9223372036854775807) (hm : m ≤ 65535) (hl : l ≤ 255) :
    Calls Try.prog 6 #[.slice ao n c, .int .u16 (m : Int), .int .u8 (l : Int)] w fun e w' => e = .returned (.bool true) ∧ Below w.heap.size w w' := by
  go_enter Try.func6, Try.ntmps6
  go_wp2_with fail
  refine (played_any w ao n c F hF).mono ?_
  rintro e w1 ⟨pb, mb, rb, S, rfl, hh, hsl, hb⟩
  have HE1 := Lib.hid hh
  have HB1 := Lib.hid hb
  have HASC := Lib.hid hh.keep.asc
  have HRNG := Lib.hid hh.keep.rng
  have hmb := hh.keep.mlt
  have hrb : rb < w1.heap.size := by obtain ⟨_, _, hr⟩ := hh.ref; exact hr.blk.lt
  have iw : IntKind.i64.wrap (m : Int) = (m : Int) := IntWalk.i64_in _ (by omega)
  have iw2 : IntKind.i64.wrap (l : Int) = (l : Int) := IntWalk.i64_in _ (by omega)
  have iw3 : IntKind.i64.wrap ((m : Int) + (l : Int)) = (m : Int) + (l : Int) := IntWalk.i64_in _ (by omega)
  obtain ⟨A, hA⟩ : ∃ T, lateS S (m : Int) = T := ⟨_, rfl⟩
  obtain ⟨C, hC⟩ : ∃ T, lateS S ((m : Int) + (l : Int)) = T := ⟨_, rfl⟩
  have hAl : A.length ≤ 60 := by rw [← hA]; exact Nat.le_trans (lateS_le _ _) hsl
  have hCl : C.length ≤ 60 := by rw [← hC]; exact Nat.le_trans (lateS_le _ _) hsl
  have HAA : Hid (A.Pairwise (· < ·)) := by rw [← hA]; exact late_asc hh.keep.asc _
  have HCA : Hid (C.Pairwise (· < ·)) := by rw [← hC]; exact late_asc hh.keep.asc _
  have HSUB : Hid (∀ z ∈ A, z ∈ C) := fun z hz => by rw [← hA] at hz; rw [← hC]; exact late_mono (by omega) hz
  have HIN : Hid (∀ z ∈ A, (findS S z).isSome = true ∧ InI z) := fun z hz => by
    rw [← hA] at hz
    obtain ⟨x, hx, rfl, _⟩ := late_mem.1 hz
    rw [find_of hh.keep.asc hx]
    exact ⟨rfl, hh.keep.rng x hx⟩
  have HOWN : Hid (∀ x ∈ S, (x.k ∈ A ↔ x.t ≤ (m : Int))) := fun x hx => by rw [← hA]; exact late_own hh.keep.asc hx _
  have HEND : Hid ((keepL S (m : Int) S.length).length = A.length) := by rw [← hA]; exact keepL_end S _
  have HAF := Lib.hid hA
  have HCF := Lib.hid hC
  clear hb hh hF hA hC
  go_wp2_with fail
  refine (late_any w.heap.size w1 pb mb S _ HE1.out.keep (by omega)).mono ?_
  rw [HAF.out]
  rintro e w2 ⟨ro, rc, rfl, hr2, hb2⟩
  have HNA : Hid (∀ k, rowOf ro k → ¬ (k = mb ∨ k = rb)) := fun k hk e => by
    obtain ⟨a, rfl, rfl⟩ := hk
    have := hr2.block.1
    omega
  have HR2 := Lib.hid hr2
  have HE2 := Lib.hid (HE1.out.below hb2)
  have HB2 : Hid (Below w.heap.size w w2) := HB1.out.trans (hb2.mono HB1.out.size)
  clear hr2 hb2
  go_wp2_with fail
  refine (late_any w.heap.size w2 pb mb S _ HE2.out.keep (by omega)).mono ?_
  rw [HCF.out]
  rintro e w3 ⟨qo, qc, rfl, hr3, hb3⟩
  have HRC := Lib.hid hr3
  have HRA : Hid (Row w1.heap.size w3 3 1 ro A.length rc (ints A)) := HR2.out.fr (Fr.of_below (T := none0) hb3) (fun _ _ h => h)
  have HE3 := Lib.hid (HE2.out.below hb3)
  have HB3 : Hid (Below w.heap.size w w3) := HB2.out.trans (hb3.mono HB2.out.size)
  clear hr3 hb3
  go_wp2_with fail
  go_loopw [6, 13, 14] (fun _ s13 s14 wr => ∃ (i a : Nat), i ≤ A.length ∧ a ≤ C.length ∧ s14 = .int .i64 i ∧ s13 = .int .i64 a ∧ Hid (∀ z, A[i]? = some z → ∃ p, C[p]? = some z ∧ a ≤ p) ∧ Hid (Below w3.heap.size w3 wr)) (fun _ _ s14 _ => A.length - (intOf s14).toNat)
  case atStart => exact ⟨0, 0, Nat.zero_le _, Nat.zero_le _, rfl, rfl, fun z hz => by
      obtain ⟨p, hp⟩ := List.mem_iff_getElem?.1 (HSUB.out z (List.mem_of_getElem? hz))
      exact ⟨p, hp, Nat.zero_le _⟩, Below.refl _ _⟩
  case round =>
    obtain ⟨i, a, hi, ha, rfl, rfl, hpl, hbl⟩ := hrel
    by_cases hlt : i < A.length
    · have hz : A[i]? = some A[i] := List.getElem?_eq_getElem hlt
      obtain ⟨p, hp, hap⟩ := hpl.out _ hz
      obtain ⟨hfz, hiz⟩ := HIN.out _ (List.mem_of_getElem? hz)
      have hpC : p < C.length := (List.getElem?_eq_some_iff.1 hp).1
      obtain ⟨ga, rfl⟩ := HRA.out.form (by omega)
      obtain ⟨gc, rfl⟩ := HRC.out.form (by omega)
      have HAI := Lib.hid hz
      have HCP := Lib.hid hp
      have HFZ := Lib.hid hfz
      clear hz hp hfz hpl
      generalize A[i] = z at *
      have hi1 : (i : Int) < (A.length : Int) := by omega
      have hi0 : (0 : Int) ≤ (i : Int) := by omega
      go_wp2_with fail
      go_loopw [13] (fun s13 wr => ∃ (a : Nat), a ≤ p ∧ s13 = .int .i64 a ∧ Hid (Below w3.heap.size w3 wr)) (fun s13 _ => p - (intOf s13).toNat)
      case atStart => exact ⟨a, hap, rfl, hbl.out⟩
      case round =>
        obtain ⟨a, ha2, rfl, hbl2⟩ := hrel
        have hy : C[a]? = some C[a] := List.getElem?_eq_getElem (by omega)
        have HY := Lib.hid hy
        clear hy
        generalize C[a] = y at *
        have da : ∀ j, (wr.drewN j).cell? ⟨ga, i, none⟩ = some (.int .i64 z) := fun _ => (hbl2.out.cell (p := ⟨ga, i, none⟩) HRA.out.lt).trans (row_int HRA.out HAI.out)
        have dc : ∀ j, (wr.drewN j).cell? ⟨gc, a, none⟩ = some (.int .i64 y) := fun _ => (hbl2.out.cell (p := ⟨gc, a, none⟩) HRC.out.lt).trans (row_int HRC.out HY.out)
        have ha3 : (a : Int) < (C.length : Int) := by omega
        have ha4 : (0 : Int) ≤ (a : Int) := by omega
        have ha3d : decide ((a : Int) < (C.length : Int)) = true := decide_eq_true ha3
        by_cases hlt2 : a < p
        · have hyz := asc_at HCA.out HY.out HCP.out hlt2
          have hyzd : decide (y < z) = true := decide_eq_true hyz
          go_wp2_with fail
          go_quiet (fail)
          go_wp2_with fail
          go_roundw
          case rel => exact ⟨a + 1, by omega, by go_num, below_drewN hbl2.out _⟩
          case measure => simp [intOf]; omega
        · have hap2 : a = p := by omega
          subst hap2
          have hyz : y = z := by have h1 := HY.out; rw [HCP.out] at h1; injection h1 with h1; exact h1.symm
          subst hyz
          have hyzd : decide (y < y) = false := decide_eq_false (Int.lt_irrefl _)
          go_wp2_with fail
          go_quiet (fail)
          go_wp2_with fail
          have HBQ : Hid (Below w3.heap.size w3 (wr.drewN nq)) := below_drewN hbl2.out _
          clear da dc ha3d hyzd hlt2 hbl hbl2
          generalize wr.drewN nq = wq at *
          have HE4 : Hid (Env w.heap.size wq.drew pb mb rb S S) := (HE3.out.below HBQ.out).below (Below.refl _ _).drew
          have da : wq.cell? ⟨ga, i, none⟩ = some (.int .i64 y) := (HBQ.out.cell (p := ⟨ga, i, none⟩) HRA.out.lt).trans (row_int HRA.out HAI.out)
          have dc : wq.cell? ⟨gc, a, none⟩ = some (.int .i64 y) := (HBQ.out.cell (p := ⟨gc, a, none⟩) HRC.out.lt).trans (row_int HRC.out HCP.out)
          have e1 : decide ((C.length : Int) ≤ (a : Int)) = false := decide_eq_false (by omega)
          have e1b : decide (C.length ≤ a) = false := decide_eq_false (by omega)
          have HNEXT : Hid (∀ z, A[i + 1]? = some z → ∃ p, C[p]? = some z ∧ a ≤ p) := fun z hz => by
            obtain ⟨p', hp'⟩ := List.mem_iff_getElem?.1 (HSUB.out z (List.mem_of_getElem? hz))
            have h1 := asc_at HAA.out HAI.out hz (Nat.lt_succ_self i)
            exact ⟨p', hp', Nat.le_of_lt (asc_place HCA.out HCP.out hp' h1)⟩
          have HARM : Hid (∀ wx, Below wq.heap.size wq.drew wx → wx.cell? ⟨ga, i, none⟩ = some (.int .i64 y) ∧ wx.cell? ⟨gc, a, none⟩ = some (.int .i64 y) ∧ Below w3.heap.size w3 wx ∧ ∀ j u, A[j]? = some u → wx.cell? ⟨ga, j, none⟩ = some (.int .i64 u)) := fun wx hx => by
            have hb := (Hid.out HBQ).trans (((Below.refl wq.heap.size wq).drew.trans hx).mono HBQ.out.size)
            exact ⟨(hb.cell (p := ⟨ga, i, none⟩) HRA.out.lt).trans (row_int HRA.out HAI.out), (hb.cell (p := ⟨gc, a, none⟩) HRC.out.lt).trans (row_int HRC.out HCP.out), hb, fun j u hj => (hb.cell (p := ⟨ga, j, none⟩) HRA.out.lt).trans (row_int HRA.out hj)⟩
          by_cases hi00 : i = 0
          · have e2 : decide ((0 : Int) < (i : Int)) = false := decide_eq_false (by omega)
            have e2b : decide (0 < i) = false := decide_eq_false (by omega)
            clear hi00
            refine wp_region_noPanic ?_
            refine wp_region_held_drew (S := fun w' => w'.cell? ⟨ga, i, none⟩ = some (.int .i64 y) ∧ w'.cell? ⟨gc, a, none⟩ = some (.int .i64 y)) (by kernel_rfl) ?_ (fun hHeld => ?_)
            · exact ⟨da, dc⟩
            refine wpAnyH_take (i := 0) (v := .int .i64 a) rfl (by kernel_rfl) (by kernel_rfl) (by kernel_rfl) (fun _ _ _ h => (h : False).elim) (Or.inl ⟨by rfl, ?_⟩) hHeld ?_
            · intro w hSw
              try dsimp only at hSw
              go_simp
            change wpAnyH _ _ _ _ _ _ _ (Act.put _ (some 59) _) _
            try simp only [Act.put, List.setIfInBounds_toArray, List.set_cons_zero, List.set_cons_succ]
            refine wpAnyH_take (i := 1) (v := .slice (some ⟨gc, 0, none⟩) C.length qc) rfl (by kernel_rfl) (by kernel_rfl) (by kernel_rfl) (fun _ _ _ h => (h : False).elim) (Or.inl ⟨by rfl, ?_⟩) hHeld ?_
            · intro w hSw
              try dsimp only at hSw
              go_simp
            change wpAnyH _ _ _ _ _ _ _ (Act.put _ (some 60) _) _
            try simp only [Act.put, List.setIfInBounds_toArray, List.set_cons_zero, List.set_cons_succ]
            refine wpAnyH_take (i := 2) (v := .int .i64 C.length) rfl (by kernel_rfl) (by kernel_rfl) (by kernel_rfl) (fun _ _ _ h => (h : False).elim) (Or.inl ⟨by rfl, ?_⟩) hHeld ?_
            · intro w hSw
              try dsimp only at hSw
              go_simp
            change wpAnyH _ _ _ _ _ _ _ (Act.put _ (some 61) _) _
            try simp only [Act.put, List.setIfInBounds_toArray, List.set_cons_zero, List.set_cons_succ]
            refine wpAnyH_take (i := 3) (v := .bool false) rfl (by kernel_rfl) (by kernel_rfl) (by kernel_rfl) (fun _ _ _ h => (h : False).elim) (Or.inl ⟨by rfl, ?_⟩) hHeld ?_
            · intro w hSw
              try dsimp only at hSw
              go_simp
            change wpAnyH _ _ _ _ _ _ _ (Act.put _ (some 62) _) _
            try simp only [Act.put, List.setIfInBounds_toArray, List.set_cons_zero, List.set_cons_succ]
            refine wpAnyH_take (i := 4) (v := .bool false) rfl (by kernel_rfl) (by kernel_rfl) (by kernel_rfl) (fun _ _ _ h => (h : False).elim) (Or.inl ⟨by rfl, ?_⟩) hHeld ?_
            · intro w hSw
              try dsimp only at hSw
              go_simp
            change wpAnyH _ _ _ _ _ _ _ (Act.put _ (some 63) _) _
            try simp only [Act.put, List.setIfInBounds_toArray, List.set_cons_zero, List.set_cons_succ]
            refine wpAnyH_take (i := 5) (v := .slice (some ⟨gc, 0, none⟩) C.length qc) rfl (by kernel_rfl) (by kernel_rfl) (by kernel_rfl) (fun _ _ _ h => (h : False).elim) (Or.inl ⟨by rfl, ?_⟩) hHeld ?_
            · intro w hSw
              try dsimp only at hSw
              go_simp
            change wpAnyH _ _ _ _ _ _ _ (Act.put _ (some 64) _) _
            try simp only [Act.put, List.setIfInBounds_toArray, List.set_cons_zero, List.set_cons_succ]
            refine wpAnyH_take (i := 6) (v := .int .i64 a) rfl (by kernel_rfl) (by kernel_rfl) (by kernel_rfl) (fun _ _ _ h => (h : False).elim) (Or.inl ⟨by rfl, ?_⟩) hHeld ?_
            · intro w hSw
              try dsimp only at hSw
              go_simp
            change wpAnyH _ _ _ _ _ _ _ (Act.put _ (some 65) _) _
            try simp only [Act.put, List.setIfInBounds_toArray, List.set_cons_zero, List.set_cons_succ]
            refine wpAnyH_take (i := 7) (v := .pointer (some ⟨gc, a, none⟩)) rfl (by kernel_rfl) (by kernel_rfl) (by kernel_rfl) (fun _ _ _ h => (h : False).elim) (Or.inl ⟨by rfl, ?_⟩) hHeld ?_
            · intro w hSw
              try dsimp only at hSw
              go_simp
            change wpAnyH _ _ _ _ _ _ _ (Act.put _ (some 66) _) _
            try simp only [Act.put, List.setIfInBounds_toArray, List.set_cons_zero, List.set_cons_succ]
            refine wpAnyH_take (i := 8) (v := .int .i64 y) rfl (by kernel_rfl) (by kernel_rfl) (by kernel_rfl) (fun _ _ _ h => (h : False).elim) (Or.inl ⟨by rfl, ?_⟩) hHeld ?_
            · intro w hSw
              try dsimp only at hSw
              go_simp
            change wpAnyH _ _ _ _ _ _ _ (Act.put _ (some 67) _) _
            try simp only [Act.put, List.setIfInBounds_toArray, List.set_cons_zero, List.set_cons_succ]
            refine wpAnyH_take (i := 9) (v := .slice (some ⟨ga, 0, none⟩) A.length rc) rfl (by kernel_rfl) (by kernel_rfl) (by kernel_rfl) (fun _ _ _ h => (h : False).elim) (Or.inl ⟨by rfl, ?_⟩) hHeld ?_
            · intro w hSw
              try dsimp only at hSw
              go_simp
            change wpAnyH _ _ _ _ _ _ _ (Act.put _ (some 68) _) _
            try simp only [Act.put, List.setIfInBounds_toArray, List.set_cons_zero, List.set_cons_succ]
            refine wpAnyH_take (i := 10) (v := .int .i64 i) rfl (by kernel_rfl) (by kernel_rfl) (by kernel_rfl) (fun _ _ _ h => (h : False).elim) (Or.inl ⟨by rfl, ?_⟩) hHeld ?_
            · intro w hSw
              try dsimp only at hSw
              go_simp
            change wpAnyH _ _ _ _ _ _ _ (Act.put _ (some 69) _) _
            try simp only [Act.put, List.setIfInBounds_toArray, List.set_cons_zero, List.set_cons_succ]
            refine wpAnyH_take (i := 11) (v := .pointer (some ⟨ga, i, none⟩)) rfl (by kernel_rfl) (by kernel_rfl) (by kernel_rfl) (fun _ _ _ h => (h : False).elim) (Or.inl ⟨by rfl, ?_⟩) hHeld ?_
            · intro w hSw
              try dsimp only at hSw
              go_simp
            change wpAnyH _ _ _ _ _ _ _ (Act.put _ (some 70) _) _
            try simp only [Act.put, List.setIfInBounds_toArray, List.set_cons_zero, List.set_cons_succ]
            refine wpAnyH_take (i := 12) (v := .int .i64 y) rfl (by kernel_rfl) (by kernel_rfl) (by kernel_rfl) (fun _ _ _ h => (h : False).elim) (Or.inl ⟨by rfl, ?_⟩) hHeld ?_
            · intro w hSw
              try dsimp only at hSw
              go_simp
            change wpAnyH _ _ _ _ _ _ _ (Act.put _ (some 71) _) _
            try simp only [Act.put, List.setIfInBounds_toArray, List.set_cons_zero, List.set_cons_succ]
            refine wpAnyH_take (i := 13) (v := .bool false) rfl (by kernel_rfl) (by kernel_rfl) (by kernel_rfl) (fun _ _ _ h => (h : False).elim) (Or.inl ⟨by rfl, ?_⟩) hHeld ?_
            · intro w hSw
              try dsimp only at hSw
              go_simp
            change wpAnyH _ _ _ _ _ _ _ (Act.put _ (some 72) _) _
            try simp only [Act.put, List.setIfInBounds_toArray, List.set_cons_zero, List.set_cons_succ]
            refine wpAnyH_take (i := 14) (v := .bool false) rfl (by kernel_rfl) (by kernel_rfl) (by kernel_rfl) (fun _ _ _ h => (h : False).elim) (Or.inl ⟨by rfl, ?_⟩) hHeld ?_
            · intro w hSw
              try dsimp only at hSw
              go_simp
            change wpAnyH _ _ _ _ _ _ _ (Act.put _ (some 73) _) _
            try simp only [Act.put, List.setIfInBounds_toArray, List.set_cons_zero, List.set_cons_succ]
            refine wpAnyH_take (i := 15) (v := .bool false) rfl (by kernel_rfl) (by kernel_rfl) (by kernel_rfl) (fun _ _ _ h => (h : False).elim) (Or.inl ⟨by rfl, ?_⟩) hHeld ?_
            · intro w hSw
              try dsimp only at hSw
              go_simp
            change wpAnyH _ _ _ _ _ _ _ (Act.put _ (some 74) _) _
            try simp only [Act.put, List.setIfInBounds_toArray, List.set_cons_zero, List.set_cons_succ]
            refine wpAnyH_take (i := 16) (v := .pointer (some ⟨pb, 0, none⟩)) rfl (by kernel_rfl) (by kernel_rfl) (by kernel_rfl) (fun _ _ _ h => (h : False).elim) (Or.inl ⟨by rfl, ?_⟩) hHeld ?_
            · intro w hSw
              try dsimp only at hSw
              go_simp
            change wpAnyH _ _ _ _ _ _ _ (Act.put _ (some 75) _) _
            try simp only [Act.put, List.setIfInBounds_toArray, List.set_cons_zero, List.set_cons_succ]
            refine wpAnyH_take (i := 17) (v := .slice (some ⟨ga, 0, none⟩) A.length rc) rfl (by kernel_rfl) (by kernel_rfl) (by kernel_rfl) (fun _ _ _ h => (h : False).elim) (Or.inl ⟨by rfl, ?_⟩) hHeld ?_
            · intro w hSw
              try dsimp only at hSw
              go_simp
            change wpAnyH _ _ _ _ _ _ _ (Act.put _ (some 76) _) _
            try simp only [Act.put, List.setIfInBounds_toArray, List.set_cons_zero, List.set_cons_succ]
            refine wpAnyH_take (i := 18) (v := .int .i64 i) rfl (by kernel_rfl) (by kernel_rfl) (by kernel_rfl) (fun _ _ _ h => (h : False).elim) (Or.inl ⟨by rfl, ?_⟩) hHeld ?_
            · intro w hSw
              try dsimp only at hSw
              go_simp
            change wpAnyH _ _ _ _ _ _ _ (Act.put _ (some 77) _) _
            try simp only [Act.put, List.setIfInBounds_toArray, List.set_cons_zero, List.set_cons_succ]
            refine wpAnyH_take (i := 19) (v := .pointer (some ⟨ga, i, none⟩)) rfl (by kernel_rfl) (by kernel_rfl) (by kernel_rfl) (fun _ _ _ h => (h : False).elim) (Or.inl ⟨by rfl, ?_⟩) hHeld ?_
            · intro w hSw
              try dsimp only at hSw
              go_simp
            change wpAnyH _ _ _ _ _ _ _ (Act.put _ (some 78) _) _
            try simp only [Act.put, List.setIfInBounds_toArray, List.set_cons_zero, List.set_cons_succ]
            refine wpAnyH_take (i := 20) (v := .int .i64 y) rfl (by kernel_rfl) (by kernel_rfl) (by kernel_rfl) (fun _ _ _ h => (h : False).elim) (Or.inl ⟨by rfl, ?_⟩) hHeld ?_
            · intro w hSw
              try dsimp only at hSw
              go_simp
            change wpAnyH _ _ _ _ _ _ _ (Act.put _ (some 79) _) _
            try simp only [Act.put, List.setIfInBounds_toArray, List.set_cons_zero, List.set_cons_succ]
            refine wpAnyH_ready (rs := [21]) (by kernel_rfl) (by simp) ?_
            refine AllReadyH.cons rfl (fun K hK => ?_) AllReadyH.nil
            clear hHeld
            go_simp
            refine (has_any w.heap.size wq.drew pb mb S y HE4.out.keep hiz).mono ?_
            rw [HFZ.out]
            rintro e w5 ⟨rfl, hb5⟩
            obtain ⟨da5, dc5, hb5', _⟩ := HARM.out w5 hb5
            have HB5 := Lib.hid hb5'
            clear hb5 hb5'
            refine hK.out _ _ ⟨da5, dc5⟩ (fun hHeld => ?_)
            clear hK K
            try simp only [Act.put, List.setIfInBounds_toArray, List.set_cons_zero, List.set_cons_succ]
            refine wpAnyH_take (i := 22) (v := .bool false) rfl (by kernel_rfl) (by kernel_rfl) (by kernel_rfl) (fun _ _ _ h => (h : False).elim) (Or.inl ⟨by rfl, ?_⟩) hHeld ?_
            · intro w hSw
              try dsimp only at hSw
              go_simp
            change wpAnyH _ _ _ _ _ _ _ (Act.put _ (some 81) _) _
            try simp only [Act.put, List.setIfInBounds_toArray, List.set_cons_zero, List.set_cons_succ]
            refine wpAnyH_take (i := 23) (v := .bool false) rfl (by kernel_rfl) (by kernel_rfl) (by kernel_rfl) (fun _ _ _ h => (h : False).elim) (Or.inl ⟨by rfl, ?_⟩) hHeld ?_
            · intro w hSw
              try dsimp only at hSw
              go_simp
            change wpAnyH _ _ _ _ _ _ _ (Act.put _ (some 82) _) _
            try simp only [Act.put, List.setIfInBounds_toArray, List.set_cons_zero, List.set_cons_succ]
            refine wpAnyH_take (i := 24) (v := .bool false) rfl (by kernel_rfl) (by kernel_rfl) (by kernel_rfl) (fun _ _ _ h => (h : False).elim) (Or.inl ⟨by rfl, ?_⟩) hHeld ?_
            · intro w hSw
              try dsimp only at hSw
              go_simp
            change wpAnyH _ _ _ _ _ _ _ (Act.put _ (some 83) _) _
            try simp only [Act.put, List.setIfInBounds_toArray, List.set_cons_zero, List.set_cons_succ]
            refine wpAnyH_take (i := 25) (v := .int .i64 i) rfl (by kernel_rfl) (by kernel_rfl) (by kernel_rfl) (fun _ _ _ h => (h : False).elim) (Or.inl ⟨by rfl, ?_⟩) hHeld ?_
            · intro w hSw
              try dsimp only at hSw
              go_simp
            change wpAnyH _ _ _ _ _ _ _ (Act.put _ (some 84) _) _
            try simp only [Act.put, List.setIfInBounds_toArray, List.set_cons_zero, List.set_cons_succ]
            refine wpAnyH_take (i := 26) (v := .bool false) rfl (by kernel_rfl) (by kernel_rfl) (by kernel_rfl) (fun _ _ _ h => (h : False).elim) (Or.inl ⟨by rfl, ?_⟩) hHeld ?_
            · intro w hSw
              try dsimp only at hSw
              go_simp
            change wpAnyH _ _ _ _ _ _ _ (Act.put _ (some 85) _) _
            try simp only [Act.put, List.setIfInBounds_toArray, List.set_cons_zero, List.set_cons_succ]
            refine wpAnyH_take (i := 27) (v := .bool false) rfl (by kernel_rfl) (by kernel_rfl) (by kernel_rfl) (fun _ _ _ h => (h : False).elim) (Or.inl ⟨by rfl, ?_⟩) hHeld ?_
            · intro w hSw
              try dsimp only at hSw
              go_simp
            change wpAnyH _ _ _ _ _ _ _ (Act.put _ (some 86) _) _
            try simp only [Act.put, List.setIfInBounds_toArray, List.set_cons_zero, List.set_cons_succ]
            refine wpAnyH_take (i := 28) (v := undef) rfl (by kernel_rfl) (by kernel_rfl) (by kernel_rfl) (fun _ _ _ h => (h : False).elim) (Or.inr ⟨by rfl, rfl⟩) hHeld ?_
            change wpAnyH _ _ _ _ _ _ _ (Act.put _ (some 87) _) _
            try simp only [Act.put, List.setIfInBounds_toArray, List.set_cons_zero, List.set_cons_succ]
            refine wpAnyH_take (i := 29) (v := undef) rfl (by kernel_rfl) (by kernel_rfl) (by kernel_rfl) (fun _ _ _ h => (h : False).elim) (Or.inr ⟨by rfl, rfl⟩) hHeld ?_
            change wpAnyH _ _ _ _ _ _ _ (Act.put _ (some 88) _) _
            try simp only [Act.put, List.setIfInBounds_toArray, List.set_cons_zero, List.set_cons_succ]
            refine wpAnyH_take (i := 30) (v := undef) rfl (by kernel_rfl) (by kernel_rfl) (by kernel_rfl) (fun _ _ _ h => (h : False).elim) (Or.inr ⟨by rfl, rfl⟩) hHeld ?_
            change wpAnyH _ _ _ _ _ _ _ (Act.put _ (some 89) _) _
            try simp only [Act.put, List.setIfInBounds_toArray, List.set_cons_zero, List.set_cons_succ]
            refine wpAnyH_take (i := 31) (v := undef) rfl (by kernel_rfl) (by kernel_rfl) (by kernel_rfl) (fun _ _ _ h => (h : False).elim) (Or.inr ⟨by rfl, rfl⟩) hHeld ?_
            change wpAnyH _ _ _ _ _ _ _ (Act.put _ (some 90) _) _
            try simp only [Act.put, List.setIfInBounds_toArray, List.set_cons_zero, List.set_cons_succ]
            refine wpAnyH_take (i := 32) (v := undef) rfl (by kernel_rfl) (by kernel_rfl) (by kernel_rfl) (fun _ _ _ h => (h : False).elim) (Or.inr ⟨by rfl, rfl⟩) hHeld ?_
            change wpAnyH _ _ _ _ _ _ _ (Act.put _ (some 91) _) _
            try simp only [Act.put, List.setIfInBounds_toArray, List.set_cons_zero, List.set_cons_succ]
            refine wpAnyH_take (i := 33) (v := undef) rfl (by kernel_rfl) (by kernel_rfl) (by kernel_rfl) (fun _ _ _ h => (h : False).elim) (Or.inr ⟨by rfl, rfl⟩) hHeld ?_
            change wpAnyH _ _ _ _ _ _ _ (Act.put _ (some 92) _) _
            try simp only [Act.put, List.setIfInBounds_toArray, List.set_cons_zero, List.set_cons_succ]
            refine wpAnyH_take (i := 34) (v := undef) rfl (by kernel_rfl) (by kernel_rfl) (by kernel_rfl) (fun _ _ _ h => (h : False).elim) (Or.inr ⟨by rfl, rfl⟩) hHeld ?_
            change wpAnyH _ _ _ _ _ _ _ (Act.put _ (some 93) _) _
            try simp only [Act.put, List.setIfInBounds_toArray, List.set_cons_zero, List.set_cons_succ]
            refine wpAnyH_take (i := 35) (v := undef) rfl (by kernel_rfl) (by kernel_rfl) (by kernel_rfl) (fun _ _ _ h => (h : False).elim) (Or.inr ⟨by rfl, rfl⟩) hHeld ?_
            change wpAnyH _ _ _ _ _ _ _ (Act.put _ (some 94) _) _
            try simp only [Act.put, List.setIfInBounds_toArray, List.set_cons_zero, List.set_cons_succ]
            refine wpAnyH_take (i := 36) (v := undef) rfl (by kernel_rfl) (by kernel_rfl) (by kernel_rfl) (fun _ _ _ h => (h : False).elim) (Or.inr ⟨by rfl, rfl⟩) hHeld ?_
            change wpAnyH _ _ _ _ _ _ _ (Act.put _ (some 95) _) _
            try simp only [Act.put, List.setIfInBounds_toArray, List.set_cons_zero, List.set_cons_succ]
            refine wpAnyH_take (i := 37) (v := undef) rfl (by kernel_rfl) (by kernel_rfl) (by kernel_rfl) (fun _ _ _ h => (h : False).elim) (Or.inr ⟨by rfl, rfl⟩) hHeld ?_
            change wpAnyH _ _ _ _ _ _ _ (Act.put _ (some 96) _) _
            try simp only [Act.put, List.setIfInBounds_toArray, List.set_cons_zero, List.set_cons_succ]
            refine wpAnyH_take (i := 38) (v := .bool false) rfl (by kernel_rfl) (by kernel_rfl) (by kernel_rfl) (fun _ _ _ h => (h : False).elim) (Or.inl ⟨by rfl, ?_⟩) hHeld ?_
            · intro w hSw
              try dsimp only at hSw
              go_simp
            change wpAnyH _ _ _ _ _ _ _ (Act.put _ (some 97) _) _
            try simp only [Act.put, List.setIfInBounds_toArray, List.set_cons_zero, List.set_cons_succ]
            refine wpAnyH_take (i := 39) (v := .bool false) rfl (by kernel_rfl) (by kernel_rfl) (by kernel_rfl) (fun _ _ _ h => (h : False).elim) (Or.inl ⟨by rfl, ?_⟩) hHeld ?_
            · intro w hSw
              try dsimp only at hSw
              go_simp
            change wpAnyH _ _ _ _ _ _ _ (Act.put _ (some 98) _) _
            try simp only [Act.put, List.setIfInBounds_toArray, List.set_cons_zero, List.set_cons_succ]
            refine wpAnyH_done (by kernel_rfl) ?_ _
            refine NoPanic.normal ?_
            clear hHeld
            go_wp2_with fail
            go_roundw
            case rel => exact ⟨i + 1, a, by omega, by omega, by go_num, rfl, HNEXT.out, HB5.out⟩
            case measure => simp [intOf]; omega
          · obtain ⟨i', hi'⟩ : ∃ i', i = i' + 1 := ⟨i - 1, by omega⟩
            have hx : A[i']? = some A[i'] := List.getElem?_eq_getElem (by omega)
            have hxy := asc_at HAA.out hx HAI.out (by omega)
            have HXI := Lib.hid hx
            have db : wq.cell? ⟨ga, i', none⟩ = some (.int .i64 A[i']) := (HBQ.out.cell (p := ⟨ga, i', none⟩) HRA.out.lt).trans (row_int HRA.out hx)
            clear hx
            generalize A[i'] = x at *
            have e2 : decide ((0 : Int) < (i : Int)) = true := decide_eq_true (by omega)
            have e2b : decide (0 < i) = true := decide_eq_true (by omega)
            have e2c : 0 < i := by omega
            have e3 : decide (y ≤ x) = false := decide_eq_false (by omega)
            have e4 : IntKind.i64.wrap ((i : Int) - 1) = (i' : Int) := by rw [IntWalk.i64_in _ (by omega)]; omega
            have e5 : (0 : Int) ≤ (i' : Int) := by omega
            have e6 : (i' : Int) < (A.length : Int) := by omega
            clear hi' hi00
            go_region_held3 (fun w' => w'.cell? ⟨ga, i, none⟩ = some (.int .i64 y) ∧ w'.cell? ⟨gc, a, none⟩ = some (.int .i64 y) ∧ w'.cell? ⟨ga, i', none⟩ = some (.int .i64 x)) (go_keep) (first
              | (go_at_call 11
                 refine (has_any w.heap.size wq.drew pb mb S y HE4.out.keep hiz).mono ?_
                 rw [HFZ.out]
                 rintro e w5 ⟨rfl, hb5⟩
                 obtain ⟨da5, dc5, hb5', hd⟩ := HARM.out w5 hb5
                 have db5 := hd i' x HXI.out
                 have HB5 := Lib.hid hb5'
                 clear hb5 hb5' hd))
            all_goals
              go_wp2_with fail
              go_roundw
              case rel => exact ⟨i + 1, a, by omega, by omega, by go_num, rfl, HNEXT.out, HB5.out⟩
              case measure => simp [intOf]; omega
    · have HBE := Lib.hid hbl.out
      have hie : i = A.length := by omega
      subst hie
      clear hpl hbl
      go_wp2_with fail
      have HEr := Lib.hid (HE3.out.below HBE.out)
      have HBr : Hid (Below w.heap.size w wr) := HB3.out.trans (HBE.out.mono HB3.out.size)
      have HRr : Hid (Row w1.heap.size wr 3 1 ro A.length rc (ints A)) := HRA.out.fr (Fr.of_below (T := none0) HBE.out) (fun _ _ h => h)
      clear HBE HRA HRC HE3 HB3 HR2 HE2 HB2 HE1 HB1
      go_loopw [6, 15, 16, 17, 18] (fun _ s15 _ _ _ wr => ∃ (j : Nat), j ≤ S.length ∧ s15 = .int .i64 j ∧ Hid (Env w.heap.size wr pb mb rb (keepL S (m : Int) j) S) ∧ Hid (Below w.heap.size w wr) ∧ Hid (Row w1.heap.size wr 3 1 ro A.length rc (ints A))) (fun _ s15 _ _ _ _ => S.length - (intOf s15).toNat)
      case atStart => exact ⟨0, Nat.zero_le _, rfl, by rw [keepL_zero]; exact HEr.out, HBr.out, HRr.out⟩
      case round =>
        obtain ⟨j, hj, rfl, he, hbq, hrow⟩ := hrel
        obtain ⟨lo, lc, hr⟩ := he.out.ref
        have cr := hr.c0
        have HROW := Lib.hid hr.row
        by_cases hjl : j < S.length
        · obtain ⟨g, rfl⟩ := hr.row.form (by omega)
          have hx : S[j]? = some S[j] := List.getElem?_eq_getElem hjl
          have HXJ := Lib.hid hx
          have l44 : (Instr.loadAt 44 (.pointer (some ⟨g, j * 19, none⟩))).run Try.prog wr = .ok (.agg (icA S[j])) wr := run_loadAt_mid wr g (j * 19) 44 (icA S[j]).toList _ (fun q v hq => (rowI_cell HROW.out hx (List.getElem?_eq_some_iff.1 hq).1).trans hq) Try.underlying44 rfl info44
          clear hx hr
          generalize S[j] = x at *
          have hj1 : (j : Int) < (S.length : Int) := by omega
          have hj0 : (0 : Int) ≤ (j : Int) := by omega
          have HB1 : Hid (Blk (wr.alloc (.cells (icA default) 44)) wr.heap.size 44 (icA default)) := Blk.new _ _ _
          go_wp2_with (refine wpList_store_blk rfl 44 (.tmp 16) (.tmp 114) rfl wr.heap.size 44 _ (icA x) rfl rfl HB1.out rfl info44 (icA_one _) ?_)
          intro w4 hb4 hf4
          have hB4 : Below wr.heap.size wr w4 := ((Fr.refl none0 wr).alloc _ |>.trans (hf4.mono (T' := fun k => wr.heap.size ≤ k) (fun k _ e => by omega)) (fun k hk h => absurd hk (Nat.not_lt_of_le h))).below (Nat.le_refl _) (fun _ h => h.elim)
          have HE4 := Lib.hid (he.out.below hB4)
          have HB4 : Hid (Below w.heap.size w w4) := hbq.out.trans (hB4.mono hbq.out.size)
          have HR4 : Hid (Row w1.heap.size w4 3 1 ro A.length rc (ints A)) := hrow.out.fr (Fr.of_below (T := none0) hB4) (fun _ _ h => h)
          have HBK := Lib.hid hb4
          clear hB4 hf4 hb4 l44 HB1 he hbq hrow cr HROW
          generalize wr.heap.size = xb at *
          go_wp2_with fail
          go_loopw [17, 18] (fun s17 s18 wr => ∃ q : Nat, q ≤ A.length ∧ s18 = .int .i64 q ∧ s17 = .bool (decide (x.k ∈ A.take q)) ∧ Hid (Below w4.heap.size w4 wr)) (fun _ s18 _ => A.length - (intOf s18).toNat)
          case atStart => exact ⟨0, Nat.zero_le _, rfl, by simp, Below.refl _ _⟩
          case round =>
            obtain ⟨q, hq, rfl, rfl, hbv⟩ := hrel
            by_cases hql : q < A.length
            · obtain ⟨ga, rfl⟩ := HR4.out.form (by omega)
              have hy : A[q]? = some A[q] := List.getElem?_eq_getElem hql
              have hstep : decide (x.k ∈ A.take (q + 1)) = (decide (x.k ∈ A.take q) || decide (A[q] = x.k)) := by
                rw [List.take_add_one, hy, Option.toList_some]
                rw [Bool.eq_iff_iff]
                simp only [List.mem_append, List.mem_singleton, Bool.or_eq_true, decide_eq_true_eq]
                exact or_congr Iff.rfl eq_comm
              have da : ∀ j, (wr.drewN j).cell? ⟨ga, q, none⟩ = some (.int .i64 A[q]) := fun _ => (hbv.out.cell (p := ⟨ga, q, none⟩) HR4.out.lt).trans (row_int HR4.out hy)
              have dx : ∀ j, (wr.drewN j).cell? ⟨xb, 0, none⟩ = some (.int .i64 x.k) := fun _ => (hbv.out.cell (p := ⟨xb, 0, none⟩) HBK.out.lt).trans (HBK.out.cell 0)
              have HST := Lib.hid hstep
              clear hy hstep
              generalize A[q] = y at *
              have hq1 : (q : Int) < (A.length : Int) := by omega
              have hq0 : (0 : Int) ≤ (q : Int) := by omega
              cases hlb : decide (x.k ∈ A.take q) with
              | true =>
                rw [hlb] at HST
                clear hlb
                go_wp2_with fail
                go_quiet (fail)
                go_wp2_with fail
                go_roundw
                case rel => exact ⟨q + 1, by omega, by go_num, by rw [HST.out]; rfl, below_drewN hbv.out _⟩
                case measure => simp [intOf]; omega
              | false =>
                rw [hlb] at HST
                clear hlb
                go_wp2_with fail
                go_quiet (fail)
                go_wp2_with fail
                go_roundw
                case rel => exact ⟨q + 1, by omega, by go_num, by rw [HST.out]; first | rfl | simp [Int.beq_eq_decide] | (by_cases e : y = x.k <;> simp [e]), below_drewN hbv.out _⟩
                case measure => simp [intOf]; omega
            · have hqe : q = A.length := by omega
              subst hqe
              have hlate : decide (x.k ∈ A.take A.length) = decide (x.t ≤ (m : Int)) := by
                rw [List.take_of_length_le (Nat.le_refl _)]
                exact decide_eq_decide.2 (HOWN.out x (List.mem_of_getElem? HXJ.out))
              rw [hlate]
              clear hlate
              have HE5 := Lib.hid (HE4.out.below hbv.out)
              have HB5 : Hid (Below w.heap.size w wr) := HB4.out.trans (hbv.out.mono HB4.out.size)
              have HR5 : Hid (Row w1.heap.size wr 3 1 ro A.length rc (ints A)) := HR4.out.fr (Fr.of_below (T := none0) hbv.out) (fun _ _ h => h)
              have hbk : Blk wr xb 44 (icA x) := HBK.out.below hbv.out HBK.out.lt
              have c0 : wr.cell? ⟨xb, 0, none⟩ = some (.int .i64 x.k) := hbk.cell 0
              have c1 : wr.cell? ⟨xb, 1, none⟩ = some (.string x.u) := hbk.cell 1
              have l39 : (Instr.loadAt 39 (.pointer (some ⟨xb, 2, none⟩))).run Try.prog wr = .ok (.agg (gcs x.g)) wr := run_loadAt_mid wr xb 2 39 (gcs x.g).toList _ (fun j v hj => (hbk.cell _).trans (icA_guid x j v hj)) Try.underlying39 rfl (by kernel_rfl)
              have hik : InI x.k := HRNG.out x (List.mem_of_getElem? HXJ.out)
              have hbo := back_own (keepL_find HASC.out (m : Int) HXJ.out) (m : Int)
              have HBO := Lib.hid hbo
              clear hbk hbv hbo HE4 HB4 HR4 HBK
              go_wp2_with fail
              refine (back_any w.heap.size wr pb mb _ x.k x.u x.g _ HE5.out.keep hik).mono ?_
              rw [HBO.out]
              by_cases ht : (m : Int) < x.t
              · rw [if_pos ht, ← keepL_go HASC.out HXJ.out (by omega)]
                rintro e w6 ⟨rfl, hs6⟩
                have hst := HE5.out.kstep hs6
                have HE6 := Lib.hid hst.1
                have HB6 : Hid (Below w.heap.size w w6) := HB5.out.trans (hst.bel HB5.out.size)
                have HR6 : Hid (Row w1.heap.size w6 3 1 ro A.length rc (ints A)) := HR5.out.fr hst.2 HNA.out
                have htd : decide (x.t ≤ (m : Int)) = false := decide_eq_false (by omega)
                clear hs6 hst l39 c0 c1
                go_wp2_with fail
                go_roundw
                case rel => exact ⟨j + 1, by omega, by go_num, HE6.out, HB6.out, HR6.out⟩
                case measure => simp [intOf]; omega
              · rw [if_neg ht, ← keepL_stay HXJ.out (by omega)]
                rintro e w6 ⟨rfl, hs6⟩
                have hst := HE5.out.kstep hs6
                have HE6 := Lib.hid hst.1
                have HB6 : Hid (Below w.heap.size w w6) := HB5.out.trans (hst.bel HB5.out.size)
                have HR6 : Hid (Row w1.heap.size w6 3 1 ro A.length rc (ints A)) := HR5.out.fr hst.2 HNA.out
                have htd : decide (x.t ≤ (m : Int)) = true := decide_eq_true (by omega)
                clear hs6 hst l39 c0 c1
                go_wp2_with fail
                go_roundw
                case rel => exact ⟨j + 1, by omega, by go_num, HE6.out, HB6.out, HR6.out⟩
                case measure => simp [intOf]; omega
        · have hje : j = S.length := by omega
          subst hje
          clear hr HROW
          go_wp2_with fail
          refine (len_any w.heap.size wr pb mb _ he.out.keep).mono ?_
          rw [HEND.out]
          rintro e w5 ⟨rfl, rfl⟩
          go_wp2_with fail
          refine (works_any wr).mono ?_
          rintro e w6 ⟨rfl, hb6⟩
          have HB6 : Hid (Below w.heap.size w w6) := hbq.out.trans (hb6.mono hbq.out.size)
          clear hb6
          go_wp2_with fail
          go_ret
          exact ⟨rfl, HB6.out⟩
end Go.Proofs.Ytbgjajhnjkldkaa
