/- What a park is in memory; contracts of its closures, of off, place and look, by walks. -/
import Derived.Test.YtceomfdppbmebaaS
namespace Go.Proofs.Ytceomfdppbmebaa
open Go.RowKit

/-- A thing that waits. -/
structure It where
  n : Nat
  conn : Int
  id : Nat
  x : Value
def cells (it : It) : List Value := [.int .u64 (it.n : Int), .int .i64 it.conn, .int .u64 (it.id : Int), it.x]
theorem cells_len (it : It) : (cells it).length = 4 := rfl
def flat (S : List It) : List Value := S.flatMap cells
theorem flat_length (S : List It) : (flat S).length = S.length * 4 := flat_len cells 4 cells_len S
theorem flat_at {S : List It} {i : Nat} {it : It} (h : S[i]? = some it) {j : Nat} (hj : j < 4) : (flat S)[i * 4 + j]? = (cells it)[j]? := flat_get cells 4 cells_len S i j it h hj

/-- The row of a park's things: their cells. -/
theorem row_cells {B : Nat} {w : World} {T g n cap : Nat} {S : List It} (h : Row B w T 4 (some ⟨g, 0, none⟩) n cap (flat S)) {i : Nat} {it : It} (hi : S[i]? = some it) :
    w.cell? ⟨g, i * 4, none⟩ = some (.int .u64 (it.n : Int)) ∧ w.cell? ⟨g, i * 4 + 1, none⟩ = some (.int .i64 it.conn) ∧ w.cell? ⟨g, i * 4 + 2, none⟩ = some (.int .u64 (it.id : Int)) ∧ w.cell? ⟨g, i * 4 + 3, none⟩ = some it.x := by
  have hl := h.len
  rw [flat_length] at hl
  have hil : i < S.length := (List.getElem?_eq_some_iff.1 hi).1
  have hc : ∀ j, j < 4 → w.cell? ⟨g, i * 4 + j, none⟩ = (cells it)[j]? := fun j hj => (h.cell (by omega)).trans (flat_at hi hj)
  exact ⟨hc 0 (by omega), hc 1 (by omega), hc 2 (by omega), hc 3 (by omega)⟩

theorem nat_beq (m n : Nat) : ((m : Int) == (n : Int)) = decide (m = n) := by
  rw [Bool.eq_iff_iff]
  simp only [beq_iff_eq, decide_eq_true_eq]
  omega
theorem and_beq (c cn : Int) (id n : Nat) (h : c = cn) : ((id : Int) == (n : Int)) = decide (c = cn ∧ id = n) := by
  rw [Bool.eq_iff_iff]
  simp only [beq_iff_eq, decide_eq_true_eq]
  omega
theorem and_no (c cn : Int) (id n : Nat) (h : ¬ c = cn) : false = decide (c = cn ∧ id = n) := by rw [Bool.eq_iff_iff]; simp [h]

/-- The place of the first thing for which p holds; -1: there is none. -/
def firstAt (p : It → Bool) (S : List It) : Int := match S.findIdx? p with | some i => (i : Int) | none => -1
theorem firstAt_hit {p : It → Bool} {S : List It} {k : Nat} {it : It} (hk : S[k]? = some it) (hp : p it = true) (hb : ∀ j it', j < k → S[j]? = some it' → p it' = false) : firstAt p S = k := by
  unfold firstAt
  obtain ⟨hl, he⟩ := List.getElem?_eq_some_iff.1 hk
  have : S.findIdx? p = some k := by
    rw [List.findIdx?_eq_some_iff_getElem]
    refine ⟨hl, by rw [he]; exact hp, fun j hj => ?_⟩
    have := hb j (S[j]'(by omega)) hj (List.getElem?_eq_getElem (by omega))
    simp [this]
  rw [this]
theorem firstAt_miss {p : It → Bool} {S : List It} (hb : ∀ j it', j < S.length → S[j]? = some it' → p it' = false) : firstAt p S = -1 := by
  unfold firstAt
  have : S.findIdx? p = none := by
    rw [List.findIdx?_eq_none_iff]
    intro x hx
    obtain ⟨j, hj, he⟩ := List.mem_iff_getElem.1 hx
    exact hb j x hj (by rw [← he]; exact List.getElem?_eq_getElem hj)
  rw [this]

/-- What a thing may be. -/
def IsX (x : Value) : Prop := ∃ z, x = .int .i64 z
theorem IsX.one {x : Value} (h : IsX x) : x.oneCell' = true := by obtain ⟨z, rfl⟩ := h; rfl

theorem off_any (w : World) (pb : Nat) (c0 : w.cell? ⟨pb, 0, none⟩ = some (.bool true)) : Calls Try.prog 26 #[.pointer (some ⟨pb, 0, none⟩)] w fun e w' => e = .returned (.bool false) ∧ w = w' := by
  go_enter Try.func26, Try.ntmps26
  go_wp2
  go_ret
  exact ⟨rfl, rfl⟩

theorem lk_any (w : World) (n m : Nat) (c : Int) (id : Nat) (x : Value) (hx : IsX x) (b : Nat) (cb : w.cell? ⟨b, 0, none⟩ = some (.int .u64 (n : Int))) :
    Calls Try.prog 40 #[.agg #[.int .u64 (m : Int), .int .i64 c, .int .u64 (id : Int), x], .pointer (some ⟨b, 0, none⟩)] w fun e w' => e = .returned (.bool (decide (m = n))) ∧ Below w.heap.size w w' := by
  have hb : b < w.heap.size := World.block_lt_of_cell? w _ cb
  obtain ⟨z, rfl⟩ := hx
  go_enter Try.func40, Try.ntmps40
  go_wp2
  go_ret
  exact ⟨congrArg (fun q => Ending.returned (.bool q)) (nat_beq m n), (Below.refl _ _).alloc (Nat.le_refl _) _⟩

theorem fd_any (w : World) (cn : Int) (n m : Nat) (c : Int) (id : Nat) (x : Value) (hx : IsX x) (b b2 : Nat) (cb : w.cell? ⟨b, 0, none⟩ = some (.int .i64 cn)) (cb2 : w.cell? ⟨b2, 0, none⟩ = some (.int .u64 (n : Int))) :
    Calls Try.prog 29 #[.agg #[.int .u64 (m : Int), .int .i64 c, .int .u64 (id : Int), x], .pointer (some ⟨b, 0, none⟩), .pointer (some ⟨b2, 0, none⟩)] w fun e w' => e = .returned (.bool (decide (c = cn ∧ id = n))) ∧ Below w.heap.size w w' := by
  have hb : b < w.heap.size := World.block_lt_of_cell? w _ cb
  have hb2 : b2 < w.heap.size := World.block_lt_of_cell? w _ cb2
  obtain ⟨z, rfl⟩ := hx
  obtain ⟨r, hr⟩ : ∃ r, decide (c = cn ∧ id = n) = r := ⟨_, rfl⟩
  rw [hr]
  by_cases h1 : c = cn
  · have HR := Lib.hid ((and_beq c cn id n h1).trans hr)
    subst h1
    clear hr
    go_enter Try.func29, Try.ntmps29
    go_wp2
    go_ret
    exact ⟨congrArg (fun q => Ending.returned (.bool q)) HR.out, (Below.refl _ _).alloc (Nat.le_refl _) _⟩
  · have h2 : (c == cn) = false := by simpa using h1
    have HR := Lib.hid ((and_no c cn id n h1).trans hr)
    clear hr
    go_enter Try.func29, Try.ntmps29
    go_wp2
    go_ret
    exact ⟨congrArg (fun q => Ending.returned (.bool q)) HR.out, (Below.refl _ _).alloc (Nat.le_refl _) _⟩

theorem place_lk (w : World) (pb B : Nat) (ao : Option Addr) (cap : Nat) (S : List It) (n b : Nat) (c2 : w.cell? ⟨pb, 2, none⟩ = some (.slice ao S.length cap)) (hr : Row B w 60 4 ao S.length cap (flat S)) (hx : ∀ it ∈ S, IsX it.x) (hS : S.length ≤ 1000)
    (cb : w.cell? ⟨b, 0, none⟩ = some (.int .u64 (n : Int))) :
    Calls Try.prog 28 #[.pointer (some ⟨pb, 0, none⟩), .func (Fn.func 40) #[] #[.pointer (some ⟨b, 0, none⟩)]] w fun e w' => e = .returned (.int .i64 (firstAt (fun it => decide (it.n = n)) S)) ∧ Below w.heap.size w w' := by
  have hpb : pb < w.heap.size := World.block_lt_of_cell? w _ c2
  have hbl : b < w.heap.size := World.block_lt_of_cell? w _ cb
  obtain ⟨r, hr0⟩ : ∃ r, firstAt (fun it => decide (it.n = n)) S = r := ⟨_, rfl⟩
  rw [hr0]
  have HR := Lib.hid hr0
  clear hr0
  go_enter Try.func28, Try.ntmps28
  go_wp2_with fail
  go_loopw [5, 6, 12] (fun _ _ s wr => ∃ k : Nat, k ≤ S.length ∧ s = .int .i64 k ∧ Hid (Fr none0 w wr) ∧ Hid (∀ j it', j < k → S[j]? = some it' → decide (it'.n = n) = false)) (fun _ _ s _ => S.length - (intOf s).toNat)
  case atStart => exact ⟨0, Nat.zero_le _, rfl, Fr.refl _ _, fun j it' hj => absurd hj (Nat.not_lt_zero _)⟩
  case round =>
    obtain ⟨k, hk, rfl, hf, hno⟩ := hrel
    by_cases hlt : k < S.length
    · obtain ⟨g, rfl⟩ := hr.form (by omega)
      have hk2 : S[k]? = some S[k] := List.getElem?_eq_getElem hlt
      have hx1 : IsX (S[k]).x := hx _ (List.getElem_mem hlt)
      obtain ⟨d0, d1, d2, d3⟩ := row_cells (hr.fr hf.out (fun _ _ h => h)) hk2
      have HK := Lib.hid hk2
      have hbr : wr.cell? ⟨b, 0, none⟩ = some (.int .u64 (n : Int)) := (hf.out.cell (p := ⟨b, 0, none⟩) hbl (fun h => h)).trans cb
      have hbs : b < wr.heap.size := Nat.lt_of_lt_of_le hbl hf.out.size
      have hgs : g < wr.heap.size := World.block_lt_of_cell? wr _ d0
      clear hk2
      generalize S[k] = it at *
      obtain ⟨im, ic, iid, ix⟩ := it
      dsimp only at d0 d1 d2 d3 hx1
      obtain ⟨z, rfl⟩ := hx1
      go_wp2_with fail
      refine (lk_any _ n im ic iid _ ⟨z, rfl⟩ b ?_).mono ?_
      · go_simp
      rintro e w2 ⟨rfl, hb2⟩
      have hf2 : Fr none0 w w2 := (hf.out.alloc _).step (Fr.of_below hb2)
      by_cases hq : im = n
      · have hqd : decide (im = n) = true := by simpa using hq
        have hk0 : (k : Int) = r := (firstAt_hit HK.out hqd hno.out).symm.trans HR.out
        have HK0 := Lib.hid hk0
        rw [hqd]
        clear HR hk0 HK hno hqd hq d0 d1 d2 d3 hbr hr cb c2 hx
        go_wp2_with fail
        go_ret
        exact ⟨congrArg (fun q => Ending.returned (.int .i64 q)) HK0.out, hf2.below (Nat.le_refl _) (fun _ h => h.elim)⟩
      · have hqd : decide (im = n) = false := by simpa using hq
        have hno2 : Hid (∀ j it', j < k + 1 → S[j]? = some it' → decide (it'.n = n) = false) := fun j it' hj hj' => by
          rcases Nat.lt_succ_iff_lt_or_eq.1 hj with h | h
          · exact hno.out j it' h hj'
          · subst h; rw [HK.out] at hj'; injection hj' with hj'; subst hj'; exact hqd
        rw [hqd]
        clear HK hno hqd hq d0 d1 d2 d3 hbr hr cb c2 hx
        go_wp2_with fail
        go_roundw
        case rel => exact ⟨k + 1, by omega, by go_num, hf2, hno2.out⟩
        case measure => simp [intOf]; omega
    · have hke : k = S.length := by omega
      have hk0 : (-1 : Int) = r := (firstAt_miss (fun j it' hj => hno.out j it' (by omega))).symm.trans HR.out
      have HK0 := Lib.hid hk0
      clear HR hk0 hno hr cb c2 hx
      go_wp2_with fail
      go_ret
      exact ⟨congrArg (fun q => Ending.returned (.int .i64 q)) HK0.out, hf.out.below (Nat.le_refl _) (fun _ h => h.elim)⟩
/-- What a thing may be. -/
def IsXS (x : Value) : Prop := ∃ z, x = .string z
theorem IsXS.one {x : Value} (h : IsXS x) : x.oneCell' = true := by obtain ⟨z, rfl⟩ := h; rfl

theorem off_anyS (w : World) (pb : Nat) (c0 : w.cell? ⟨pb, 0, none⟩ = some (.bool true)) : Calls Try.prog 36 #[.pointer (some ⟨pb, 0, none⟩)] w fun e w' => e = .returned (.bool false) ∧ w = w' := by
  go_enter Try.func36, Try.ntmps36
  go_wp2
  go_ret
  exact ⟨rfl, rfl⟩

theorem lk_anyS (w : World) (n m : Nat) (c : Int) (id : Nat) (x : Value) (hx : IsXS x) (b : Nat) (cb : w.cell? ⟨b, 0, none⟩ = some (.int .u64 (n : Int))) :
    Calls Try.prog 42 #[.agg #[.int .u64 (m : Int), .int .i64 c, .int .u64 (id : Int), x], .pointer (some ⟨b, 0, none⟩)] w fun e w' => e = .returned (.bool (decide (m = n))) ∧ Below w.heap.size w w' := by
  have hb : b < w.heap.size := World.block_lt_of_cell? w _ cb
  obtain ⟨z, rfl⟩ := hx
  go_enter Try.func42, Try.ntmps42
  go_wp2
  go_ret
  exact ⟨congrArg (fun q => Ending.returned (.bool q)) (nat_beq m n), (Below.refl _ _).alloc (Nat.le_refl _) _⟩

theorem fd_anyS (w : World) (cn : Int) (n m : Nat) (c : Int) (id : Nat) (x : Value) (hx : IsXS x) (b b2 : Nat) (cb : w.cell? ⟨b, 0, none⟩ = some (.int .i64 cn)) (cb2 : w.cell? ⟨b2, 0, none⟩ = some (.int .u64 (n : Int))) :
    Calls Try.prog 38 #[.agg #[.int .u64 (m : Int), .int .i64 c, .int .u64 (id : Int), x], .pointer (some ⟨b, 0, none⟩), .pointer (some ⟨b2, 0, none⟩)] w fun e w' => e = .returned (.bool (decide (c = cn ∧ id = n))) ∧ Below w.heap.size w w' := by
  have hb : b < w.heap.size := World.block_lt_of_cell? w _ cb
  have hb2 : b2 < w.heap.size := World.block_lt_of_cell? w _ cb2
  obtain ⟨z, rfl⟩ := hx
  obtain ⟨r, hr⟩ : ∃ r, decide (c = cn ∧ id = n) = r := ⟨_, rfl⟩
  rw [hr]
  by_cases h1 : c = cn
  · have HR := Lib.hid ((and_beq c cn id n h1).trans hr)
    subst h1
    clear hr
    go_enter Try.func38, Try.ntmps38
    go_wp2
    go_ret
    exact ⟨congrArg (fun q => Ending.returned (.bool q)) HR.out, (Below.refl _ _).alloc (Nat.le_refl _) _⟩
  · have h2 : (c == cn) = false := by simpa using h1
    have HR := Lib.hid ((and_no c cn id n h1).trans hr)
    clear hr
    go_enter Try.func38, Try.ntmps38
    go_wp2
    go_ret
    exact ⟨congrArg (fun q => Ending.returned (.bool q)) HR.out, (Below.refl _ _).alloc (Nat.le_refl _) _⟩

theorem place_lkS (w : World) (pb B : Nat) (ao : Option Addr) (cap : Nat) (S : List It) (n b : Nat) (c2 : w.cell? ⟨pb, 2, none⟩ = some (.slice ao S.length cap)) (hr : Row B w 70 4 ao S.length cap (flat S)) (hx : ∀ it ∈ S, IsXS it.x) (hS : S.length ≤ 1000)
    (cb : w.cell? ⟨b, 0, none⟩ = some (.int .u64 (n : Int))) :
    Calls Try.prog 37 #[.pointer (some ⟨pb, 0, none⟩), .func (Fn.func 42) #[] #[.pointer (some ⟨b, 0, none⟩)]] w fun e w' => e = .returned (.int .i64 (firstAt (fun it => decide (it.n = n)) S)) ∧ Below w.heap.size w w' := by
  have hpb : pb < w.heap.size := World.block_lt_of_cell? w _ c2
  have hbl : b < w.heap.size := World.block_lt_of_cell? w _ cb
  obtain ⟨r, hr0⟩ : ∃ r, firstAt (fun it => decide (it.n = n)) S = r := ⟨_, rfl⟩
  rw [hr0]
  have HR := Lib.hid hr0
  clear hr0
  go_enter Try.func37, Try.ntmps37
  go_wp2_with fail
  go_loopw [5, 6, 12] (fun _ _ s wr => ∃ k : Nat, k ≤ S.length ∧ s = .int .i64 k ∧ Hid (Fr none0 w wr) ∧ Hid (∀ j it', j < k → S[j]? = some it' → decide (it'.n = n) = false)) (fun _ _ s _ => S.length - (intOf s).toNat)
  case atStart => exact ⟨0, Nat.zero_le _, rfl, Fr.refl _ _, fun j it' hj => absurd hj (Nat.not_lt_zero _)⟩
  case round =>
    obtain ⟨k, hk, rfl, hf, hno⟩ := hrel
    by_cases hlt : k < S.length
    · obtain ⟨g, rfl⟩ := hr.form (by omega)
      have hk2 : S[k]? = some S[k] := List.getElem?_eq_getElem hlt
      have hx1 : IsXS (S[k]).x := hx _ (List.getElem_mem hlt)
      obtain ⟨d0, d1, d2, d3⟩ := row_cells (hr.fr hf.out (fun _ _ h => h)) hk2
      have HK := Lib.hid hk2
      have hbr : wr.cell? ⟨b, 0, none⟩ = some (.int .u64 (n : Int)) := (hf.out.cell (p := ⟨b, 0, none⟩) hbl (fun h => h)).trans cb
      have hbs : b < wr.heap.size := Nat.lt_of_lt_of_le hbl hf.out.size
      have hgs : g < wr.heap.size := World.block_lt_of_cell? wr _ d0
      clear hk2
      generalize S[k] = it at *
      obtain ⟨im, ic, iid, ix⟩ := it
      dsimp only at d0 d1 d2 d3 hx1
      obtain ⟨z, rfl⟩ := hx1
      go_wp2_with fail
      refine (lk_anyS _ n im ic iid _ ⟨z, rfl⟩ b ?_).mono ?_
      · go_simp
      rintro e w2 ⟨rfl, hb2⟩
      have hf2 : Fr none0 w w2 := (hf.out.alloc _).step (Fr.of_below hb2)
      by_cases hq : im = n
      · have hqd : decide (im = n) = true := by simpa using hq
        have hk0 : (k : Int) = r := (firstAt_hit HK.out hqd hno.out).symm.trans HR.out
        have HK0 := Lib.hid hk0
        rw [hqd]
        clear HR hk0 HK hno hqd hq d0 d1 d2 d3 hbr hr cb c2 hx
        go_wp2_with fail
        go_ret
        exact ⟨congrArg (fun q => Ending.returned (.int .i64 q)) HK0.out, hf2.below (Nat.le_refl _) (fun _ h => h.elim)⟩
      · have hqd : decide (im = n) = false := by simpa using hq
        have hno2 : Hid (∀ j it', j < k + 1 → S[j]? = some it' → decide (it'.n = n) = false) := fun j it' hj hj' => by
          rcases Nat.lt_succ_iff_lt_or_eq.1 hj with h | h
          · exact hno.out j it' h hj'
          · subst h; rw [HK.out] at hj'; injection hj' with hj'; subst hj'; exact hqd
        rw [hqd]
        clear HK hno hqd hq d0 d1 d2 d3 hbr hr cb c2 hx
        go_wp2_with fail
        go_roundw
        case rel => exact ⟨k + 1, by omega, by go_num, hf2, hno2.out⟩
        case measure => simp [intOf]; omega
    · have hke : k = S.length := by omega
      have hk0 : (-1 : Int) = r := (firstAt_miss (fun j it' hj => hno.out j it' (by omega))).symm.trans HR.out
      have HK0 := Lib.hid hk0
      clear HR hk0 hno hr cb c2 hx
      go_wp2_with fail
      go_ret
      exact ⟨congrArg (fun q => Ending.returned (.int .i64 q)) HK0.out, hf.out.below (Nat.le_refl _) (fun _ h => h.elim)⟩
end Go.Proofs.Ytceomfdppbmebaa
