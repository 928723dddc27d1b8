/- A park in memory; contracts of New, look, At, Find, Add, Take, Part, All, by walks. -/
import Derived.Test.YtceomfdppbmebaaW1
namespace Go.Proofs.Ytceomfdppbmebaa
open Go.RowKit

/-- The first thing's place for which p holds. -/
def posR (p : It → Bool) (S : List It) : Int × Int := if firstAt p S < 0 then (0, 7) else (firstAt p S, 0)
theorem pos_cases (p : It → Bool) (S : List It) : (firstAt p S = -1 ∧ S.findIdx? p = none) ∨ ∃ (k : Nat) (it : It), firstAt p S = (k : Int) ∧ S.findIdx? p = some k ∧ k < S.length ∧ S[k]? = some it ∧ p it = true := by
  unfold firstAt
  cases h : S.findIdx? p with
  | none => exact Or.inl ⟨rfl, rfl⟩
  | some k =>
    obtain ⟨hl, hp, _⟩ := List.findIdx?_eq_some_iff_getElem.1 h
    exact Or.inr ⟨k, S[k], rfl, rfl, hl, List.getElem?_eq_getElem hl, hp⟩

/-- A PARK: its block pb, its things S, the last number that was given. -/
structure Pk (B : Nat) (w : World) (pb last : Nat) (S : List It) (ao : Option Addr) (cap : Nat) : Prop where
  low : B ≤ pb
  blk : Blk w pb 45 #[.bool true, .int .u64 (last : Int), .slice ao S.length cap]
  row : Row B w 60 4 ao S.length cap (flat S)
  xs : ∀ it ∈ S, IsX it.x
  len : S.length ≤ 32
section
variable {B : Nat} {w w' : World} {pb last : Nat} {S : List It} {ao : Option Addr} {cap : Nat}
theorem Pk.fy {C : Nat} {ts : List (Option TypeId)} (h : Pk B w pb last S ao cap) (hf : Fy C ts w w') (h1 : some 45 ∉ ts) (h2 : some 60 ∉ ts) : Pk B w' pb last S ao cap := ⟨h.low, h.blk.fy hf h1, h.row.fy hf h2, h.xs, h.len⟩
theorem Pk.below (h : Pk B w pb last S ao cap) (hf : Below w.heap.size w w') : Pk B w' pb last S ao cap := h.fy (Fy.of_below (B := 0) (ts := []) hf) (by simp) (by simp)
theorem Pk.c0 (h : Pk B w pb last S ao cap) : w.cell? ⟨pb, 0, none⟩ = some (.bool true) := h.blk.cell 0
theorem Pk.c1 (h : Pk B w pb last S ao cap) : w.cell? ⟨pb, 1, none⟩ = some (.int .u64 (last : Int)) := h.blk.cell 1
theorem Pk.c2 (h : Pk B w pb last S ao cap) : w.cell? ⟨pb, 2, none⟩ = some (.slice ao S.length cap) := h.blk.cell 2
theorem Pk.lt (h : Pk B w pb last S ao cap) : pb < w.heap.size := h.blk.lt
end

theorem new_any (w : World) : Calls Try.prog 20 #[] w fun e w' => ∃ pb, e = .returned (.pointer (some ⟨pb, 0, none⟩)) ∧ Pk w.heap.size w' pb 0 [] none 0 ∧ Below w.heap.size w w' := by
  go_enter Try.func20, Try.ntmps20
  go_wp2
  go_ret
  exact ⟨w.heap.size, rfl, ⟨Nat.le_refl _, Blk.new _ _ _, Row.nil _ _ _ _, by simp, by simp⟩, (Below.refl _ _).alloc (Nat.le_refl _) _⟩

theorem place_fd (w : World) (pb B : Nat) (ao : Option Addr) (cap : Nat) (S : List It) (cn : Int) (n b b2 : Nat) (c2 : w.cell? ⟨pb, 2, none⟩ = some (.slice ao S.length cap)) (hr : Row B w 60 4 ao S.length cap (flat S)) (hx : ∀ it ∈ S, IsX it.x) (hS : S.length ≤ 1000)
    (cb : w.cell? ⟨b, 0, none⟩ = some (.int .i64 cn)) (cb2 : w.cell? ⟨b2, 0, none⟩ = some (.int .u64 (n : Int))) :
    Calls Try.prog 28 #[.pointer (some ⟨pb, 0, none⟩), .func (Fn.func 29) #[] #[.pointer (some ⟨b, 0, none⟩), .pointer (some ⟨b2, 0, none⟩)]] w fun e w' => e = .returned (.int .i64 (firstAt (fun it => decide (it.conn = cn ∧ it.id = n)) S)) ∧ Below w.heap.size w w' := by
  have hpb : pb < w.heap.size := World.block_lt_of_cell? w _ c2
  have hbl : b < w.heap.size := World.block_lt_of_cell? w _ cb
  have hbl2 : b2 < w.heap.size := World.block_lt_of_cell? w _ cb2
  obtain ⟨r, hr0⟩ : ∃ r, firstAt (fun it => decide (it.conn = cn ∧ it.id = n)) S = r := ⟨_, rfl⟩
  rw [hr0]
  have HR := Lib.hid hr0
  clear hr0
  go_enter Try.func28, Try.ntmps28
  go_wp2_with fail
  go_loopw [5, 6, 12] (fun _ _ s wr => ∃ k : Nat, k ≤ S.length ∧ s = .int .i64 k ∧ Hid (Fr none0 w wr) ∧ Hid (∀ j it', j < k → S[j]? = some it' → decide (it'.conn = cn ∧ it'.id = n) = false)) (fun _ _ s _ => S.length - (intOf s).toNat)
  case atStart => exact ⟨0, Nat.zero_le _, rfl, Fr.refl _ _, fun j it' hj => absurd hj (Nat.not_lt_zero _)⟩
  case round =>
    obtain ⟨k, hk, rfl, hf, hno⟩ := hrel
    by_cases hlt : k < S.length
    · obtain ⟨g, rfl⟩ := hr.form (by omega)
      have hk2 : S[k]? = some S[k] := List.getElem?_eq_getElem hlt
      have hx1 : IsX (S[k]).x := hx _ (List.getElem_mem hlt)
      obtain ⟨d0, d1, d2, d3⟩ := row_cells (hr.fr hf.out (fun _ _ h => h)) hk2
      have HK := Lib.hid hk2
      have hbr : wr.cell? ⟨b, 0, none⟩ = some (.int .i64 cn) := (hf.out.cell (p := ⟨b, 0, none⟩) hbl (fun h => h)).trans cb
      have hbr2 : wr.cell? ⟨b2, 0, none⟩ = some (.int .u64 (n : Int)) := (hf.out.cell (p := ⟨b2, 0, none⟩) hbl2 (fun h => h)).trans cb2
      have hbs : b < wr.heap.size := Nat.lt_of_lt_of_le hbl hf.out.size
      have hbs2 : b2 < wr.heap.size := Nat.lt_of_lt_of_le hbl2 hf.out.size
      have hgs : g < wr.heap.size := World.block_lt_of_cell? wr _ d0
      clear hk2
      generalize S[k] = it at *
      obtain ⟨im, ic, iid, ix⟩ := it
      dsimp only at d0 d1 d2 d3 hx1
      obtain ⟨z, rfl⟩ := hx1
      go_wp2_with fail
      refine (fd_any _ cn n im ic iid _ ⟨z, rfl⟩ b b2 ?_ ?_).mono ?_
      · go_simp
      · go_simp
      rintro e w2 ⟨rfl, hb2⟩
      have hf2 : Fr none0 w w2 := (hf.out.alloc _).step (Fr.of_below hb2)
      by_cases hq : ic = cn ∧ iid = n
      · have hqd : decide (ic = cn ∧ iid = n) = true := by simpa using hq
        have hk0 : (k : Int) = r := (firstAt_hit HK.out hqd hno.out).symm.trans HR.out
        have HK0 := Lib.hid hk0
        rw [hqd]
        clear HR hk0 HK hno hqd hq d0 d1 d2 d3 hbr hbr2 hr cb cb2 c2 hx
        go_wp2_with fail
        go_ret
        exact ⟨congrArg (fun q => Ending.returned (.int .i64 q)) HK0.out, hf2.below (Nat.le_refl _) (fun _ h => h.elim)⟩
      · have hqd : decide (ic = cn ∧ iid = n) = false := by simpa using hq
        have hno2 : Hid (∀ j it', j < k + 1 → S[j]? = some it' → decide (it'.conn = cn ∧ it'.id = n) = false) := fun j it' hj hj' => by
          rcases Nat.lt_succ_iff_lt_or_eq.1 hj with h | h
          · exact hno.out j it' h hj'
          · subst h; rw [HK.out] at hj'; injection hj' with hj'; subst hj'; exact hqd
        rw [hqd]
        clear HK hno hqd hq d0 d1 d2 d3 hbr hbr2 hr cb cb2 c2 hx
        go_wp2_with fail
        go_roundw
        case rel => exact ⟨k + 1, by omega, by go_num, hf2, hno2.out⟩
        case measure => simp [intOf]; omega
    · have hke : k = S.length := by omega
      have hk0 : (-1 : Int) = r := (firstAt_miss (fun j it' hj => hno.out j it' (by omega))).symm.trans HR.out
      have HK0 := Lib.hid hk0
      clear HR hk0 hno hr cb cb2 c2 hx
      go_wp2_with fail
      go_ret
      exact ⟨congrArg (fun q => Ending.returned (.int .i64 q)) HK0.out, hf.out.below (Nat.le_refl _) (fun _ h => h.elim)⟩

theorem look_any (B : Nat) (w : World) (n pb last : Nat) (S : List It) (ao : Option Addr) (cap : Nat) (h : Pk B w pb last S ao cap) :
    Calls Try.prog 27 #[.pointer (some ⟨pb, 0, none⟩), .int .u64 (n : Int)] w fun e w' => e = .returned (.tuple #[.int .i64 (posR (fun it => decide (it.n = n)) S).1, .int .i64 (posR (fun it => decide (it.n = n)) S).2]) ∧ Below w.heap.size w w' := by
  have c0 := h.c0
  have c2 := h.c2
  have hpb := h.lt
  have hw : Pk B (w.alloc (.cells #[.int .u64 (n : Int)] 29)) pb last S ao cap := h.below ((Below.refl _ _).alloc (Nat.le_refl _) _)
  have HW := Lib.hid hw
  have hS : S.length ≤ 32 := h.len
  clear hw h
  unfold posR
  have HC : Hid ((w.alloc (.cells #[.int .u64 (n : Int)] 29)).cell? ⟨w.heap.size, 0, none⟩ = some (.int .u64 (n : Int))) := (Blk.new w 29 #[.int .u64 (n : Int)]).cell 0
  have HB : Hid (Below w.heap.size w (w.alloc (.cells #[.int .u64 (n : Int)] 29))) := (Below.refl _ _).alloc (Nat.le_refl _) _
  generalize hw1 : w.alloc (.cells #[.int .u64 (n : Int)] 29) = w1 at HW HC HB
  rcases pos_cases (fun it => decide (it.n = n)) S with ⟨hp, _⟩ | ⟨k, it, hp, _, hk, _⟩
  · rw [hp]
    go_enter Try.func27, Try.ntmps27
    go_wp2_with fail
    refine (off_any _ pb HW.out.c0).mono ?_
    rintro e w2 ⟨rfl, rfl⟩
    go_wp2_with fail
    refine (place_lk _ pb B ao cap S n w.heap.size HW.out.c2 HW.out.row HW.out.xs (by omega) HC.out).mono ?_
    rw [hp]
    rintro e w3 ⟨rfl, hb3⟩
    go_wp2_with fail
    go_ret2
    exact ⟨rfl, HB.out.trans (hb3.mono HB.out.size)⟩
  · rw [hp]
    go_enter Try.func27, Try.ntmps27
    go_wp2_with fail
    refine (off_any _ pb HW.out.c0).mono ?_
    rintro e w2 ⟨rfl, rfl⟩
    go_wp2_with fail
    refine (place_lk _ pb B ao cap S n w.heap.size HW.out.c2 HW.out.row HW.out.xs (by omega) HC.out).mono ?_
    rw [hp]
    rintro e w3 ⟨rfl, hb3⟩
    go_wp2_with fail
    go_ret2
    exact ⟨rfl, HB.out.trans (hb3.mono HB.out.size)⟩
/-- A PARK: its block pb, its things S, the last number that was given. -/
structure PkS (B : Nat) (w : World) (pb last : Nat) (S : List It) (ao : Option Addr) (cap : Nat) : Prop where
  low : B ≤ pb
  blk : Blk w pb 68 #[.bool true, .int .u64 (last : Int), .slice ao S.length cap]
  row : Row B w 70 4 ao S.length cap (flat S)
  xs : ∀ it ∈ S, IsXS it.x
  len : S.length ≤ 32
section
variable {B : Nat} {w w' : World} {pb last : Nat} {S : List It} {ao : Option Addr} {cap : Nat}
theorem PkS.fy {C : Nat} {ts : List (Option TypeId)} (h : PkS B w pb last S ao cap) (hf : Fy C ts w w') (h1 : some 68 ∉ ts) (h2 : some 70 ∉ ts) : PkS B w' pb last S ao cap := ⟨h.low, h.blk.fy hf h1, h.row.fy hf h2, h.xs, h.len⟩
theorem PkS.below (h : PkS B w pb last S ao cap) (hf : Below w.heap.size w w') : PkS B w' pb last S ao cap := h.fy (Fy.of_below (B := 0) (ts := []) hf) (by simp) (by simp)
theorem PkS.c0 (h : PkS B w pb last S ao cap) : w.cell? ⟨pb, 0, none⟩ = some (.bool true) := h.blk.cell 0
theorem PkS.c1 (h : PkS B w pb last S ao cap) : w.cell? ⟨pb, 1, none⟩ = some (.int .u64 (last : Int)) := h.blk.cell 1
theorem PkS.c2 (h : PkS B w pb last S ao cap) : w.cell? ⟨pb, 2, none⟩ = some (.slice ao S.length cap) := h.blk.cell 2
theorem PkS.lt (h : PkS B w pb last S ao cap) : pb < w.heap.size := h.blk.lt
end

theorem new_anyS (w : World) : Calls Try.prog 22 #[] w fun e w' => ∃ pb, e = .returned (.pointer (some ⟨pb, 0, none⟩)) ∧ PkS w.heap.size w' pb 0 [] none 0 ∧ Below w.heap.size w w' := by
  go_enter Try.func22, Try.ntmps22
  go_wp2
  go_ret
  exact ⟨w.heap.size, rfl, ⟨Nat.le_refl _, Blk.new _ _ _, Row.nil _ _ _ _, by simp, by simp⟩, (Below.refl _ _).alloc (Nat.le_refl _) _⟩

theorem place_fdS (w : World) (pb B : Nat) (ao : Option Addr) (cap : Nat) (S : List It) (cn : Int) (n b b2 : Nat) (c2 : w.cell? ⟨pb, 2, none⟩ = some (.slice ao S.length cap)) (hr : Row B w 70 4 ao S.length cap (flat S)) (hx : ∀ it ∈ S, IsXS it.x) (hS : S.length ≤ 1000)
    (cb : w.cell? ⟨b, 0, none⟩ = some (.int .i64 cn)) (cb2 : w.cell? ⟨b2, 0, none⟩ = some (.int .u64 (n : Int))) :
    Calls Try.prog 37 #[.pointer (some ⟨pb, 0, none⟩), .func (Fn.func 38) #[] #[.pointer (some ⟨b, 0, none⟩), .pointer (some ⟨b2, 0, none⟩)]] w fun e w' => e = .returned (.int .i64 (firstAt (fun it => decide (it.conn = cn ∧ it.id = n)) S)) ∧ Below w.heap.size w w' := by
  have hpb : pb < w.heap.size := World.block_lt_of_cell? w _ c2
  have hbl : b < w.heap.size := World.block_lt_of_cell? w _ cb
  have hbl2 : b2 < w.heap.size := World.block_lt_of_cell? w _ cb2
  obtain ⟨r, hr0⟩ : ∃ r, firstAt (fun it => decide (it.conn = cn ∧ it.id = n)) S = r := ⟨_, rfl⟩
  rw [hr0]
  have HR := Lib.hid hr0
  clear hr0
  go_enter Try.func37, Try.ntmps37
  go_wp2_with fail
  go_loopw [5, 6, 12] (fun _ _ s wr => ∃ k : Nat, k ≤ S.length ∧ s = .int .i64 k ∧ Hid (Fr none0 w wr) ∧ Hid (∀ j it', j < k → S[j]? = some it' → decide (it'.conn = cn ∧ it'.id = n) = false)) (fun _ _ s _ => S.length - (intOf s).toNat)
  case atStart => exact ⟨0, Nat.zero_le _, rfl, Fr.refl _ _, fun j it' hj => absurd hj (Nat.not_lt_zero _)⟩
  case round =>
    obtain ⟨k, hk, rfl, hf, hno⟩ := hrel
    by_cases hlt : k < S.length
    · obtain ⟨g, rfl⟩ := hr.form (by omega)
      have hk2 : S[k]? = some S[k] := List.getElem?_eq_getElem hlt
      have hx1 : IsXS (S[k]).x := hx _ (List.getElem_mem hlt)
      obtain ⟨d0, d1, d2, d3⟩ := row_cells (hr.fr hf.out (fun _ _ h => h)) hk2
      have HK := Lib.hid hk2
      have hbr : wr.cell? ⟨b, 0, none⟩ = some (.int .i64 cn) := (hf.out.cell (p := ⟨b, 0, none⟩) hbl (fun h => h)).trans cb
      have hbr2 : wr.cell? ⟨b2, 0, none⟩ = some (.int .u64 (n : Int)) := (hf.out.cell (p := ⟨b2, 0, none⟩) hbl2 (fun h => h)).trans cb2
      have hbs : b < wr.heap.size := Nat.lt_of_lt_of_le hbl hf.out.size
      have hbs2 : b2 < wr.heap.size := Nat.lt_of_lt_of_le hbl2 hf.out.size
      have hgs : g < wr.heap.size := World.block_lt_of_cell? wr _ d0
      clear hk2
      generalize S[k] = it at *
      obtain ⟨im, ic, iid, ix⟩ := it
      dsimp only at d0 d1 d2 d3 hx1
      obtain ⟨z, rfl⟩ := hx1
      go_wp2_with fail
      refine (fd_anyS _ cn n im ic iid _ ⟨z, rfl⟩ b b2 ?_ ?_).mono ?_
      · go_simp
      · go_simp
      rintro e w2 ⟨rfl, hb2⟩
      have hf2 : Fr none0 w w2 := (hf.out.alloc _).step (Fr.of_below hb2)
      by_cases hq : ic = cn ∧ iid = n
      · have hqd : decide (ic = cn ∧ iid = n) = true := by simpa using hq
        have hk0 : (k : Int) = r := (firstAt_hit HK.out hqd hno.out).symm.trans HR.out
        have HK0 := Lib.hid hk0
        rw [hqd]
        clear HR hk0 HK hno hqd hq d0 d1 d2 d3 hbr hbr2 hr cb cb2 c2 hx
        go_wp2_with fail
        go_ret
        exact ⟨congrArg (fun q => Ending.returned (.int .i64 q)) HK0.out, hf2.below (Nat.le_refl _) (fun _ h => h.elim)⟩
      · have hqd : decide (ic = cn ∧ iid = n) = false := by simpa using hq
        have hno2 : Hid (∀ j it', j < k + 1 → S[j]? = some it' → decide (it'.conn = cn ∧ it'.id = n) = false) := fun j it' hj hj' => by
          rcases Nat.lt_succ_iff_lt_or_eq.1 hj with h | h
          · exact hno.out j it' h hj'
          · subst h; rw [HK.out] at hj'; injection hj' with hj'; subst hj'; exact hqd
        rw [hqd]
        clear HK hno hqd hq d0 d1 d2 d3 hbr hbr2 hr cb cb2 c2 hx
        go_wp2_with fail
        go_roundw
        case rel => exact ⟨k + 1, by omega, by go_num, hf2, hno2.out⟩
        case measure => simp [intOf]; omega
    · have hke : k = S.length := by omega
      have hk0 : (-1 : Int) = r := (firstAt_miss (fun j it' hj => hno.out j it' (by omega))).symm.trans HR.out
      have HK0 := Lib.hid hk0
      clear HR hk0 hno hr cb cb2 c2 hx
      go_wp2_with fail
      go_ret
      exact ⟨congrArg (fun q => Ending.returned (.int .i64 q)) HK0.out, hf.out.below (Nat.le_refl _) (fun _ h => h.elim)⟩

theorem look_anyS (B : Nat) (w : World) (n pb last : Nat) (S : List It) (ao : Option Addr) (cap : Nat) (h : PkS B w pb last S ao cap) :
    Calls Try.prog 39 #[.pointer (some ⟨pb, 0, none⟩), .int .u64 (n : Int)] w fun e w' => e = .returned (.tuple #[.int .i64 (posR (fun it => decide (it.n = n)) S).1, .int .i64 (posR (fun it => decide (it.n = n)) S).2]) ∧ Below w.heap.size w w' := by
  have c0 := h.c0
  have c2 := h.c2
  have hpb := h.lt
  have hw : PkS B (w.alloc (.cells #[.int .u64 (n : Int)] 29)) pb last S ao cap := h.below ((Below.refl _ _).alloc (Nat.le_refl _) _)
  have HW := Lib.hid hw
  have hS : S.length ≤ 32 := h.len
  clear hw h
  unfold posR
  have HC : Hid ((w.alloc (.cells #[.int .u64 (n : Int)] 29)).cell? ⟨w.heap.size, 0, none⟩ = some (.int .u64 (n : Int))) := (Blk.new w 29 #[.int .u64 (n : Int)]).cell 0
  have HB : Hid (Below w.heap.size w (w.alloc (.cells #[.int .u64 (n : Int)] 29))) := (Below.refl _ _).alloc (Nat.le_refl _) _
  generalize hw1 : w.alloc (.cells #[.int .u64 (n : Int)] 29) = w1 at HW HC HB
  rcases pos_cases (fun it => decide (it.n = n)) S with ⟨hp, _⟩ | ⟨k, it, hp, _, hk, _⟩
  · rw [hp]
    go_enter Try.func39, Try.ntmps39
    go_wp2_with fail
    refine (off_anyS _ pb HW.out.c0).mono ?_
    rintro e w2 ⟨rfl, rfl⟩
    go_wp2_with fail
    refine (place_lkS _ pb B ao cap S n w.heap.size HW.out.c2 HW.out.row HW.out.xs (by omega) HC.out).mono ?_
    rw [hp]
    rintro e w3 ⟨rfl, hb3⟩
    go_wp2_with fail
    go_ret2
    exact ⟨rfl, HB.out.trans (hb3.mono HB.out.size)⟩
  · rw [hp]
    go_enter Try.func39, Try.ntmps39
    go_wp2_with fail
    refine (off_anyS _ pb HW.out.c0).mono ?_
    rintro e w2 ⟨rfl, rfl⟩
    go_wp2_with fail
    refine (place_lkS _ pb B ao cap S n w.heap.size HW.out.c2 HW.out.row HW.out.xs (by omega) HC.out).mono ?_
    rw [hp]
    rintro e w3 ⟨rfl, hb3⟩
    go_wp2_with fail
    go_ret2
    exact ⟨rfl, HB.out.trans (hb3.mono HB.out.size)⟩
end Go.Proofs.Ytceomfdppbmebaa
