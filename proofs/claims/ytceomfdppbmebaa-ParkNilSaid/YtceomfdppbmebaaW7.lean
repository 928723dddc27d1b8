/- Contracts of Words and Ints over equal rows; the document's park in memory; contracts of its All, place, At, Find, by walks. -/
import Derived.Test.YtceomfdppbmebaaW6
namespace Go.Proofs.Ytceomfdppbmebaa
open Go.RowKit

theorem words_same (B B' : Nat) (w : World) (ao bo : Option Addr) (n c c' : Nat) (xs : List Value) (hr : Row B w 29 1 ao n c xs) (hr' : Row B' w 29 1 bo n c' xs) (hx : ∀ v ∈ xs, ∃ z : Int, v = .int .u64 z) (hn : n ≤ 1000) :
    Calls Try.prog 18 #[.slice ao n c, .slice bo n c'] w fun e w' => e = .returned (.bool true) ∧ Below w.heap.size w w' := by
  have HR := Lib.hid hr
  have HR' := Lib.hid hr'
  have hl := hr.len
  clear hr hr'
  go_enter Try.func18, Try.ntmps18
  go_wp2_with fail
  go_loopw [4, 5] (fun _ s5 wr => ∃ k : Nat, k ≤ n ∧ s5 = .int .i64 k ∧ Hid (Fr none0 w wr)) (fun _ s _ => n - (intOf s).toNat)
  case atStart => exact ⟨0, Nat.zero_le _, rfl, Fr.refl _ _⟩
  case round =>
    obtain ⟨k, hk, rfl, hf⟩ := hrel
    by_cases hlt : k < n
    · obtain ⟨g, rfl⟩ := HR.out.form (by omega)
      obtain ⟨g', rfl⟩ := HR'.out.form (by omega)
      have hkl : k < xs.length := by omega
      obtain ⟨z, hz⟩ := hx xs[k] (List.getElem_mem hkl)
      have d1 : wr.cell? ⟨g, k, none⟩ = some (.int .u64 z) := ((HR.out.fr hf.out (fun _ _ h => h)).cell (by omega)).trans (by rw [List.getElem?_eq_getElem hkl, hz])
      have d2 : wr.cell? ⟨g', k, none⟩ = some (.int .u64 z) := ((HR'.out.fr hf.out (fun _ _ h => h)).cell (by omega)).trans (by rw [List.getElem?_eq_getElem hkl, hz])
      clear hz hx hl hkl
      go_wp2_with fail
      go_quiet (fail)
      go_wp2_with fail
      go_roundw
      case rel => exact ⟨k + 1, by omega, by go_num, hf.out.drewN _⟩
      case measure => simp [intOf]; omega
    · clear hx hl
      go_wp2_with fail
      go_ret
      exact ⟨rfl, hf.out.below (Nat.le_refl _) (fun _ h => h.elim)⟩

theorem ints_same (B B' : Nat) (w : World) (ao bo : Option Addr) (n c c' : Nat) (xs : List Value) (hr : Row B w 3 1 ao n c xs) (hr' : Row B' w 3 1 bo n c' xs) (hx : ∀ v ∈ xs, ∃ z : Int, v = .int .i64 z) (hn : n ≤ 1000) :
    Calls Try.prog 33 #[.slice ao n c, .slice bo n c'] w fun e w' => e = .returned (.bool true) ∧ Below w.heap.size w w' := by
  have HR := Lib.hid hr
  have HR' := Lib.hid hr'
  have hl := hr.len
  clear hr hr'
  go_enter Try.func33, Try.ntmps33
  go_wp2_with fail
  go_loopw [4, 5] (fun _ s5 wr => ∃ k : Nat, k ≤ n ∧ s5 = .int .i64 k ∧ Hid (Fr none0 w wr)) (fun _ s _ => n - (intOf s).toNat)
  case atStart => exact ⟨0, Nat.zero_le _, rfl, Fr.refl _ _⟩
  case round =>
    obtain ⟨k, hk, rfl, hf⟩ := hrel
    by_cases hlt : k < n
    · obtain ⟨g, rfl⟩ := HR.out.form (by omega)
      obtain ⟨g', rfl⟩ := HR'.out.form (by omega)
      have hkl : k < xs.length := by omega
      obtain ⟨z, hz⟩ := hx xs[k] (List.getElem_mem hkl)
      have d1 : wr.cell? ⟨g, k, none⟩ = some (.int .i64 z) := ((HR.out.fr hf.out (fun _ _ h => h)).cell (by omega)).trans (by rw [List.getElem?_eq_getElem hkl, hz])
      have d2 : wr.cell? ⟨g', k, none⟩ = some (.int .i64 z) := ((HR'.out.fr hf.out (fun _ _ h => h)).cell (by omega)).trans (by rw [List.getElem?_eq_getElem hkl, hz])
      clear hz hx hl hkl
      go_wp2_with fail
      go_quiet (fail)
      go_wp2_with fail
      go_roundw
      case rel => exact ⟨k + 1, by omega, by go_num, hf.out.drewN _⟩
      case measure => simp [intOf]; omega
    · clear hx hl
      go_wp2_with fail
      go_ret
      exact ⟨rfl, hf.out.below (Nat.le_refl _) (fun _ h => h.elim)⟩

/-- THE DOCUMENT's PARK: its block, its things S, the last number. -/
structure Rp (B : Nat) (w : World) (pb last : Nat) (S : List It) (ao : Option Addr) (cap : Nat) : Prop where
  low : B ≤ pb
  blk : Blk w pb 50 #[.slice ao S.length cap, .int .u64 (last : Int)]
  row : Row B w 64 4 ao S.length cap (flat S)
  xs : ∀ it ∈ S, IsX it.x
  len : S.length ≤ 32
section
variable {B : Nat} {w w' : World} {pb last : Nat} {S : List It} {ao : Option Addr} {cap : Nat}
theorem Rp.fy {C : Nat} {ts : List (Option TypeId)} (h : Rp B w pb last S ao cap) (hf : Fy C ts w w') (h1 : some 50 ∉ ts) (h2 : some 64 ∉ ts) : Rp B w' pb last S ao cap := ⟨h.low, h.blk.fy hf h1, h.row.fy hf h2, h.xs, h.len⟩
theorem Rp.below (h : Rp B w pb last S ao cap) (hf : Below w.heap.size w w') : Rp B w' pb last S ao cap := h.fy (Fy.of_below (B := 0) (ts := []) hf) (by simp) (by simp)
theorem Rp.c0 (h : Rp B w pb last S ao cap) : w.cell? ⟨pb, 0, none⟩ = some (.slice ao S.length cap) := h.blk.cell 0
theorem Rp.c1 (h : Rp B w pb last S ao cap) : w.cell? ⟨pb, 1, none⟩ = some (.int .u64 (last : Int)) := h.blk.cell 1
theorem Rp.lt (h : Rp B w pb last S ao cap) : pb < w.heap.size := h.blk.lt
end

theorem rall_any (B : Nat) (w : World) (pb last : Nat) (S : List It) (ao : Option Addr) (cap : Nat) (h : Rp B w pb last S ao cap) :
    Calls Try.prog 19 #[.pointer (some ⟨pb, 0, none⟩)] w fun e w' => ∃ ro rc, e = .returned (.slice ro S.length rc) ∧ Row w.heap.size w' 29 1 ro S.length rc (numsOf S) ∧ Below w.heap.size w w' := by
  have HW := Lib.hid h
  have hS : S.length ≤ 32 := h.len
  clear h
  obtain ⟨i0, hi, hz0, hz1, hz2⟩ := info_parts inf29
  go_enter Try.func19, Try.ntmps19
  go_wp2_with fail
  go_loopw [3, 4] (fun s3 s13 wr => ∃ (k : Nat) (ro : Option Addr) (rc : Nat), k ≤ S.length ∧ s13 = .int .i64 k ∧ s3 = .slice ro k rc ∧ Hid (Fr none0 w wr) ∧ Hid (Row w.heap.size wr 29 1 ro k rc (numsOf (S.take k)))) (fun _ s _ => S.length - (intOf s).toNat)
  case atStart => exact ⟨0, none, 0, Nat.zero_le _, rfl, rfl, Fr.refl _ _, Row.nil _ _ _ _⟩
  case round =>
    obtain ⟨k, ro, rc, hk, rfl, rfl, hf, hr⟩ := hrel
    have hwr : Hid (Rp B wr pb last S ao cap) := HW.out.below (hf.out.below (Nat.le_refl _) (fun _ h => h.elim))
    have c0 := hwr.out.c0
    by_cases hlt : k < S.length
    · obtain ⟨g, rfl⟩ := HW.out.row.form (by omega)
      have hk2 : S[k]? = some S[k] := List.getElem?_eq_getElem hlt
      obtain ⟨d0, d1, d2, d3⟩ := row_cells hwr.out.row hk2
      have HK := Lib.hid hk2
      clear hk2 d1 d2 d3
      generalize S[k] = it at *
      obtain ⟨im, ic, iid, ix⟩ := it
      dsimp only at d0
      have HF1 : Hid (Fr none0 w (wr.alloc (.cells #[.int .u64 (im : Int)] 29))) := hf.out.alloc _
      have HR1 : Hid (Row w.heap.size (wr.alloc (.cells #[.int .u64 (im : Int)] 29)) 29 1 ro k rc (numsOf (S.take k))) := hr.out.fr ((Fr.refl none0 _).alloc _) (fun _ _ h => h)
      have HN := Lib.hid (news_new wr #[.int .u64 (im : Int)] 29 [.int .u64 (im : Int)] rfl)
      have hb := hf.out.size
      go_wp2_with (at_builtin; refine wpList_append_row rfl (.tmp 14) (.tmp 23) 30 rfl 29 i0 _ 1 8 Try.underlying30 hi hz0 hz1 hz2 rfl (by decide) (by decide) w.heap.size ro k rc (numsOf (S.take k)) rfl HR1.out wr.heap.size 0 1 1 [.int .u64 (im : Int)] rfl rfl HN.out ?_ ?_ ?_ ?_)
      · first | rfl | (intro u hu; simp at hu; subst hu; rfl)
      · omega
      · first | omega | (simp; omega)
      intro ro' rc' w3 hr3 hf3 _
      rw [numsOf_take HK.out] at hr3
      have HF3 : Hid (Fr none0 w w3) := HF1.out.rowed HR1.out (Nat.le_refl _) hf3
      have HR3 := Lib.hid hr3
      clear hr3 hf3 HF1 HR1 HN HK d0 c0
      go_wp2_with fail
      go_roundw
      case rel => exact ⟨k + 1, ro', rc', by omega, by go_num, rfl, HF3.out, HR3.out⟩
      case measure => simp [intOf]; omega
    · have hke : k = S.length := by omega
      have hr' := hr.out
      rw [hke, List.take_length] at hr'
      have HR' := Lib.hid hr'
      clear hr hr'
      subst hke
      go_wp2_with fail
      go_ret
      exact ⟨ro, rc, rfl, HR'.out, hf.out.below (Nat.le_refl _) (fun _ h => h.elim)⟩

theorem rplace_any (B : Nat) (w : World) (n pb last : Nat) (S : List It) (ao : Option Addr) (cap : Nat) (h : Rp B w pb last S ao cap) :
    Calls Try.prog 41 #[.pointer (some ⟨pb, 0, none⟩), .int .u64 (n : Int)] w fun e w' => e = .returned (.int .i64 (firstAt (fun it => decide (it.n = n)) S)) ∧ w = w' := by
  have HW := Lib.hid h
  have hS : S.length ≤ 32 := h.len
  have c0 := h.c0
  clear h
  obtain ⟨r, hr0⟩ : ∃ r, firstAt (fun it => decide (it.n = n)) S = r := ⟨_, rfl⟩
  rw [hr0]
  have HR := Lib.hid hr0
  clear hr0
  go_enter Try.func41, Try.ntmps41
  go_wp2_with fail
  go_loopw [5] (fun s wr => ∃ k : Nat, k ≤ S.length ∧ s = .int .i64 k ∧ w = wr ∧ Hid (∀ j it', j < k → S[j]? = some it' → decide (it'.n = n) = false)) (fun s _ => S.length - (intOf s).toNat)
  case atStart => exact ⟨0, Nat.zero_le _, rfl, rfl, fun j it' hj => absurd hj (Nat.not_lt_zero _)⟩
  case round =>
    obtain ⟨k, hk, rfl, rfl, hno⟩ := hrel
    by_cases hlt : k < S.length
    · obtain ⟨g, rfl⟩ := HW.out.row.form (by omega)
      have hk2 : S[k]? = some S[k] := List.getElem?_eq_getElem hlt
      obtain ⟨d0, d1, d2, d3⟩ := row_cells HW.out.row hk2
      have HK := Lib.hid hk2
      clear hk2 d1 d2 d3
      generalize S[k] = it at *
      obtain ⟨im, ic, iid, ix⟩ := it
      dsimp only at d0
      by_cases hq : im = n
      · have hqd : decide (im = n) = true := by simpa using hq
        have HK0 := Lib.hid ((firstAt_hit HK.out hqd hno.out).symm.trans HR.out)
        clear HR HK hno hqd
        subst hq
        go_wp2_with fail
        go_ret
        exact ⟨congrArg (fun q => Ending.returned (.int .i64 q)) HK0.out, rfl⟩
      · have hqd : decide (im = n) = false := by simpa using hq
        have hno2 : Hid (∀ j it', j < k + 1 → S[j]? = some it' → decide (it'.n = n) = false) := fun j it' hj hj' => by
          rcases Nat.lt_succ_iff_lt_or_eq.1 hj with h | h
          · exact hno.out j it' h hj'
          · subst h; rw [HK.out] at hj'; injection hj' with hj'; subst hj'; exact hqd
        have hb2 : ((im : Int) == (n : Int)) = false := by rw [nat_beq]; exact hqd
        clear HK hno hqd
        go_wp2_with fail
        go_roundw
        case rel => exact ⟨k + 1, by omega, by go_num, (by first | rfl | trivial), hno2.out⟩
        case measure => simp [intOf]; omega
    · have hke : k = S.length := by omega
      have HK0 := Lib.hid ((firstAt_miss (fun j it' hj => hno.out j it' (by omega))).symm.trans HR.out)
      clear HR hno
      go_wp2_with fail
      go_ret
      exact ⟨congrArg (fun q => Ending.returned (.int .i64 q)) HK0.out, rfl⟩

theorem rat_any (B : Nat) (w : World) (n pb last : Nat) (S : List It) (ao : Option Addr) (cap : Nat) (h : Rp B w pb last S ao cap) :
    Calls Try.prog 35 #[.pointer (some ⟨pb, 0, none⟩), .int .u64 (n : Int)] w fun e w' => e = .returned (.tuple #[(foundX (.int .i64 0) (fun it => decide (it.n = n)) S).1, .int .i64 (foundX (.int .i64 0) (fun it => decide (it.n = n)) S).2]) ∧ w = w' := by
  have HW := Lib.hid h
  have hS : S.length ≤ 32 := h.len
  have c0 := h.c0
  clear h
  unfold foundX
  rcases gets_cases (fun it => decide (it.n = n)) S with ⟨hp, hg, _⟩ | ⟨k, it, hp, hg, _, hk, hk2, _⟩
  · rw [hg]
    have HP := Lib.hid hp
    clear hg hp
    go_enter Try.func35, Try.ntmps35
    go_wp2_with fail
    refine (rplace_any B _ n pb last S ao cap HW.out).mono ?_
    rw [HP.out]
    rintro e w3 ⟨rfl, rfl⟩
    go_wp2_with fail
    go_ret2
    exact ⟨rfl, rfl⟩
  · rw [hg]
    have HP := Lib.hid hp
    have HK := Lib.hid hk2
    have hxx : IsX it.x := HW.out.xs it (List.mem_of_getElem? hk2)
    clear hg hp hk2
    obtain ⟨g, rfl⟩ := HW.out.row.form (by omega)
    obtain ⟨d0, d1, d2, d3⟩ := row_cells HW.out.row HK.out
    obtain ⟨im, ic, iid, ix⟩ := it
    dsimp only at d0 d1 d2 d3 hxx
    obtain ⟨z, rfl⟩ := hxx
    clear d0 d1 d2
    go_enter Try.func35, Try.ntmps35
    go_wp2_with fail
    refine (rplace_any B _ n pb last S _ cap HW.out).mono ?_
    rw [HP.out]
    rintro e w3 ⟨rfl, rfl⟩
    go_wp2_with fail
    go_ret2
    exact ⟨rfl, rfl⟩

theorem rfind_any (B : Nat) (w : World) (cn : Int) (n pb last : Nat) (S : List It) (ao : Option Addr) (cap : Nat) (h : Rp B w pb last S ao cap) :
    Calls Try.prog 32 #[.pointer (some ⟨pb, 0, none⟩), .int .i64 cn, .int .u64 (n : Int)] w fun e w' => e = .returned (.tuple #[.int .u64 ((foundN (fun it => decide (it.conn = cn ∧ it.id = n)) S).1 : Int), .int .i64 (foundN (fun it => decide (it.conn = cn ∧ it.id = n)) S).2]) ∧ w = w' := by
  have HW := Lib.hid h
  have hS : S.length ≤ 32 := h.len
  have c0 := h.c0
  clear h
  obtain ⟨r, hr0⟩ : ∃ r, foundN (fun it => decide (it.conn = cn ∧ it.id = n)) S = r := ⟨_, rfl⟩
  rw [hr0]
  have HR := Lib.hid hr0
  clear hr0
  go_enter Try.func32, Try.ntmps32
  go_wp2_with fail
  go_loopw [8] (fun s wr => ∃ k : Nat, k ≤ S.length ∧ s = .int .i64 k ∧ w = wr ∧ Hid (∀ j it', j < k → S[j]? = some it' → decide (it'.conn = cn ∧ it'.id = n) = false)) (fun s _ => S.length - (intOf s).toNat)
  case atStart => exact ⟨0, Nat.zero_le _, rfl, rfl, fun j it' hj => absurd hj (Nat.not_lt_zero _)⟩
  case round =>
    obtain ⟨k, hk, rfl, rfl, hno⟩ := hrel
    by_cases hlt : k < S.length
    · obtain ⟨g, rfl⟩ := HW.out.row.form (by omega)
      have hk2 : S[k]? = some S[k] := List.getElem?_eq_getElem hlt
      obtain ⟨d0, d1, d2, d3⟩ := row_cells HW.out.row hk2
      have HK := Lib.hid hk2
      clear hk2 d3
      generalize S[k] = it at *
      obtain ⟨im, ic, iid, ix⟩ := it
      dsimp only at d0 d1 d2
      by_cases hq : ic = cn ∧ iid = n
      · have hqd : decide (ic = cn ∧ iid = n) = true := by simpa using hq
        have hg : gets (fun it => decide (it.conn = cn ∧ it.id = n)) S = some ⟨im, ic, iid, ix⟩ := by
          have h1 := firstAt_hit HK.out hqd hno.out
          rcases gets_cases (fun it => decide (it.conn = cn ∧ it.id = n)) S with ⟨hp, _⟩ | ⟨k2, it2, hp, hg, _, _, hk3, _⟩
          · rw [hp] at h1; omega
          · have hkk : k2 = k := by rw [hp] at h1; omega
            subst hkk
            rw [hg, ← hk3, HK.out]
        have HK0 : Hid (((im : Int), (0 : Int)) = ((r.1 : Int), r.2)) := by
          show _ = _
          rw [← HR.out]; unfold foundN; rw [hg]
        clear HR HK hno hqd hg
        obtain ⟨rfl, rfl⟩ := hq
        go_wp2_with fail
        go_ret2
        exact ⟨congrArg (fun q : Int × Int => Ending.returned (.tuple #[.int .u64 q.1, .int .i64 q.2])) HK0.out, rfl⟩
      · have hqd : decide (ic = cn ∧ iid = n) = false := by simpa using hq
        have hno2 : Hid (∀ j it', j < k + 1 → S[j]? = some it' → decide (it'.conn = cn ∧ it'.id = n) = false) := fun j it' hj hj' => by
          rcases Nat.lt_succ_iff_lt_or_eq.1 hj with h | h
          · exact hno.out j it' h hj'
          · subst h; rw [HK.out] at hj'; injection hj' with hj'; subst hj'; exact hqd
        clear HK hno hqd
        by_cases hc : ic = cn
        · have hi : ¬ iid = n := fun h => hq ⟨hc, h⟩
          have hb2 : ((iid : Int) == (n : Int)) = false := by rw [nat_beq]; simpa using hi
          clear hq hi
          subst hc
          go_wp2_with fail
          go_roundw
          case rel => exact ⟨k + 1, by omega, by go_num, (by first | rfl | trivial), hno2.out⟩
          case measure => simp [intOf]; omega
        · have hb1 : (ic == cn) = false := by simpa using hc
          clear hq
          go_wp2_with fail
          go_roundw
          case rel => exact ⟨k + 1, by omega, by go_num, (by first | rfl | trivial), hno2.out⟩
          case measure => simp [intOf]; omega
    · have hg : gets (fun it => decide (it.conn = cn ∧ it.id = n)) S = none := by
        have h1 := firstAt_miss (p := fun it => decide (it.conn = cn ∧ it.id = n)) (S := S) (fun j it' hj => hno.out j it' (by omega))
        rcases gets_cases (fun it => decide (it.conn = cn ∧ it.id = n)) S with ⟨_, hg, _⟩ | ⟨k2, it2, hp, _⟩
        · exact hg
        · rw [hp] at h1; omega
      have HK0 : Hid (((0 : Int), (7 : Int)) = ((r.1 : Int), r.2)) := by
        show _ = _
        rw [← HR.out]; unfold foundN; rw [hg]; rfl
      clear HR hno hg
      go_wp2_with fail
      go_ret2
      exact ⟨congrArg (fun q : Int × Int => Ending.returned (.tuple #[.int .u64 q.1, .int .i64 q.2])) HK0.out, rfl⟩
end Go.Proofs.Ytceomfdppbmebaa
