/- Contracts of Find, At, Add, Take, by walks. -/
import Derived.Test.YtceomfdppbmebaaW2
namespace Go.Proofs.Ytceomfdppbmebaa
open Go.RowKit

/-- The first thing for which p holds. -/
def gets (p : It → Bool) (S : List It) : Option It := match S.findIdx? p with | some k => S[k]? | none => none
def foundN (p : It → Bool) (S : List It) : Nat × Int := match gets p S with | some it => (it.n, 0) | none => (0, 7)
def foundX (z : Value) (p : It → Bool) (S : List It) : Value × Int := match gets p S with | some it => (it.x, 0) | none => (z, 7)
def without (p : It → Bool) (S : List It) : List It := match S.findIdx? p with | some k => S.eraseIdx k | none => S
theorem gets_cases (p : It → Bool) (S : List It) : (firstAt p S = -1 ∧ gets p S = none ∧ without p S = S) ∨ ∃ (k : Nat) (it : It), firstAt p S = (k : Int) ∧ gets p S = some it ∧ without p S = S.eraseIdx k ∧ k < S.length ∧ S[k]? = some it ∧ p it = true := by
  unfold gets without
  rcases pos_cases p S with ⟨h1, h2⟩ | ⟨k, it, h1, h2, h3, h4, h5⟩
  · rw [h2]; exact Or.inl ⟨h1, rfl, rfl⟩
  · rw [h2]; exact Or.inr ⟨k, it, h1, h4, rfl, h3, h4, h5⟩

theorem Pk.grow {B : Nat} {w : World} {pb last : Nat} {S : List It} {ao : Option Addr} {cap : Nat} (h : Pk B w pb last S ao cap) : Fy B [some 45, some 60] w (w.setCell ⟨pb, 1, none⟩ (.int .u64 ((last : Int) + 1))) ∧ Pk B (w.setCell ⟨pb, 1, none⟩ (.int .u64 ((last : Int) + 1))) pb (last + 1) S ao cap := by
  have hf : Fr (fun k => k = pb) w (w.setCell ⟨pb, 1, none⟩ (.int .u64 ((last : Int) + 1))) := (Fr.refl (fun k => k = pb) w).setCell (p := ⟨pb, 1, none⟩) (fun _ => rfl) _
  refine ⟨Fy.of_fr hf (fun k _ hk => by subst hk; exact ⟨h.low, _, h.blk, by simp [tagOf]⟩), h.low, h.blk.set_ 1 _, h.row.fr hf ?_, h.xs, h.len⟩
  rintro k hk rfl
  obtain ⟨_, o, ho, ht⟩ := h.row.tag k h.lt hk
  have := h.blk
  unfold Blk at this
  rw [this] at ho
  injection ho with ho
  subst ho
  cases ht
theorem Pk.apart {B : Nat} {w : World} {pb last : Nat} {S : List It} {ao : Option Addr} {cap : Nat} (h : Pk B w pb last S ao cap) : ¬ rowOf ao pb := by
  intro hk
  obtain ⟨_, o, ho, ht⟩ := h.row.tag pb h.lt hk
  have := h.blk
  unfold Blk at this
  rw [this] at ho
  injection ho with ho
  subst ho
  cases ht
theorem Pk.grown {B : Nat} {w w' : World} {pb last : Nat} {S : List It} {ao : Option Addr} {cap : Nat} (h : Pk B w pb last S ao cap) (hf : Fr (rowOf ao) w w') :
    Fy B [some 45, some 60] w w' ∧ Blk w' pb 45 #[.bool true, .int .u64 (last : Int), .slice ao S.length cap] :=
  ⟨Fy.of_fr hf (fun k hk hr => by obtain ⟨h1, o, h2, h3⟩ := h.row.tag k hk hr; exact ⟨h1, o, h2, by rw [h3]; simp⟩), h.blk.fr hf h.apart⟩
theorem put {B : Nat} {w : World} {pb last : Nat} {S' : List It} {ao' : Option Addr} {cap' n : Nat} {v : Value} (hlow : B ≤ pb) (h : Blk w pb 45 #[.bool true, .int .u64 (last : Int), v]) (hn : n = S'.length) (hr : Row B w 60 4 ao' S'.length cap' (flat S')) (hx : ∀ it ∈ S', IsX it.x) (hl : S'.length ≤ 32) :
    Fy B [some 45, some 60] w (w.setCell ⟨pb, 2, none⟩ (.slice ao' n cap')) ∧ Pk B (w.setCell ⟨pb, 2, none⟩ (.slice ao' n cap')) pb last S' ao' cap' := by
  subst hn
  have hf : Fr (fun k => k = pb) w (w.setCell ⟨pb, 2, none⟩ (.slice ao' S'.length cap')) := (Fr.refl (fun k => k = pb) w).setCell (p := ⟨pb, 2, none⟩) (fun _ => rfl) _
  refine ⟨Fy.of_fr hf (fun k _ hk => by subst hk; exact ⟨hlow, _, h, by simp [tagOf]⟩), hlow, h.set_ 2 _, hr.fr hf ?_, hx, hl⟩
  rintro k hk rfl
  obtain ⟨_, o, ho, ht⟩ := hr.tag k h.lt hk
  unfold Blk at h
  rw [h] at ho
  injection ho with ho
  subst ho
  cases ht

theorem find_any (B : Nat) (w : World) (cn : Int) (n pb last : Nat) (S : List It) (ao : Option Addr) (cap : Nat) (h : Pk B w pb last S ao cap) :
    Calls Try.prog 17 #[.pointer (some ⟨pb, 0, none⟩), .int .i64 cn, .int .u64 (n : Int)] w fun e w' => e = .returned (.tuple #[.int .u64 ((foundN (fun it => decide (it.conn = cn ∧ it.id = n)) S).1 : Int), .int .i64 (foundN (fun it => decide (it.conn = cn ∧ it.id = n)) S).2]) ∧ Below w.heap.size w w' := by
  have hpb := h.lt
  have HB : Hid (Below w.heap.size w ((w.alloc (.cells #[.int .i64 cn] 3)).alloc (.cells #[.int .u64 (n : Int)] 29))) := ((Below.refl _ _).alloc (Nat.le_refl _) _).alloc (by simp) _
  have HW : Hid (Pk B ((w.alloc (.cells #[.int .i64 cn] 3)).alloc (.cells #[.int .u64 (n : Int)] 29)) pb last S ao cap) := h.below HB.out
  have HC : Hid (((w.alloc (.cells #[.int .i64 cn] 3)).alloc (.cells #[.int .u64 (n : Int)] 29)).cell? ⟨w.heap.size, 0, none⟩ = some (.int .i64 cn)) := ((Blk.new w 3 #[.int .i64 cn]).alloc _).cell 0
  have HC2 : Hid (((w.alloc (.cells #[.int .i64 cn] 3)).alloc (.cells #[.int .u64 (n : Int)] 29)).cell? ⟨w.heap.size + 1, 0, none⟩ = some (.int .u64 (n : Int))) := by
    have := (Blk.new (w.alloc (.cells #[.int .i64 cn] 3)) 29 #[.int .u64 (n : Int)]).cell 0
    rw [show (w.alloc (.cells #[.int .i64 cn] 3)).heap.size = w.heap.size + 1 from by simp] at this
    exact this
  have hS : S.length ≤ 32 := h.len
  clear h
  generalize hw1 : (w.alloc (.cells #[.int .i64 cn] 3)).alloc (.cells #[.int .u64 (n : Int)] 29) = w1 at HW HC HC2 HB
  unfold foundN
  rcases gets_cases (fun it => decide (it.conn = cn ∧ it.id = n)) S with ⟨hp, hg, _⟩ | ⟨k, it, hp, hg, _, hk, hk2, _⟩
  · rw [hg]
    have HP := Lib.hid hp
    clear hg hp
    go_enter Try.func17, Try.ntmps17
    go_wp2_with fail
    refine (off_any _ pb HW.out.c0).mono ?_
    rintro e w2 ⟨rfl, rfl⟩
    go_wp2_with fail
    refine (place_fd _ pb B ao cap S cn n w.heap.size (w.heap.size + 1) HW.out.c2 HW.out.row HW.out.xs (by omega) HC.out HC2.out).mono ?_
    rw [HP.out]
    rintro e w3 ⟨rfl, hb3⟩
    go_wp2_with fail
    go_ret2
    exact ⟨rfl, HB.out.trans (hb3.mono HB.out.size)⟩
  · rw [hg]
    have HP := Lib.hid hp
    have HK := Lib.hid hk2
    clear hg hp hk2
    go_enter Try.func17, Try.ntmps17
    go_wp2_with fail
    refine (off_any _ pb HW.out.c0).mono ?_
    rintro e w2 ⟨rfl, rfl⟩
    go_wp2_with fail
    refine (place_fd _ pb B ao cap S cn n w.heap.size (w.heap.size + 1) HW.out.c2 HW.out.row HW.out.xs (by omega) HC.out HC2.out).mono ?_
    rw [HP.out]
    rintro e w3 ⟨rfl, hb3⟩
    have HW3 := HW.out.below hb3
    have c2 := HW3.c2
    obtain ⟨g, rfl⟩ := HW3.row.form (by omega)
    obtain ⟨d0, d1, d2, d3⟩ := row_cells HW3.row HK.out
    have HB3 := Lib.hid (HB.out.trans (hb3.mono HB.out.size))
    clear hb3 HW3 d1 d2 d3 hw1 HC HC2
    go_wp2_with fail
    go_ret2
    exact ⟨rfl, HB3.out⟩

theorem add_full (B : Nat) (w : World) (cn : Int) (n pb last : Nat) (x : Value) (S : List It) (ao : Option Addr) (cap : Nat) (h : Pk B w pb last S ao cap) (hl : S.length = 32) :
    Calls Try.prog 13 #[.pointer (some ⟨pb, 0, none⟩), .int .i64 cn, .int .u64 (n : Int), x] w fun e w' => e = .returned (.tuple #[.int .u64 0, .int .i64 3]) ∧ w = w' := by
  have c0 := h.c0
  have c2 := h.c2
  go_enter Try.func13, Try.ntmps13
  go_wp2_with (first | (go_at_call 26; refine (off_any _ pb c0).mono ?_; rintro e w2 ⟨rfl, rfl⟩))
  go_ret2
  exact ⟨rfl, rfl⟩

theorem inf60 : (Try.prog.info? 60).map (fun i => (i.zero, i.size, i.bytes)) = some (some (.agg #[.int .u64 0, .int .i64 0, .int .u64 0, .int .i64 0]), 4, 32) := by kernel_rfl

theorem add_ok (B : Nat) (w : World) (cn : Int) (n pb last : Nat) (x : Value) (S : List It) (ao : Option Addr) (cap : Nat) (h : Pk B w pb last S ao cap) (hB : B ≤ w.heap.size) (hl : S.length < 32) (hlast : last < 1000) (hx : IsX x) :
    Calls Try.prog 13 #[.pointer (some ⟨pb, 0, none⟩), .int .i64 cn, .int .u64 (n : Int), x] w fun e w' => ∃ ao' cap', e = .returned (.tuple #[.int .u64 ((last + 1 : Nat) : Int), .int .i64 0]) ∧ Pk B w' pb (last + 1) (S ++ [⟨last + 1, cn, n, x⟩]) ao' cap' ∧ Fy B [some 45, some 60] w w' := by
  have c0 := h.c0
  have c1 := h.c1
  have c2 := h.c2
  have f1 := h.blk.frozen 1
  obtain ⟨hf1, hw1⟩ := h.grow
  have HX := Lib.hid hx
  obtain ⟨z, rfl⟩ := hx
  have HF := Lib.hid hf1
  have HW := Lib.hid hw1
  clear hf1 hw1 h
  go_enter Try.func13, Try.ntmps13
  go_wp2_with (first | (go_at_call 26; refine (off_any _ pb c0).mono ?_; rintro e w2 ⟨rfl, rfl⟩))
  have hpb := HW.out.lt
  generalize w.setCell ⟨pb, 1, none⟩ (.int .u64 ((last : Int) + 1)) = w1 at *
  clear c0 c1 c2 f1
  have d1 : w1.cell? ⟨pb, 1, none⟩ = some (.int .u64 ((last : Int) + 1)) := HW.out.c1
  have d2 := HW.out.c2
  have hB1 : B ≤ w1.heap.size := Nat.le_trans hB HF.out.size
  obtain ⟨i0, hi, hz0, hz1, hz2⟩ := info_parts inf60
  go_region_law (
    (refine step_append_row rfl (.tmp 31) (.tmp 40) 43 rfl 60 i0 _ 4 32 Try.underlying43 hi hz0 hz1 hz2 rfl (by decide) (by decide) B ao S.length cap (flat S) rfl ?_ w1.heap.size 0 1 1 (cells ⟨last + 1, cn, n, .int .i64 z⟩) rfl rfl ?_ ?_ ?_ ?_ ?_
     · exact HW.out.row.fr (((Fr.refl none0 _).drew).alloc _) (fun _ _ h => h)
     · exact news_new _ _ _ _ rfl
     · intro u hu; simp [cells] at hu; rcases hu with rfl | rfl | rfl | rfl <;> rfl
     · omega
     · simp; omega
     intro ao' cap' w3 hr3 hf3 hne
     obtain ⟨hq1, hq2⟩ := (HW.out.below (((Below.refl _ _).drew).alloc (Nat.le_refl _) _)).grown hf3
     have HF3 : Hid (Fy B [some 45, some 60] w w3) := (HF.out.trans (Fy.of_below (((Below.refl _ _).drew).alloc (Nat.le_refl _) _))).trans hq1
     have HQ := Lib.hid hq2
     have HR := Lib.hid hr3
     clear hq1 hr3 hf3
     have e2 : w3.cell? ⟨pb, 2, none⟩ = some (.slice ao S.length cap) := hq2.cell 2
     have e3 : w3.frozen? ⟨pb, 2, none⟩ = false := hq2.frozen 2
     clear hq2))
  all_goals
    have hfl : flat S ++ cells ⟨last + 1, cn, n, .int .i64 z⟩ = flat (S ++ [⟨last + 1, cn, n, .int .i64 z⟩]) := by simp [flat]
    have hlen : (S ++ [(⟨last + 1, cn, n, .int .i64 z⟩ : It)]).length = S.length + 1 := by simp
    have hrow := HR.out
    rw [hfl, ← hlen] at hrow
    obtain ⟨hp1, hp2⟩ := put (n := S.length + 1) HW.out.low HQ.out hlen.symm hrow (fun it hit => by
      rcases List.mem_append.1 hit with h | h
      · exact HW.out.xs it h
      · rw [List.mem_singleton.1 h]; exact HX.out) (by rw [hlen]; omega)
    have HP2 := Lib.hid hp2
    have HF4 := Lib.hid (HF3.out.trans hp1)
    clear hfl hlen hrow hp1 hp2 HR HQ HF3 e2 e3
    generalize w3.setCell ⟨pb, 2, none⟩ (.slice ao' (S.length + 1) cap') = w4 at *
    have d1 : w4.cell? ⟨pb, 1, none⟩ = some (.int .u64 ((last : Int) + 1)) := HP2.out.c1
    go_wp2_with fail
    go_ret2
    exact ⟨ao', cap', rfl, HP2.out, HF4.out⟩
theorem PkS.grow {B : Nat} {w : World} {pb last : Nat} {S : List It} {ao : Option Addr} {cap : Nat} (h : PkS B w pb last S ao cap) : Fy B [some 68, some 70] w (w.setCell ⟨pb, 1, none⟩ (.int .u64 ((last : Int) + 1))) ∧ PkS B (w.setCell ⟨pb, 1, none⟩ (.int .u64 ((last : Int) + 1))) pb (last + 1) S ao cap := by
  have hf : Fr (fun k => k = pb) w (w.setCell ⟨pb, 1, none⟩ (.int .u64 ((last : Int) + 1))) := (Fr.refl (fun k => k = pb) w).setCell (p := ⟨pb, 1, none⟩) (fun _ => rfl) _
  refine ⟨Fy.of_fr hf (fun k _ hk => by subst hk; exact ⟨h.low, _, h.blk, by simp [tagOf]⟩), h.low, h.blk.set_ 1 _, h.row.fr hf ?_, h.xs, h.len⟩
  rintro k hk rfl
  obtain ⟨_, o, ho, ht⟩ := h.row.tag k h.lt hk
  have := h.blk
  unfold Blk at this
  rw [this] at ho
  injection ho with ho
  subst ho
  cases ht
theorem PkS.apart {B : Nat} {w : World} {pb last : Nat} {S : List It} {ao : Option Addr} {cap : Nat} (h : PkS B w pb last S ao cap) : ¬ rowOf ao pb := by
  intro hk
  obtain ⟨_, o, ho, ht⟩ := h.row.tag pb h.lt hk
  have := h.blk
  unfold Blk at this
  rw [this] at ho
  injection ho with ho
  subst ho
  cases ht
theorem PkS.grown {B : Nat} {w w' : World} {pb last : Nat} {S : List It} {ao : Option Addr} {cap : Nat} (h : PkS B w pb last S ao cap) (hf : Fr (rowOf ao) w w') :
    Fy B [some 68, some 70] w w' ∧ Blk w' pb 68 #[.bool true, .int .u64 (last : Int), .slice ao S.length cap] :=
  ⟨Fy.of_fr hf (fun k hk hr => by obtain ⟨h1, o, h2, h3⟩ := h.row.tag k hk hr; exact ⟨h1, o, h2, by rw [h3]; simp⟩), h.blk.fr hf h.apart⟩
theorem putS {B : Nat} {w : World} {pb last : Nat} {S' : List It} {ao' : Option Addr} {cap' n : Nat} {v : Value} (hlow : B ≤ pb) (h : Blk w pb 68 #[.bool true, .int .u64 (last : Int), v]) (hn : n = S'.length) (hr : Row B w 70 4 ao' S'.length cap' (flat S')) (hx : ∀ it ∈ S', IsXS it.x) (hl : S'.length ≤ 32) :
    Fy B [some 68, some 70] w (w.setCell ⟨pb, 2, none⟩ (.slice ao' n cap')) ∧ PkS B (w.setCell ⟨pb, 2, none⟩ (.slice ao' n cap')) pb last S' ao' cap' := by
  subst hn
  have hf : Fr (fun k => k = pb) w (w.setCell ⟨pb, 2, none⟩ (.slice ao' S'.length cap')) := (Fr.refl (fun k => k = pb) w).setCell (p := ⟨pb, 2, none⟩) (fun _ => rfl) _
  refine ⟨Fy.of_fr hf (fun k _ hk => by subst hk; exact ⟨hlow, _, h, by simp [tagOf]⟩), hlow, h.set_ 2 _, hr.fr hf ?_, hx, hl⟩
  rintro k hk rfl
  obtain ⟨_, o, ho, ht⟩ := hr.tag k h.lt hk
  unfold Blk at h
  rw [h] at ho
  injection ho with ho
  subst ho
  cases ht

theorem find_anyS (B : Nat) (w : World) (cn : Int) (n pb last : Nat) (S : List It) (ao : Option Addr) (cap : Nat) (h : PkS B w pb last S ao cap) :
    Calls Try.prog 24 #[.pointer (some ⟨pb, 0, none⟩), .int .i64 cn, .int .u64 (n : Int)] w fun e w' => e = .returned (.tuple #[.int .u64 ((foundN (fun it => decide (it.conn = cn ∧ it.id = n)) S).1 : Int), .int .i64 (foundN (fun it => decide (it.conn = cn ∧ it.id = n)) S).2]) ∧ Below w.heap.size w w' := by
  have hpb := h.lt
  have HB : Hid (Below w.heap.size w ((w.alloc (.cells #[.int .i64 cn] 3)).alloc (.cells #[.int .u64 (n : Int)] 29))) := ((Below.refl _ _).alloc (Nat.le_refl _) _).alloc (by simp) _
  have HW : Hid (PkS B ((w.alloc (.cells #[.int .i64 cn] 3)).alloc (.cells #[.int .u64 (n : Int)] 29)) pb last S ao cap) := h.below HB.out
  have HC : Hid (((w.alloc (.cells #[.int .i64 cn] 3)).alloc (.cells #[.int .u64 (n : Int)] 29)).cell? ⟨w.heap.size, 0, none⟩ = some (.int .i64 cn)) := ((Blk.new w 3 #[.int .i64 cn]).alloc _).cell 0
  have HC2 : Hid (((w.alloc (.cells #[.int .i64 cn] 3)).alloc (.cells #[.int .u64 (n : Int)] 29)).cell? ⟨w.heap.size + 1, 0, none⟩ = some (.int .u64 (n : Int))) := by
    have := (Blk.new (w.alloc (.cells #[.int .i64 cn] 3)) 29 #[.int .u64 (n : Int)]).cell 0
    rw [show (w.alloc (.cells #[.int .i64 cn] 3)).heap.size = w.heap.size + 1 from by simp] at this
    exact this
  have hS : S.length ≤ 32 := h.len
  clear h
  generalize hw1 : (w.alloc (.cells #[.int .i64 cn] 3)).alloc (.cells #[.int .u64 (n : Int)] 29) = w1 at HW HC HC2 HB
  unfold foundN
  rcases gets_cases (fun it => decide (it.conn = cn ∧ it.id = n)) S with ⟨hp, hg, _⟩ | ⟨k, it, hp, hg, _, hk, hk2, _⟩
  · rw [hg]
    have HP := Lib.hid hp
    clear hg hp
    go_enter Try.func24, Try.ntmps24
    go_wp2_with fail
    refine (off_anyS _ pb HW.out.c0).mono ?_
    rintro e w2 ⟨rfl, rfl⟩
    go_wp2_with fail
    refine (place_fdS _ pb B ao cap S cn n w.heap.size (w.heap.size + 1) HW.out.c2 HW.out.row HW.out.xs (by omega) HC.out HC2.out).mono ?_
    rw [HP.out]
    rintro e w3 ⟨rfl, hb3⟩
    go_wp2_with fail
    go_ret2
    exact ⟨rfl, HB.out.trans (hb3.mono HB.out.size)⟩
  · rw [hg]
    have HP := Lib.hid hp
    have HK := Lib.hid hk2
    clear hg hp hk2
    go_enter Try.func24, Try.ntmps24
    go_wp2_with fail
    refine (off_anyS _ pb HW.out.c0).mono ?_
    rintro e w2 ⟨rfl, rfl⟩
    go_wp2_with fail
    refine (place_fdS _ pb B ao cap S cn n w.heap.size (w.heap.size + 1) HW.out.c2 HW.out.row HW.out.xs (by omega) HC.out HC2.out).mono ?_
    rw [HP.out]
    rintro e w3 ⟨rfl, hb3⟩
    have HW3 := HW.out.below hb3
    have c2 := HW3.c2
    obtain ⟨g, rfl⟩ := HW3.row.form (by omega)
    obtain ⟨d0, d1, d2, d3⟩ := row_cells HW3.row HK.out
    have HB3 := Lib.hid (HB.out.trans (hb3.mono HB.out.size))
    clear hb3 HW3 d1 d2 d3 hw1 HC HC2
    go_wp2_with fail
    go_ret2
    exact ⟨rfl, HB3.out⟩

theorem add_fullS (B : Nat) (w : World) (cn : Int) (n pb last : Nat) (x : Value) (S : List It) (ao : Option Addr) (cap : Nat) (h : PkS B w pb last S ao cap) (hl : S.length = 32) :
    Calls Try.prog 23 #[.pointer (some ⟨pb, 0, none⟩), .int .i64 cn, .int .u64 (n : Int), x] w fun e w' => e = .returned (.tuple #[.int .u64 0, .int .i64 3]) ∧ w = w' := by
  have c0 := h.c0
  have c2 := h.c2
  go_enter Try.func23, Try.ntmps23
  go_wp2_with (first | (go_at_call 36; refine (off_anyS _ pb c0).mono ?_; rintro e w2 ⟨rfl, rfl⟩))
  go_ret2
  exact ⟨rfl, rfl⟩

theorem inf70 : (Try.prog.info? 70).map (fun i => (i.zero, i.size, i.bytes)) = some (some (.agg #[.int .u64 0, .int .i64 0, .int .u64 0, .string { data := #[] }]), 4, 40) := by kernel_rfl

theorem add_okS (B : Nat) (w : World) (cn : Int) (n pb last : Nat) (x : Value) (S : List It) (ao : Option Addr) (cap : Nat) (h : PkS B w pb last S ao cap) (hB : B ≤ w.heap.size) (hl : S.length < 32) (hlast : last < 1000) (hx : IsXS x) :
    Calls Try.prog 23 #[.pointer (some ⟨pb, 0, none⟩), .int .i64 cn, .int .u64 (n : Int), x] w fun e w' => ∃ ao' cap', e = .returned (.tuple #[.int .u64 ((last + 1 : Nat) : Int), .int .i64 0]) ∧ PkS B w' pb (last + 1) (S ++ [⟨last + 1, cn, n, x⟩]) ao' cap' ∧ Fy B [some 68, some 70] w w' := by
  have c0 := h.c0
  have c1 := h.c1
  have c2 := h.c2
  have f1 := h.blk.frozen 1
  obtain ⟨hf1, hw1⟩ := h.grow
  have HX := Lib.hid hx
  obtain ⟨z, rfl⟩ := hx
  have HF := Lib.hid hf1
  have HW := Lib.hid hw1
  clear hf1 hw1 h
  go_enter Try.func23, Try.ntmps23
  go_wp2_with (first | (go_at_call 36; refine (off_anyS _ pb c0).mono ?_; rintro e w2 ⟨rfl, rfl⟩))
  have hpb := HW.out.lt
  generalize w.setCell ⟨pb, 1, none⟩ (.int .u64 ((last : Int) + 1)) = w1 at *
  clear c0 c1 c2 f1
  have d1 : w1.cell? ⟨pb, 1, none⟩ = some (.int .u64 ((last : Int) + 1)) := HW.out.c1
  have d2 := HW.out.c2
  have hB1 : B ≤ w1.heap.size := Nat.le_trans hB HF.out.size
  obtain ⟨i0, hi, hz0, hz1, hz2⟩ := info_parts inf70
  go_region_law (
    (refine step_append_row rfl (.tmp 31) (.tmp 40) 66 rfl 70 i0 _ 4 40 Try.underlying66 hi hz0 hz1 hz2 rfl (by decide) (by decide) B ao S.length cap (flat S) rfl ?_ w1.heap.size 0 1 1 (cells ⟨last + 1, cn, n, .string z⟩) rfl rfl ?_ ?_ ?_ ?_ ?_
     · exact HW.out.row.fr (((Fr.refl none0 _).drew).alloc _) (fun _ _ h => h)
     · exact news_new _ _ _ _ rfl
     · intro u hu; simp [cells] at hu; rcases hu with rfl | rfl | rfl | rfl <;> rfl
     · omega
     · simp; omega
     intro ao' cap' w3 hr3 hf3 hne
     obtain ⟨hq1, hq2⟩ := (HW.out.below (((Below.refl _ _).drew).alloc (Nat.le_refl _) _)).grown hf3
     have HF3 : Hid (Fy B [some 68, some 70] w w3) := (HF.out.trans (Fy.of_below (((Below.refl _ _).drew).alloc (Nat.le_refl _) _))).trans hq1
     have HQ := Lib.hid hq2
     have HR := Lib.hid hr3
     clear hq1 hr3 hf3
     have e2 : w3.cell? ⟨pb, 2, none⟩ = some (.slice ao S.length cap) := hq2.cell 2
     have e3 : w3.frozen? ⟨pb, 2, none⟩ = false := hq2.frozen 2
     clear hq2))
  all_goals
    have hfl : flat S ++ cells ⟨last + 1, cn, n, .string z⟩ = flat (S ++ [⟨last + 1, cn, n, .string z⟩]) := by simp [flat]
    have hlen : (S ++ [(⟨last + 1, cn, n, .string z⟩ : It)]).length = S.length + 1 := by simp
    have hrow := HR.out
    rw [hfl, ← hlen] at hrow
    obtain ⟨hp1, hp2⟩ := putS (n := S.length + 1) HW.out.low HQ.out hlen.symm hrow (fun it hit => by
      rcases List.mem_append.1 hit with h | h
      · exact HW.out.xs it h
      · rw [List.mem_singleton.1 h]; exact HX.out) (by rw [hlen]; omega)
    have HP2 := Lib.hid hp2
    have HF4 := Lib.hid (HF3.out.trans hp1)
    clear hfl hlen hrow hp1 hp2 HR HQ HF3 e2 e3
    generalize w3.setCell ⟨pb, 2, none⟩ (.slice ao' (S.length + 1) cap') = w4 at *
    have d1 : w4.cell? ⟨pb, 1, none⟩ = some (.int .u64 ((last : Int) + 1)) := HP2.out.c1
    go_wp2_with fail
    go_ret2
    exact ⟨ao', cap', rfl, HP2.out, HF4.out⟩
end Go.Proofs.Ytceomfdppbmebaa
