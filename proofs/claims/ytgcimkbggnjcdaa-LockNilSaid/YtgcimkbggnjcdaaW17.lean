/- Both tables side by side; a list of one lock; contract of works, by a walk. -/
import Derived.Test.YtgcimkbggnjcdaaW16
namespace Go.Proofs.Ytgcimkbggnjcdaa
open Go.RowKit

/-- BOTH: the table of S, the document's of R, their rows apart. -/
structure Bo (B : Nat) (w : World) (pb : Nat) (S : List Lk) (ao : Option Addr) (cap : Nat) (rb : Nat) (R : List Lk) (bo : Option Addr) (d : Nat) : Prop where
  t : Tb B w pb S ao cap
  r : Rt B w rb R bo d
  ap : ∀ k, rowOf ao k → ¬ rowOf bo k
section
variable {B : Nat} {w w' : World} {pb rb cap d : Nat} {S R S2 R2 : List Lk} {ao bo : Option Addr}
theorem Tb.ne {x : Nat} {t : TypeId} {cs : Array Value} (h : Tb B w pb S ao cap) (hx : Blk w x t cs) (h1 : t ≠ 50) (h2 : t ≠ 34) : ¬ Tof pb ao x := by
  rintro (e | e)
  · exact (Blk.ne_ hx h.blk h1) e
  · obtain ⟨_, o, ho, ht⟩ := h.row.tag x hx.lt e
    unfold Blk at hx
    rw [hx] at ho
    injection ho with ho
    subst ho
    injection ht with ht
    exact h2 ht
theorem Rt.ne {x : Nat} {t : TypeId} {cs : Array Value} (h : Rt B w rb R bo d) (hx : Blk w x t cs) (h1 : t ≠ 44) : ¬ x = rb := Blk.ne_ hx h.blk h1
theorem row_ne {x n c : Nat} {t : TypeId} {cs : Array Value} {xs : List Value} (h : Row B w 34 4 ao n c xs) (hx : Blk w x t cs) (h1 : t ≠ 34) : ∀ k, rowOf ao k → ¬ k = x := by
  rintro k hk rfl
  obtain ⟨_, o, ho, ht⟩ := h.tag k hx.lt hk
  unfold Blk at hx
  rw [hx] at ho
  injection ho with ho
  subst ho
  injection ht with ht
  exact h1 ht
theorem Bo.below (h : Bo B w pb S ao cap rb R bo d) (hb : Below w.heap.size w w') : Bo B w' pb S ao cap rb R bo d := ⟨h.t.below hb, h.r.below hb, h.ap⟩
theorem Bo.t_step (h : Bo B w pb S ao cap rb R bo d) (hn : Now B pb ao S2 w w') : ∃ ao' cap', Bo B w' pb S2 ao' cap' rb R bo d ∧ Fr (Tof pb ao) w w' := by
  obtain ⟨ao', cap', ht, hf, hs⟩ := hn
  refine ⟨ao', cap', ⟨ht, h.r.fr hf (h.t.ne h.r.blk (by decide) (by decide)) ?_, ?_⟩, hf⟩
  · rintro k hk (e | e)
    · exact row_ne h.r.row h.t.blk (by decide) k hk e
    · exact h.ap k e hk
  · intro k hk hk2
    rcases hs k hk with e | e
    · exact h.ap k e hk2
    · obtain ⟨a, rfl, rfl⟩ := hk2
      have := h.r.row.lt
      omega
theorem Bo.r_step (h : Bo B w pb S ao cap rb R bo d) (hn : RNow B rb bo R2 w w') : ∃ bo' d', Bo B w' pb S ao cap rb R2 bo' d' ∧ Fr (fun k => k = rb) w w' := by
  obtain ⟨bo', d', ht, hf, hs⟩ := hn
  refine ⟨bo', d', ⟨h.t.fr hf (Blk.ne_ h.t.blk h.r.blk (by decide)) (row_ne h.t.row h.r.blk (by decide)), ht, ?_⟩, hf⟩
  intro k hk hk2
  rcases hs k hk2 with e | e
  · exact h.ap k hk e
  · obtain ⟨a, rfl, rfl⟩ := hk
    have := h.t.row.lt
    omega
theorem Tb.frB (h : Tb B w pb S ao cap) (hf : Fr (Tof pb ao) w w') (hB : B ≤ w.heap.size) : Below B w w' := by
  refine ⟨hf.os, hf.tape, hf.output, hf.size, fun k hk => hf.block k (Nat.lt_of_lt_of_le hk hB) ?_⟩
  rintro (e | e)
  · have := h.low; omega
  · have := (h.row.tag k (Nat.lt_of_lt_of_le hk hB) e).1; omega
theorem Rt.frB (h : Rt B w rb R bo d) (hf : Fr (fun k => k = rb) w w') (hB : B ≤ w.heap.size) : Below B w w' :=
  hf.below hB (fun k e => by have := h.low; omega)
end

/-- A list of one lock that has just been made. -/
theorem lks_one {w : World} {b : Nat} {x : Lk} (h : LkAt w b x) : Lks w (some ⟨b, 0, none⟩) 1 (fun _ => x) := by
  intro k hk
  obtain rfl : k = 0 := by omega
  exact ⟨b, 0, rfl, Blk.lt h, h.c0, h.c1, h.c2, h.c3⟩
theorem lks_new {B : Nat} {w : World} {pb : Nat} {S : List Lk} {ao : Option Addr} {cap : Nat} (h : Tb B w pb S ao cap) (o : Int) (a n m : Nat) :
    ∀ W, Fr (Tof pb ao) (w.alloc (.cells #[.int .i64 o, .int .u64 (a : Int), .int .u64 (n : Int), .int .u16 (m : Int)] 34)) W → Lks W (some ⟨w.heap.size, 0, none⟩) 1 (fun _ => ⟨o, a, n, m⟩) := by
  intro W hf
  refine lks_one (Blk.fr (LkAt.new w o a n m) hf ?_)
  rintro (e | e)
  · have := h.blk.lt; omega
  · obtain ⟨ad, rfl, e⟩ := e
    have := h.row.lt; omega
theorem take_new (B : Nat) (w : World) (pb : Nat) (S : List Lk) (ao : Option Addr) (cap : Nat) (op : Int) (o : Int) (a n m : Nat) (h : Tb B w pb S ao cap) (hB : B ≤ w.heap.size) :
    Calls Try.prog 15 #[.pointer (some ⟨pb, 0, none⟩), .int .i64 op, .slice (some ⟨w.heap.size, 0, none⟩) 1 1] (w.alloc (.cells #[.int .i64 o, .int .u64 (a : Int), .int .u64 (n : Int), .int .u16 (m : Int)] 34))
      fun e w' => e = .returned (.int .i64 (takeR S op (fun _ => ⟨o, a, n, m⟩) 1).1) ∧ ∃ ao' cap', Tb B w' pb (takeR S op (fun _ => ⟨o, a, n, m⟩) 1).2 ao' cap' ∧ Below B w w' := by
  have hal : Below w.heap.size w (w.alloc (.cells #[.int .i64 o, .int .u64 (a : Int), .int .u64 (n : Int), .int .u16 (m : Int)] 34)) := (Below.refl _ _).alloc (Nat.le_refl _) _
  refine (take_any B _ pb S ao cap op (some ⟨w.heap.size, 0, none⟩) 1 1 (fun _ => ⟨o, a, n, m⟩) (h.below hal) (Nat.le_trans hB hal.size) (lks_new h o a n m) (by omega)).mono ?_
  rintro e w' ⟨rfl, ao', cap', ht, hf, _⟩
  exact ⟨rfl, ao', cap', ht, (hal.mono hB).trans ((h.below hal).frB hf (Nat.le_trans hB hal.size))⟩

theorem tk1 : takeR [] 1 (fun _ => ⟨0, 0, 10, 1⟩) 1 = (0, [⟨1, 0, 10, 1⟩]) := by kernel_rfl
theorem tk2 : takeR [⟨1, 0, 10, 1⟩] 2 (fun _ => ⟨0, 5, 2, 1⟩) 1 = (0, [⟨1, 0, 10, 1⟩, ⟨2, 5, 2, 1⟩]) := by kernel_rfl
theorem tk3 : takeR [⟨1, 0, 10, 1⟩, ⟨2, 5, 2, 1⟩] 2 (fun _ => ⟨0, 8, 1, 2⟩) 1 = (12, [⟨1, 0, 10, 1⟩, ⟨2, 5, 2, 1⟩]) := by kernel_rfl
theorem bk1 : barsR [⟨1, 0, 10, 1⟩, ⟨2, 5, 2, 1⟩] 2 false 0 1 = false := by decide +kernel
theorem bk2 : barsR [⟨1, 0, 10, 1⟩, ⟨2, 5, 2, 1⟩] 1 true 0 1 = true := by decide +kernel
theorem bk3 : barsR [⟨1, 0, 10, 1⟩, ⟨2, 5, 2, 1⟩] 1 true 10 5 = false := by decide +kernel

set_option maxHeartbeats 1000000 in
theorem works_any (w : World) : Calls Try.prog 12 #[] w fun e w' => e = .returned (.bool true) ∧ Below w.heap.size w w' := by
  go_enter Try.func12, Try.ntmps12
  go_wp2_with fail
  refine (new_any w).mono ?_
  rintro e w1 ⟨pb, rfl, ht1, hb1⟩
  have HT1 := Lib.hid ht1
  have HB1 := Lib.hid hb1
  clear ht1 hb1
  go_wp2_with fail
  refine (take_new w.heap.size w1 pb [] none 0 1 0 0 10 1 HT1.out HB1.out.size).mono ?_
  rw [tk1]
  rintro e w2 ⟨rfl, ao2, cap2, ht2, hb2⟩
  have HT2 := Lib.hid ht2
  have HB2 : Hid (Below w.heap.size w w2) := HB1.out.trans hb2
  clear ht2 hb2
  go_wp2_with fail
  refine (take_new w.heap.size w2 pb _ ao2 cap2 2 0 5 2 1 HT2.out HB2.out.size).mono ?_
  rw [tk2]
  rintro e w3 ⟨rfl, ao3, cap3, ht3, hb3⟩
  have HT3 := Lib.hid ht3
  have HB3 : Hid (Below w.heap.size w w3) := HB2.out.trans hb3
  clear ht3 hb3
  go_wp2_with fail
  refine (take_new w.heap.size w3 pb _ ao3 cap3 2 0 8 1 2 HT3.out HB3.out.size).mono ?_
  rw [tk3]
  rintro e w4 ⟨rfl, ao4, cap4, ht4, hb4⟩
  have HT4 := Lib.hid ht4
  have HB4 : Hid (Below w.heap.size w w4) := HB3.out.trans hb4
  clear ht4 hb4
  go_wp2_with fail
  refine (bars_any w.heap.size w4 pb _ ao4 cap4 2 false 0 1 HT4.out (by decide)).mono ?_
  rw [bk1]
  rintro e w5 ⟨rfl, hb5⟩
  have HT5 := Lib.hid (HT4.out.below hb5)
  have HB5 : Hid (Below w.heap.size w w5) := HB4.out.trans (hb5.mono HB4.out.size)
  clear hb5
  go_wp2_with fail
  refine (bars_any w.heap.size w5 pb _ ao4 cap4 1 true 0 1 HT5.out (by decide)).mono ?_
  rw [bk2]
  rintro e w6 ⟨rfl, hb6⟩
  have HT6 := Lib.hid (HT5.out.below hb6)
  have HB6 : Hid (Below w.heap.size w w6) := HB5.out.trans (hb6.mono HB5.out.size)
  clear hb6
  go_wp2_with fail
  refine (bars_any w.heap.size w6 pb _ ao4 cap4 1 true 10 5 HT6.out (by decide)).mono ?_
  rw [bk3]
  rintro e w7 ⟨rfl, hb7⟩
  have HB7 : Hid (Below w.heap.size w w7) := HB6.out.trans (hb7.mono HB6.out.size)
  clear hb7
  go_wp2_with fail
  go_ret
  exact ⟨rfl, HB7.out⟩
end Go.Proofs.Ytgcimkbggnjcdaa
