/- Contract of act, by walks. -/
import Derived.Test.YtgcimkbggnjcdaaW17
import Derived.Deep.RegionHeld3
namespace Go.Proofs.Ytgcimkbggnjcdaa
open Go.RowKit

/-- Blocks of other types stay. -/
def Kp (w w' : World) : Prop := ∀ x t cs, Blk w x t cs → t ≠ 50 → t ≠ 34 → t ≠ 44 → Blk w' x t cs
section
variable {B : Nat} {w : World} {pb : Nat} {S : List Lk} {ao : Option Addr} {cap : Nat} {rb : Nat} {R : List Lk} {bo : Option Addr} {d : Nat}
theorem Bo.t_go {S2 : List Lk} {w' : World} (h : Bo B w pb S ao cap rb R bo d) (hB : B ≤ w.heap.size) (hn : Now B pb ao S2 w w') : ∃ ao' cap', Bo B w' pb S2 ao' cap' rb R bo d ∧ Below B w w' ∧ Kp w w' := by
  obtain ⟨ao', cap', hb, hf⟩ := h.t_step hn
  exact ⟨ao', cap', hb, h.t.frB hf hB, fun x t cs hx h1 h2 _ => hx.fr hf (h.t.ne hx h1 h2)⟩
theorem Bo.r_go {S2 : List Lk} {w' : World} (h : Bo B w pb S ao cap rb R bo d) (hB : B ≤ w.heap.size) (hn : RNow B rb bo S2 w w') : ∃ bo' d', Bo B w' pb S ao cap rb S2 bo' d' ∧ Below B w w' ∧ Kp w w' := by
  obtain ⟨bo', d', hb, hf⟩ := h.r_step hn
  exact ⟨bo', d', hb, h.r.frB hf hB, fun x t cs hx _ _ h3 => hx.fr hf (h.r.ne hx h3)⟩
theorem bo_take (op : Int) (lo : Option Addr) (n lc : Nat) (L : Nat → Lk) (h : Bo B w pb S ao cap rb R bo d) (hB : B ≤ w.heap.size) (hL : ∀ W, Below B w W → Lks W lo n L) (hn : n ≤ 9223372036854775807) :
    Calls Try.prog 15 #[.pointer (some ⟨pb, 0, none⟩), .int .i64 op, .slice lo n lc] w fun e w' => e = .returned (.int .i64 (takeR S op L n).1) ∧ ∃ ao' cap', Bo B w' pb (takeR S op L n).2 ao' cap' rb R bo d ∧ Below B w w' ∧ Kp w w' :=
  (take_any B w pb S ao cap op lo n lc L h.t hB (fun W hf => hL W (h.t.frB hf hB)) hn).mono fun _ _ ⟨he, hw⟩ => ⟨he, h.t_go hB hw⟩
theorem bo_rtake (op : Int) (lo : Option Addr) (n lc : Nat) (L : Nat → Lk) (h : Bo B w pb S ao cap rb R bo d) (hB : B ≤ w.heap.size) (hL : ∀ W, Below B w W → Lks W lo n L) (hn : n ≤ 9223372036854775807) :
    Calls Try.prog 19 #[.pointer (some ⟨rb, 0, none⟩), .int .i64 op, .slice lo n lc] w fun e w' => e = .returned (.int .i64 (takeR R op L n).1) ∧ ∃ bo' d', Bo B w' pb S ao cap rb (takeR R op L n).2 bo' d' ∧ Below B w w' ∧ Kp w w' :=
  (rtake_any B w rb R bo d op lo n lc L h.r hB (fun W hf => hL W (h.r.frB hf hB)) hn).mono fun _ _ ⟨he, hw⟩ => ⟨he, h.r_go hB hw⟩
theorem bo_drop (op : Int) (a n : Nat) (h : Bo B w pb S ao cap rb R bo d) (hB : B ≤ w.heap.size) :
    Calls Try.prog 16 #[.pointer (some ⟨pb, 0, none⟩), .int .i64 op, .int .u64 (a : Int), .int .u64 (n : Int)] w fun e w' => e = .returned (.int .i64 (dropR S op a n).1) ∧ ∃ ao' cap', Bo B w' pb (dropR S op a n).2 ao' cap' rb R bo d ∧ Below B w w' ∧ Kp w w' :=
  (drop_any B w pb S ao cap op a n h.t).mono fun _ _ ⟨he, hw⟩ => ⟨he, h.t_go hB hw⟩
theorem bo_rdrop (op : Int) (a n : Nat) (h : Bo B w pb S ao cap rb R bo d) (hB : B ≤ w.heap.size) :
    Calls Try.prog 36 #[.pointer (some ⟨rb, 0, none⟩), .int .i64 op, .int .u64 (a : Int), .int .u64 (n : Int)] w fun e w' => e = .returned (.int .i64 (dropR R op a n).1) ∧ ∃ bo' d', Bo B w' pb S ao cap rb (dropR R op a n).2 bo' d' ∧ Below B w w' ∧ Kp w w' :=
  (rdrop_any B w rb R bo d op a n h.r hB).mono fun _ _ ⟨he, hw⟩ => ⟨he, h.r_go hB hw⟩
theorem bo_close (op : Int) (h : Bo B w pb S ao cap rb R bo d) (hB : B ≤ w.heap.size) :
    Calls Try.prog 23 #[.pointer (some ⟨pb, 0, none⟩), .int .i64 op] w fun e w' => e = .returned (.int .i64 (ofN op S : Int)) ∧ ∃ ao' cap', Bo B w' pb (others op S) ao' cap' rb R bo d ∧ Below B w w' ∧ Kp w w' :=
  (close_any B w pb S ao cap op h.t).mono fun _ _ ⟨he, hw⟩ => ⟨he, h.t_go hB hw⟩
theorem bo_rclose (op : Int) (h : Bo B w pb S ao cap rb R bo d) (hB : B ≤ w.heap.size) :
    Calls Try.prog 37 #[.pointer (some ⟨rb, 0, none⟩), .int .i64 op] w fun e w' => e = .returned (.int .i64 (ofN op R : Int)) ∧ ∃ bo' d', Bo B w' pb S ao cap rb (others op R) bo' d' ∧ Below B w w' ∧ Kp w w' :=
  (rclose_any B w rb R bo d op h.r hB).mono fun _ _ ⟨he, hw⟩ => ⟨he, h.r_go hB hw⟩
end

/-- No two of which one is its open's own alone meet. -/
def Inv (S : List Lk) : Prop := S.Pairwise fun a b => clashB a b = false
theorem clash_comm (a b : Lk) : clashB a b = clashB b a := by
  unfold clashB
  rw [meetB_comm, Bool.or_comm]
theorem Inv.add {S : List Lk} {x : Lk} (h : Inv S) (hx : ¬ hadB x S = false) : Inv (S ++ [x]) := by
  refine List.pairwise_append.2 ⟨h, List.pairwise_singleton _ _, fun a ha b hb => ?_⟩
  rw [List.mem_singleton.1 hb, clash_comm]
  unfold hadB at hx
  simp only [Bool.not_eq_false', Bool.not_eq_true, List.any_eq_false] at hx
  simpa using hx a ha
theorem Inv.addFrom {op : Int} {L : Nat → Lk} {S : List Lk} (hS : Inv S) : ∀ (m k : Nat) (cur : List Lk), Inv cur → Inv (addFrom op L S m k cur).2
  | 0, _, _, h => h
  | m + 1, k, cur, h => by
    unfold Go.Proofs.Ytgcimkbggnjcdaa.addFrom
    split
    · exact hS
    · split
      · exact hS
      · rename_i h1 _
        exact Inv.addFrom hS m (k + 1) _ (h.add h1)
theorem Inv.take {S : List Lk} (h : Inv S) (op : Int) (L : Nat → Lk) (n : Nat) : Inv (takeR S op L n).2 := by
  unfold takeR
  split
  · exact h.addFrom n 0 S h
  · exact h
theorem Inv.drop {S : List Lk} (h : Inv S) (op : Int) (a n : Nat) : Inv (dropR S op a n).2 := by
  unfold dropR
  split
  · exact h.sublist (List.eraseIdx_sublist _ _)
  · exact h
theorem Inv.others {S : List Lk} (h : Inv S) (op : Int) : Inv (Go.Proofs.Ytgcimkbggnjcdaa.others op S) := h.sublist List.filter_sublist

def ActPost (B : Nat) (pb rb : Nat) (S : List Lk) (w : World) (e : Ending) (w' : World) : Prop :=
  e = .returned (.bool true) ∧ ∃ S' ao' cap' bo' d', (Inv S → Inv S') ∧ Bo B w' pb S' ao' cap' rb S' bo' d' ∧ Below B w w'

set_option maxHeartbeats 2000000 in
theorem act_take (B : Nat) (w : World) (pb : Nat) (S : List Lk) (ao : Option Addr) (cap : Nat) (rb : Nat) (bo : Option Addr) (d : Nat) (op : Int) (lo : Option Addr) (n lc : Nat) (a m : Nat) (L : Nat → Lk) (h : Bo B w pb S ao cap rb S bo d) (hB : B ≤ w.heap.size) (hL : ∀ W, Below B w W → Lks W lo n L) (hn : n ≤ 9223372036854775807) :
    Calls Try.prog 25 #[.pointer (some ⟨pb, 0, none⟩), .pointer (some ⟨rb, 0, none⟩), .agg #[.int .i64 1, .int .i64 op, .slice lo n lc, .int .u64 (a : Int), .int .u64 (m : Int)]] w (ActPost B pb rb S w) := by
  have hbl : Below w.heap.size w (w.alloc (.cells #[.int .i64 1, .int .i64 op, .slice lo n lc, .int .u64 (a : Int), .int .u64 (m : Int)] 55)) := (Below.refl _ _).alloc (Nat.le_refl _) _
  have HB1 := Lib.hid hbl
  have H1 := Lib.hid (h.below hbl)
  have HA : Hid (Blk (w.alloc (.cells #[.int .i64 1, .int .i64 op, .slice lo n lc, .int .u64 (a : Int), .int .u64 (m : Int)] 55)) w.heap.size 55 #[.int .i64 1, .int .i64 op, .slice lo n lc, .int .u64 (a : Int), .int .u64 (m : Int)]) := Blk.new _ _ _
  have HINV : Hid (Inv S → Inv (takeR S op L n).2) := fun h => h.take op L n
  have HL := Lib.hid hL
  clear hbl h hL
  obtain ⟨z, hz⟩ : ∃ z : Int, (takeR S op L n).1 = z := ⟨_, rfl⟩
  obtain ⟨S2, hS2⟩ : ∃ S2, (takeR S op L n).2 = S2 := ⟨_, rfl⟩
  rw [hS2] at HINV
  have HZ := Lib.hid hz
  have HS2 := Lib.hid hS2
  clear hz hS2
  go_enter Try.func25, Try.ntmps25
  go_wp2_with fail
  generalize w.alloc (.cells #[.int .i64 1, .int .i64 op, .slice lo n lc, .int .u64 (a : Int), .int .u64 (m : Int)] 55) = w1 at *
  have k1 : w1.cell? ⟨w.heap.size, 1, none⟩ = some (.int .i64 op) := HA.out.cell 1
  have k2 : w1.cell? ⟨w.heap.size, 2, none⟩ = some (.slice lo n lc) := HA.out.cell 2
  have hB1 : B ≤ w1.drew.heap.size := Nat.le_trans hB HB1.out.size
  have HBd : Hid (Bo B w1.drew pb S ao cap rb S bo d) := H1.out.below (Below.refl _ _).drew
  have HAd : Hid (Blk w1.drew w.heap.size 55 #[.int .i64 1, .int .i64 op, .slice lo n lc, .int .u64 (a : Int), .int .u64 (m : Int)]) := HA.out.drew
  have hL1 : Hid (∀ W, Below B w1.drew W → Lks W lo n L) := fun W hW => HL.out W ((HB1.out.drew.mono hB).trans hW)
  go_region_held3 (fun w' => w'.cell? ⟨w.heap.size, 1, none⟩ = some (.int .i64 op) ∧ w'.cell? ⟨w.heap.size, 2, none⟩ = some (.slice lo n lc)) (go_keep) (first
    | (go_at_call 15
       first
       | (have H0 := HBd.out
          refine (bo_take (w := w1.drew) op lo n lc L H0 hB1 hL1.out hn).mono ?_
          rw [HZ.out, HS2.out]
          rintro e w2 ⟨rfl, ao2, cap2, hq2, hb2, hkp⟩
          have HQ2 := Lib.hid hq2
          have HB2 := Lib.hid hb2
          have hk2 := hkp _ _ _ HAd.out (by decide) (by decide) (by decide)
          have k1' : w2.cell? ⟨w.heap.size, 1, none⟩ = some (.int .i64 op) := hk2.cell 1
          have k2' : w2.cell? ⟨w.heap.size, 2, none⟩ = some (.slice lo n lc) := hk2.cell 2
          have hB2 : B ≤ w2.heap.size := Nat.le_trans hB1 hb2.size
          have hL2 : Hid (∀ W, Below B w2 W → Lks W lo n L) := fun W hW => hL1.out W (HB2.out.trans hW)
          have HA2 := Lib.hid hk2
          clear H0 hq2 hb2 hkp hk2)
       | (refine (bo_take op lo n lc L HR2.out hB2 hL2.out hn).mono ?_
          rw [HZ.out, HS2.out]
          rintro e w3 ⟨rfl, ao3, cap3, hq3, hb3, hkp⟩
          have hk3 := hkp _ _ _ HA2.out (by decide) (by decide) (by decide)
          have k1'' : w3.cell? ⟨w.heap.size, 1, none⟩ = some (.int .i64 op) := hk3.cell 1
          have k2'' : w3.cell? ⟨w.heap.size, 2, none⟩ = some (.slice lo n lc) := hk3.cell 2
          have HQ3 := Lib.hid hq3
          have HB3 : Hid (Below B w w3) := ((HB1.out.drew.mono hB).trans HB2.out).trans hb3
          clear hq3 hb3 hkp hk3))
    | (go_at_call 19
       first
       | (have H0 := HBd.out
          refine (bo_rtake (w := w1.drew) op lo n lc L H0 hB1 hL1.out hn).mono ?_
          rw [HZ.out, HS2.out]
          rintro e w2 ⟨rfl, ao2, cap2, hq2, hb2, hkp⟩
          have HR2 := Lib.hid hq2
          have HB2 := Lib.hid hb2
          have hk2 := hkp _ _ _ HAd.out (by decide) (by decide) (by decide)
          have k1' : w2.cell? ⟨w.heap.size, 1, none⟩ = some (.int .i64 op) := hk2.cell 1
          have k2' : w2.cell? ⟨w.heap.size, 2, none⟩ = some (.slice lo n lc) := hk2.cell 2
          have hB2 : B ≤ w2.heap.size := Nat.le_trans hB1 hb2.size
          have hL2 : Hid (∀ W, Below B w2 W → Lks W lo n L) := fun W hW => hL1.out W (HB2.out.trans hW)
          have HA2 := Lib.hid hk2
          clear H0 hq2 hb2 hkp hk2)
       | (refine (bo_rtake op lo n lc L HQ2.out hB2 hL2.out hn).mono ?_
          rw [HZ.out, HS2.out]
          rintro e w3 ⟨rfl, ao3, cap3, hq3, hb3, hkp⟩
          have hk3 := hkp _ _ _ HA2.out (by decide) (by decide) (by decide)
          have k1'' : w3.cell? ⟨w.heap.size, 1, none⟩ = some (.int .i64 op) := hk3.cell 1
          have k2'' : w3.cell? ⟨w.heap.size, 2, none⟩ = some (.slice lo n lc) := hk3.cell 2
          have HQ3 := Lib.hid hq3
          have HB3 : Hid (Below B w w3) := ((HB1.out.drew.mono hB).trans HB2.out).trans hb3
          clear hq3 hb3 hkp hk3)))
  all_goals
    go_wp2_with fail
    go_ret
    exact ⟨rfl, S2, _, _, _, _, HINV.out, HQ3.out, HB3.out⟩

set_option maxHeartbeats 2000000 in
theorem act_drop (B : Nat) (w : World) (pb : Nat) (S : List Lk) (ao : Option Addr) (cap : Nat) (rb : Nat) (bo : Option Addr) (d : Nat) (op : Int) (lo : Option Addr) (n lc : Nat) (a m : Nat) (h : Bo B w pb S ao cap rb S bo d) (hB : B ≤ w.heap.size) :
    Calls Try.prog 25 #[.pointer (some ⟨pb, 0, none⟩), .pointer (some ⟨rb, 0, none⟩), .agg #[.int .i64 2, .int .i64 op, .slice lo n lc, .int .u64 (a : Int), .int .u64 (m : Int)]] w (ActPost B pb rb S w) := by
  have hbl : Below w.heap.size w (w.alloc (.cells #[.int .i64 2, .int .i64 op, .slice lo n lc, .int .u64 (a : Int), .int .u64 (m : Int)] 55)) := (Below.refl _ _).alloc (Nat.le_refl _) _
  have HB1 := Lib.hid hbl
  have H1 := Lib.hid (h.below hbl)
  have HA : Hid (Blk (w.alloc (.cells #[.int .i64 2, .int .i64 op, .slice lo n lc, .int .u64 (a : Int), .int .u64 (m : Int)] 55)) w.heap.size 55 #[.int .i64 2, .int .i64 op, .slice lo n lc, .int .u64 (a : Int), .int .u64 (m : Int)]) := Blk.new _ _ _
  have HINV : Hid (Inv S → Inv (dropR S op a m).2) := fun h => h.drop op a m

  clear hbl h
  obtain ⟨z, hz⟩ : ∃ z : Int, (dropR S op a m).1 = z := ⟨_, rfl⟩
  obtain ⟨S2, hS2⟩ : ∃ S2, (dropR S op a m).2 = S2 := ⟨_, rfl⟩
  rw [hS2] at HINV
  have HZ := Lib.hid hz
  have HS2 := Lib.hid hS2
  clear hz hS2
  go_enter Try.func25, Try.ntmps25
  go_wp2_with fail
  generalize w.alloc (.cells #[.int .i64 2, .int .i64 op, .slice lo n lc, .int .u64 (a : Int), .int .u64 (m : Int)] 55) = w1 at *
  have k1 : w1.cell? ⟨w.heap.size, 1, none⟩ = some (.int .i64 op) := HA.out.cell 1
  have k3 : w1.cell? ⟨w.heap.size, 3, none⟩ = some (.int .u64 (a : Int)) := HA.out.cell 3
  have k4 : w1.cell? ⟨w.heap.size, 4, none⟩ = some (.int .u64 (m : Int)) := HA.out.cell 4
  have hB1 : B ≤ w1.drew.heap.size := Nat.le_trans hB HB1.out.size
  have HBd : Hid (Bo B w1.drew pb S ao cap rb S bo d) := H1.out.below (Below.refl _ _).drew
  have HAd : Hid (Blk w1.drew w.heap.size 55 #[.int .i64 2, .int .i64 op, .slice lo n lc, .int .u64 (a : Int), .int .u64 (m : Int)]) := HA.out.drew
  go_region_held3 (fun w' => w'.cell? ⟨w.heap.size, 1, none⟩ = some (.int .i64 op) ∧ w'.cell? ⟨w.heap.size, 3, none⟩ = some (.int .u64 (a : Int)) ∧ w'.cell? ⟨w.heap.size, 4, none⟩ = some (.int .u64 (m : Int))) (go_keep) (first
    | (go_at_call 16
       first
       | (have H0 := HBd.out
          refine (bo_drop (w := w1.drew) op a m H0 hB1).mono ?_
          rw [HZ.out, HS2.out]
          rintro e w2 ⟨rfl, ao2, cap2, hq2, hb2, hkp⟩
          have HQ2 := Lib.hid hq2
          have HB2 := Lib.hid hb2
          have hk2 := hkp _ _ _ HAd.out (by decide) (by decide) (by decide)
          have k1' : w2.cell? ⟨w.heap.size, 1, none⟩ = some (.int .i64 op) := hk2.cell 1
          have k3' : w2.cell? ⟨w.heap.size, 3, none⟩ = some (.int .u64 (a : Int)) := hk2.cell 3
          have k4' : w2.cell? ⟨w.heap.size, 4, none⟩ = some (.int .u64 (m : Int)) := hk2.cell 4
          have hB2 : B ≤ w2.heap.size := Nat.le_trans hB1 hb2.size
          have HA2 := Lib.hid hk2
          clear H0 hq2 hb2 hkp hk2)
       | (refine (bo_drop op a m HR2.out hB2).mono ?_
          rw [HZ.out, HS2.out]
          rintro e w3 ⟨rfl, ao3, cap3, hq3, hb3, hkp⟩
          have hk3 := hkp _ _ _ HA2.out (by decide) (by decide) (by decide)
          have k1'' : w3.cell? ⟨w.heap.size, 1, none⟩ = some (.int .i64 op) := hk3.cell 1
          have k3'' : w3.cell? ⟨w.heap.size, 3, none⟩ = some (.int .u64 (a : Int)) := hk3.cell 3
          have k4'' : w3.cell? ⟨w.heap.size, 4, none⟩ = some (.int .u64 (m : Int)) := hk3.cell 4
          have HQ3 := Lib.hid hq3
          have HB3 : Hid (Below B w w3) := ((HB1.out.drew.mono hB).trans HB2.out).trans hb3
          clear hq3 hb3 hkp hk3))
    | (go_at_call 36
       first
       | (have H0 := HBd.out
          refine (bo_rdrop (w := w1.drew) op a m H0 hB1).mono ?_
          rw [HZ.out, HS2.out]
          rintro e w2 ⟨rfl, ao2, cap2, hq2, hb2, hkp⟩
          have HR2 := Lib.hid hq2
          have HB2 := Lib.hid hb2
          have hk2 := hkp _ _ _ HAd.out (by decide) (by decide) (by decide)
          have k1' : w2.cell? ⟨w.heap.size, 1, none⟩ = some (.int .i64 op) := hk2.cell 1
          have k3' : w2.cell? ⟨w.heap.size, 3, none⟩ = some (.int .u64 (a : Int)) := hk2.cell 3
          have k4' : w2.cell? ⟨w.heap.size, 4, none⟩ = some (.int .u64 (m : Int)) := hk2.cell 4
          have hB2 : B ≤ w2.heap.size := Nat.le_trans hB1 hb2.size
          have HA2 := Lib.hid hk2
          clear H0 hq2 hb2 hkp hk2)
       | (refine (bo_rdrop op a m HQ2.out hB2).mono ?_
          rw [HZ.out, HS2.out]
          rintro e w3 ⟨rfl, ao3, cap3, hq3, hb3, hkp⟩
          have hk3 := hkp _ _ _ HA2.out (by decide) (by decide) (by decide)
          have k1'' : w3.cell? ⟨w.heap.size, 1, none⟩ = some (.int .i64 op) := hk3.cell 1
          have k3'' : w3.cell? ⟨w.heap.size, 3, none⟩ = some (.int .u64 (a : Int)) := hk3.cell 3
          have k4'' : w3.cell? ⟨w.heap.size, 4, none⟩ = some (.int .u64 (m : Int)) := hk3.cell 4
          have HQ3 := Lib.hid hq3
          have HB3 : Hid (Below B w w3) := ((HB1.out.drew.mono hB).trans HB2.out).trans hb3
          clear hq3 hb3 hkp hk3)))
  all_goals
    go_wp2_with fail
    go_ret
    exact ⟨rfl, S2, _, _, _, _, HINV.out, HQ3.out, HB3.out⟩

set_option maxHeartbeats 2000000 in
theorem act_close (B : Nat) (w : World) (pb : Nat) (S : List Lk) (ao : Option Addr) (cap : Nat) (rb : Nat) (bo : Option Addr) (d : Nat) (op : Int) (lo : Option Addr) (n lc : Nat) (a m : Nat) (h : Bo B w pb S ao cap rb S bo d) (hB : B ≤ w.heap.size) :
    Calls Try.prog 25 #[.pointer (some ⟨pb, 0, none⟩), .pointer (some ⟨rb, 0, none⟩), .agg #[.int .i64 3, .int .i64 op, .slice lo n lc, .int .u64 (a : Int), .int .u64 (m : Int)]] w (ActPost B pb rb S w) := by
  have hbl : Below w.heap.size w (w.alloc (.cells #[.int .i64 3, .int .i64 op, .slice lo n lc, .int .u64 (a : Int), .int .u64 (m : Int)] 55)) := (Below.refl _ _).alloc (Nat.le_refl _) _
  have HB1 := Lib.hid hbl
  have H1 := Lib.hid (h.below hbl)
  have HA : Hid (Blk (w.alloc (.cells #[.int .i64 3, .int .i64 op, .slice lo n lc, .int .u64 (a : Int), .int .u64 (m : Int)] 55)) w.heap.size 55 #[.int .i64 3, .int .i64 op, .slice lo n lc, .int .u64 (a : Int), .int .u64 (m : Int)]) := Blk.new _ _ _
  have HINV : Hid (Inv S → Inv (others op S)) := fun h => h.others op

  clear hbl h
  obtain ⟨z, hz⟩ : ∃ z : Int, (ofN op S : Int) = z := ⟨_, rfl⟩
  obtain ⟨S2, hS2⟩ : ∃ S2, (others op S) = S2 := ⟨_, rfl⟩
  rw [hS2] at HINV
  have HZ := Lib.hid hz
  have HS2 := Lib.hid hS2
  clear hz hS2
  go_enter Try.func25, Try.ntmps25
  go_wp2_with fail
  generalize w.alloc (.cells #[.int .i64 3, .int .i64 op, .slice lo n lc, .int .u64 (a : Int), .int .u64 (m : Int)] 55) = w1 at *
  have k1 : w1.cell? ⟨w.heap.size, 1, none⟩ = some (.int .i64 op) := HA.out.cell 1
  have hB1 : B ≤ w1.drew.heap.size := Nat.le_trans hB HB1.out.size
  have HBd : Hid (Bo B w1.drew pb S ao cap rb S bo d) := H1.out.below (Below.refl _ _).drew
  have HAd : Hid (Blk w1.drew w.heap.size 55 #[.int .i64 3, .int .i64 op, .slice lo n lc, .int .u64 (a : Int), .int .u64 (m : Int)]) := HA.out.drew
  go_region_held3 (fun w' => w'.cell? ⟨w.heap.size, 1, none⟩ = some (.int .i64 op)) (go_keep) (first
    | (go_at_call 23
       first
       | (have H0 := HBd.out
          refine (bo_close (w := w1.drew) op H0 hB1).mono ?_
          rw [HZ.out, HS2.out]
          rintro e w2 ⟨rfl, ao2, cap2, hq2, hb2, hkp⟩
          have HQ2 := Lib.hid hq2
          have HB2 := Lib.hid hb2
          have hk2 := hkp _ _ _ HAd.out (by decide) (by decide) (by decide)
          have k1' : w2.cell? ⟨w.heap.size, 1, none⟩ = some (.int .i64 op) := hk2.cell 1
          have hB2 : B ≤ w2.heap.size := Nat.le_trans hB1 hb2.size
          have HA2 := Lib.hid hk2
          clear H0 hq2 hb2 hkp hk2)
       | (refine (bo_close op HR2.out hB2).mono ?_
          rw [HZ.out, HS2.out]
          rintro e w3 ⟨rfl, ao3, cap3, hq3, hb3, hkp⟩
          have hk3 := hkp _ _ _ HA2.out (by decide) (by decide) (by decide)
          have k1'' : w3.cell? ⟨w.heap.size, 1, none⟩ = some (.int .i64 op) := hk3.cell 1
          have HQ3 := Lib.hid hq3
          have HB3 : Hid (Below B w w3) := ((HB1.out.drew.mono hB).trans HB2.out).trans hb3
          clear hq3 hb3 hkp hk3))
    | (go_at_call 37
       first
       | (have H0 := HBd.out
          refine (bo_rclose (w := w1.drew) op H0 hB1).mono ?_
          rw [HZ.out, HS2.out]
          rintro e w2 ⟨rfl, ao2, cap2, hq2, hb2, hkp⟩
          have HR2 := Lib.hid hq2
          have HB2 := Lib.hid hb2
          have hk2 := hkp _ _ _ HAd.out (by decide) (by decide) (by decide)
          have k1' : w2.cell? ⟨w.heap.size, 1, none⟩ = some (.int .i64 op) := hk2.cell 1
          have hB2 : B ≤ w2.heap.size := Nat.le_trans hB1 hb2.size
          have HA2 := Lib.hid hk2
          clear H0 hq2 hb2 hkp hk2)
       | (refine (bo_rclose op HQ2.out hB2).mono ?_
          rw [HZ.out, HS2.out]
          rintro e w3 ⟨rfl, ao3, cap3, hq3, hb3, hkp⟩
          have hk3 := hkp _ _ _ HA2.out (by decide) (by decide) (by decide)
          have k1'' : w3.cell? ⟨w.heap.size, 1, none⟩ = some (.int .i64 op) := hk3.cell 1
          have HQ3 := Lib.hid hq3
          have HB3 : Hid (Below B w w3) := ((HB1.out.drew.mono hB).trans HB2.out).trans hb3
          clear hq3 hb3 hkp hk3)))
  all_goals
    go_wp2_with fail
    go_ret
    exact ⟨rfl, S2, _, _, _, _, HINV.out, HQ3.out, HB3.out⟩

theorem act_none (B : Nat) (w : World) (pb : Nat) (S : List Lk) (ao : Option Addr) (cap : Nat) (rb : Nat) (bo : Option Addr) (d : Nat) (z op : Int) (lo : Option Addr) (n lc : Nat) (a m : Nat) (h : Bo B w pb S ao cap rb S bo d) (hB : B ≤ w.heap.size) (h1 : ¬ z = 1) (h2 : ¬ z = 2) (h3 : ¬ z = 3) :
    Calls Try.prog 25 #[.pointer (some ⟨pb, 0, none⟩), .pointer (some ⟨rb, 0, none⟩), .agg #[.int .i64 z, .int .i64 op, .slice lo n lc, .int .u64 (a : Int), .int .u64 (m : Int)]] w (ActPost B pb rb S w) := by
  have hbl : Below w.heap.size w (w.alloc (.cells #[.int .i64 z, .int .i64 op, .slice lo n lc, .int .u64 (a : Int), .int .u64 (m : Int)] 55)) := (Below.refl _ _).alloc (Nat.le_refl _) _
  have HB1 : Hid (Below B w _) := hbl.mono hB
  have H1 := Lib.hid (h.below hbl)
  clear hbl h
  have e1 : (z == 1) = false := by simpa using h1
  have e2 : (z == 2) = false := by simpa using h2
  have e3 : (z == 3) = false := by simpa using h3
  clear h1 h2 h3
  go_enter Try.func25, Try.ntmps25
  go_wp2_with fail
  go_ret
  exact ⟨rfl, S, _, _, _, _, fun h => h, H1.out, HB1.out⟩

theorem act_any (B : Nat) (w : World) (pb : Nat) (S : List Lk) (ao : Option Addr) (cap : Nat) (rb : Nat) (bo : Option Addr) (d : Nat) (z op : Int) (lo : Option Addr) (n lc : Nat) (a m : Nat) (L : Nat → Lk) (h : Bo B w pb S ao cap rb S bo d) (hB : B ≤ w.heap.size) (hL : ∀ W, Below B w W → Lks W lo n L) (hn : n ≤ 9223372036854775807) :
    Calls Try.prog 25 #[.pointer (some ⟨pb, 0, none⟩), .pointer (some ⟨rb, 0, none⟩), .agg #[.int .i64 z, .int .i64 op, .slice lo n lc, .int .u64 (a : Int), .int .u64 (m : Int)]] w (ActPost B pb rb S w) := by
  by_cases h1 : z = 1
  · subst h1; exact act_take B w pb S ao cap rb bo d op lo n lc a m L h hB hL hn
  by_cases h2 : z = 2
  · subst h2; exact act_drop B w pb S ao cap rb bo d op lo n lc a m h hB
  by_cases h3 : z = 3
  · subst h3; exact act_close B w pb S ao cap rb bo d op lo n lc a m h hB
  exact act_none B w pb S ao cap rb bo d z op lo n lc a m h hB h1 h2 h3
end Go.Proofs.Ytgcimkbggnjcdaa
