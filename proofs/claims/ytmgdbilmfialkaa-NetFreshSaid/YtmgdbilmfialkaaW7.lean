/- What a law holds of its net; contract of works, by a walk. -/
import Derived.Test.YtmgdbilmfialkaaW6
namespace Go.Proofs.Ytmgdbilmfialkaa
open Go.RowKit Go.WideShapes Go.Maps

/-- A NET, and whose the blocks are: what was there before, and what is still to come, is no net's. -/
structure Env (B : Nat) (w : World) (pb mb : Nat) (last : Int) (A : List Ab) (own : Own) : Prop where
  net : NetA B w pb mb last A own
  old : ∀ i, i < B → own i = (0, 9)
  new : ∀ i, w.heap.size ≤ i → own i = (0, 9)
  hB : B ≤ w.heap.size
/-- What a call of the net's leaves. -/
def Stp (B pb mb : Nat) (last : Int) (A : List Ab) (own : Own) (w w' : World) : Prop := ∃ own', Env B w' pb mb last A own' ∧ Fr (FP own) w w' ∧ Below B w w' ∧ ∀ i, i < w.heap.size → own' i = own i
section
variable {B : Nat} {w w' : World} {pb mb : Nat} {last : Int} {A : List Ab} {own : Own}
theorem Env.below (h : Env B w pb mb last A own) (hb : Below w.heap.size w w') : Env B w' pb mb last A own := ⟨h.net.below hb, h.old, fun i hi => h.new i (Nat.le_trans hb.size hi), Nat.le_trans h.hB hb.size⟩
theorem Env.frB (h : Env B w pb mb last A own) (hf : Fr (FP own) w w') : Below B w w' :=
  ⟨hf.os, hf.tape, hf.output, hf.size, fun k hk => hf.block k (Nat.lt_of_lt_of_le hk h.hB) (fun hq => by unfold FP at hq; rw [h.old k hk] at hq; simp at hq)⟩
theorem Env.stp {last' : Int} {A' : List Ab} {own' : Own} (h : Env B w pb mb last A own) (hn : NetA B w' pb mb last' A' own') (hf : Fr (FP own) w w') (ho : ∀ i, i < w.heap.size → own' i = own i) :
    ∃ own2, Env B w' pb mb last' A' own2 ∧ Fr (FP own) w w' ∧ Below B w w' ∧ (∀ i, i < w.heap.size → own2 i = own i) ∧ ∀ i, i < w'.heap.size → own2 i = own' i := by
  refine ⟨mark own' w'.heap.size (0, 9), ⟨hn.relabel (mark_old _ _ _), fun i hi => ?_, fun i hi => mark_new _ _ _ hi, Nat.le_trans h.hB hf.size⟩, hf, h.frB hf, fun i hi => ?_, mark_old _ _ _⟩
  · have h1 := h.hB
    have h2 := hf.size
    rw [mark_old _ _ _ i (by omega), ho i (by omega)]
    exact h.old i hi
  · have h2 := hf.size
    rw [mark_old _ _ _ i (by omega)]
    exact ho i hi
theorem Env.aft {last' : Int} {A' : List Ab} (h : Env B w pb mb last A own) (ha : Aft B pb mb last' A' own w w') : Stp B pb mb last' A' own w w' := by
  obtain ⟨own', hn, hf, ho⟩ := ha
  obtain ⟨own2, h1, h2, h3, h4, _⟩ := h.stp hn hf ho
  exact ⟨own2, h1, h2, h3, h4⟩
end
/-- A slice of the law's own, or one that came in: no net's. -/
def Out (own : Own) (ao : Option Addr) : Prop := ∀ k, rowOf ao k → own k = (0, 9)
theorem Src.step {K : Nat} {w w' : World} {ao : Option Addr} {n : Nat} {xs : List Value} {own : Own} (h : Src w K ao n xs) (ho : Out own ao) (hf : Fr (FP own) w w') : Src w' K ao n xs :=
  h.fr hf (fun k hk _ hq => by unfold FP at hq; rw [ho k hk] at hq; simp at hq)
theorem Row.step {C : Nat} {e : TypeId} {K n cap : Nat} {w w' : World} {ao : Option Addr} {xs : List Value} {own : Own} (h : Row C w e K ao n cap xs) (ho : Out own ao) (hf : Fr (FP own) w w') : Row C w' e K ao n cap xs :=
  h.fr hf (fun k hk hq => by unfold FP at hq; rw [ho k hk] at hq; simp at hq)
theorem Out.step {w : World} {ao : Option Addr} {own own' : Own} (h : Out own ao) (hlt : ∀ k, rowOf ao k → k < w.heap.size) (ho : ∀ i, i < w.heap.size → own' i = own i) : Out own' ao := fun k hk => (ho k (hlt k hk)).trans (h k hk)
theorem Out.new {B : Nat} {w : World} {pb mb : Nat} {last : Int} {A : List Ab} {own : Own} {ao : Option Addr} (h : Env B w pb mb last A own) (hlt : ∀ k, rowOf ao k → w.heap.size ≤ k) : Out own ao := fun k hk => h.new k (hlt k hk)

theorem env_new (w : World) : Calls Try.prog 9 #[] w fun e w' => ∃ pb mb own, e = .returned (.pointer (some ⟨pb, 0, none⟩)) ∧ Env w.heap.size w' pb mb 0 [] own ∧ Below w.heap.size w w' := by
  refine (new_any w).mono ?_
  rintro e w' ⟨pb, mb, rfl, hn, hb⟩
  refine ⟨pb, mb, fun i => if i < w.heap.size then (0, 9) else if i < w'.heap.size then (0, 2) else (0, 9), rfl, ⟨?_, fun i hi => by simp [hi], fun i hi => ?_, hb.size⟩, hb⟩
  · refine ⟨[], rfl, hn.lowp, hn.lowm, hn.blk, hn.map, (fun x hx => by cases hx), List.Pairwise.nil, (fun x hx => by cases hx), by simp, by simp, by simp, ?_, ?_⟩
    · have h1 := hn.lowp
      have h2 := hn.blk.lt
      show (if pb < w.heap.size then ((0, 9) : Int × Nat) else _) = _
      rw [if_neg (by omega), if_pos h2]
    · have h1 := hn.lowm
      have h2 := hn.map.lt
      show (if mb < w.heap.size then ((0, 9) : Int × Nat) else _) = _
      rw [if_neg (by omega), if_pos h2]
  · have := hb.size
    show (if i < w.heap.size then ((0, 9) : Int × Nat) else _) = _
    rw [if_neg (by omega), if_neg (by omega)]
theorem env_link (B : Nat) (w : World) (pb mb : Nat) (last : Int) (A : List Ab) (own : Own) (h : Env B w pb mb last A own) (hlast : last < 1000000) :
    Calls Try.prog 10 #[.pointer (some ⟨pb, 0, none⟩)] w fun e w' => e = .returned (.tuple #[.int .i64 (linkR A last).1, .int .i64 (linkR A last).2.1]) ∧ Stp B pb mb (linkR A last).2.2.1 (linkR A last).2.2.2 own w w' :=
  (link_any B w pb mb last A own h.net h.hB hlast).mono fun _ _ ⟨he, ha⟩ => ⟨he, h.aft ha⟩
theorem env_send (B : Nat) (w : World) (pb mb : Nat) (last : Int) (A : List Ab) (own : Own) (k way : Int) (bo : Option Addr) (bn bc : Nat) (bs : List Value) (h : Env B w pb mb last A own) (h1 : -9223372036854775808 ≤ k) (h2 : k ≤ 9223372036854775807)
    (hb : Src w 1 bo bn bs) (hy : AllB bs) (hn : bn ≤ 9223372036854775807) :
    Calls Try.prog 11 #[.pointer (some ⟨pb, 0, none⟩), .int .i64 k, .int .i64 way, .slice bo bn bc] w fun e w' => e = .returned (.int .i64 (sendR A k way bs).1) ∧ Stp B pb mb last (sendR A k way bs).2 own w w' :=
  (send_any B w pb mb last A own k way bo bn bc bs h.net h.hB h1 h2 hb hy hn).mono fun _ _ ⟨he, ha⟩ => ⟨he, h.aft ha⟩
theorem env_cut (B : Nat) (w : World) (pb mb : Nat) (last : Int) (A : List Ab) (own : Own) (k : Int) (h : Env B w pb mb last A own) (h1 : -9223372036854775808 ≤ k) (h2 : k ≤ 9223372036854775807) :
    Calls Try.prog 21 #[.pointer (some ⟨pb, 0, none⟩), .int .i64 k] w fun e w' => e = .returned (.int .i64 (cutR A k).1) ∧ Stp B pb mb last (cutR A k).2 own w w' :=
  (cut_any B w pb mb last A own k h.net h1 h2).mono fun _ _ ⟨he, ha⟩ => ⟨he, h.aft ha⟩
/-- Move: what is answered lies in new memory. -/
def MoveE (B pb mb : Nat) (last : Int) (r : List Value × Int × List Ab) (own : Own) (w : World) (e : Ending) (w' : World) : Prop :=
  ∃ ro rc own', e = .returned (.tuple #[.slice ro r.1.length rc, .int .i64 r.2.1]) ∧ Row w.heap.size w' 5 1 ro r.1.length rc r.1 ∧ AllB r.1 ∧ Out own' ro ∧ Env B w' pb mb last r.2.2 own' ∧ Fr (FP own) w w' ∧ Below B w w' ∧ ∀ i, i < w.heap.size → own' i = own i
theorem env_move (B : Nat) (w : World) (pb mb : Nat) (last : Int) (A : List Ab) (own : Own) (k way most : Int) (h : Env B w pb mb last A own) (h1 : -9223372036854775808 ≤ k) (h2 : k ≤ 9223372036854775807) :
    Calls Try.prog 14 #[.pointer (some ⟨pb, 0, none⟩), .int .i64 k, .int .i64 way, .int .i64 most] w (MoveE B pb mb last (moveR A k way most) own w) := by
  refine (move_any B w pb mb last A own k way most h.net h.hB h1 h2).mono ?_
  rintro e w' ⟨ro, rc, own', he, hr, hy, ho, hn, hf, hq⟩
  obtain ⟨own2, e1, e2, e3, e4, e5⟩ := h.stp hn hf hq
  exact ⟨ro, rc, own2, he, hr, hy, fun k hk => (e5 k (row_lt hr k hk)).trans (ho k hk), e1, e2, e3, e4⟩
theorem env_waits (B : Nat) (w : World) (pb mb : Nat) (last : Int) (A : List Ab) (own : Own) (k way : Int) (h : Env B w pb mb last A own) (h1 : -9223372036854775808 ≤ k) (h2 : k ≤ 9223372036854775807) :
    Calls Try.prog 13 #[.pointer (some ⟨pb, 0, none⟩), .int .i64 k, .int .i64 way] w fun e w' => e = .returned (.int .i64 (waitsR A k way : Int)) ∧ w = w' := waits_any B w pb mb last A own k way h.net h1 h2

/-- Bytes that have just been laid. -/
theorem src_new (w : World) (cs : Array Value) (fr : Nat × Nat) (hcs : ∀ v ∈ cs.toList, ∃ z : Int, v = .int .u8 z) : Src (w.alloc (.cells cs 5 fr)) 1 (some ⟨w.heap.size, 0, none⟩) cs.size cs.toList ∧ AllB cs.toList := by
  refine ⟨⟨by simp, fun j u hj => ⟨w.heap.size, 0, rfl, by simp, ?_⟩⟩, hcs⟩
  rw [Nat.zero_add, cell_of_row _ w.heap.size j cs 5 fr (heap_alloc_new w _)]
  simpa using hj
theorem conv_new (w : World) (cs : Array Value) (n c : Nat) : (convert 29 29 (.slice (some ⟨w.heap.size, 0, none⟩) n c)).run Try.prog (w.alloc (.cells cs 5)) = .ok (.slice (some ⟨w.heap.size, 0, none⟩) n c) (w.alloc (.cells cs 5 (cs.size, cs.size + 1))) :=
  Lib.run_convert_bytes_const w 29 5 cs n c Try.underlying29 Try.underlying5

set_option maxRecDepth 100000 in
set_option maxHeartbeats 1000000 in
theorem works_any (w : World) : Calls Try.prog 12 #[] w fun e w' => e = .returned (.bool true) ∧ Below w.heap.size w w' := by
  go_enter Try.func12, Try.ntmps12
  go_wp2_with fail
  refine (env_new w).mono ?_
  rintro e w1 ⟨pb, mb, own1, rfl, he1, hb1⟩
  have HE1 := Lib.hid he1
  have HB1 := Lib.hid hb1
  clear he1 hb1
  go_wp2_with fail
  refine (env_link _ w1 pb mb 0 [] own1 HE1.out (by decide)).mono ?_
  rw [show linkR [] 0 = (1, 0, 1, [⟨1, [], []⟩]) from rfl]
  rintro e w2 ⟨rfl, own2, he2, hf2, hb2, hq2⟩
  have HE2 : Hid (Env w.heap.size w2 pb mb 1 [⟨1, [], []⟩] own2) := he2
  have HB2 : Hid (Below w.heap.size w w2) := HB1.out.trans hb2
  have hcvw2 : (convert 29 29 (.slice (some ⟨w2.heap.size, 0, none⟩) 3 3)).run Try.prog (w2.alloc (.cells #[.int .u8 97, .int .u8 98, .int .u8 99] 5)) = .ok (.slice (some ⟨w2.heap.size, 0, none⟩) 3 3) (w2.alloc (.cells #[.int .u8 97, .int .u8 98, .int .u8 99] 5 (3, 4))) := conv_new w2 #[.int .u8 97, .int .u8 98, .int .u8 99] 3 3
  have hal : Below w2.heap.size w2 (w2.alloc (.cells #[.int .u8 97, .int .u8 98, .int .u8 99] 5 (3, 4))) := (Below.refl _ _).alloc (Nat.le_refl _) _
  have HE3 := Lib.hid (HE2.out.below hal)
  have HB3 : Hid (Below w.heap.size w _) := HB2.out.trans (hal.mono HE2.out.hB)
  have HS3 := Lib.hid (src_new w2 #[.int .u8 97, .int .u8 98, .int .u8 99] (3, 4) (by intro v hv; simp at hv; rcases hv with rfl | rfl | rfl <;> exact ⟨_, rfl⟩))
  clear he2 hf2 hb2 hq2 hal
  go_wp2_with fail
  clear hcvw2
  generalize w2.alloc (.cells #[.int .u8 97, .int .u8 98, .int .u8 99] 5 (3, 4)) = w3 at *
  refine (env_send _ w3 pb mb 1 _ own2 1 0 (some ⟨w2.heap.size, 0, none⟩) 3 3 [.int .u8 97, .int .u8 98, .int .u8 99] HE3.out (by decide) (by decide) HS3.out.1 HS3.out.2 (by decide)).mono ?_
  rw [show sendR [⟨1, [], []⟩] 1 0 [.int .u8 97, .int .u8 98, .int .u8 99] = (0, [⟨1, [.int .u8 97, .int .u8 98, .int .u8 99], []⟩]) from rfl]
  rintro e w4 ⟨rfl, own4, he4, hf4, hb4, hq4⟩
  have HE4 : Hid (Env w.heap.size w4 pb mb 1 [⟨1, [.int .u8 97, .int .u8 98, .int .u8 99], []⟩] own4) := he4
  have HB4 : Hid (Below w.heap.size w w4) := HB3.out.trans hb4
  clear he4 hf4 hb4 hq4
  go_wp2_with fail
  refine (env_move _ w4 pb mb 1 _ own4 1 0 2 HE4.out (by decide) (by decide)).mono ?_
  rw [show moveR [⟨1, [.int .u8 97, .int .u8 98, .int .u8 99], []⟩] 1 0 2 = ([.int .u8 97, .int .u8 98], 0, [⟨1, [.int .u8 99], []⟩]) from rfl]
  rintro e w5 ⟨ro5, rc5, own5, rfl, hr5, hy5, ho5, he5, hf5, hb5, hq5⟩
  have HE5 : Hid (Env w.heap.size w5 pb mb 1 [⟨1, [.int .u8 99], []⟩] own5) := he5
  have HB5 : Hid (Below w.heap.size w w5) := HB4.out.trans hb5
  have HR5 : Hid (Row w4.heap.size w5 5 1 ro5 2 rc5 [.int .u8 97, .int .u8 98]) := hr5
  have HO5 := Lib.hid ho5
  clear hr5 hy5 ho5 he5 hf5 hb5 hq5
  go_wp2_with fail
  refine (env_move _ w5 pb mb 1 _ own5 1 0 0 HE5.out (by decide) (by decide)).mono ?_
  rw [show moveR [⟨1, [.int .u8 99], []⟩] 1 0 0 = ([.int .u8 99], 0, [⟨1, [], []⟩]) from rfl]
  rintro e w6 ⟨ro6, rc6, own6, rfl, hr6, hy6, ho6, he6, hf6, hb6, hq6⟩
  have HE6 : Hid (Env w.heap.size w6 pb mb 1 [⟨1, [], []⟩] own6) := he6
  have HB6 : Hid (Below w.heap.size w w6) := HB5.out.trans hb6
  have HR6 : Hid (Row w5.heap.size w6 5 1 ro6 1 rc6 [.int .u8 99]) := hr6
  have HO6 := Lib.hid ho6
  have HR56 := Lib.hid (HR5.out.step HO5.out hf6)
  have HO56 := Lib.hid (HO5.out.step (row_lt HR5.out) hq6)
  clear hr6 hy6 ho6 he6 hf6 hb6 hq6
  go_wp2_with fail
  refine (env_cut _ w6 pb mb 1 _ own6 1 HE6.out (by decide) (by decide)).mono ?_
  rw [show cutR [⟨1, [], []⟩] 1 = (0, []) from rfl]
  rintro e w7 ⟨rfl, own7, he7, hf7, hb7, hq7⟩
  have HE7 : Hid (Env w.heap.size w7 pb mb 1 [] own7) := he7
  have HB7 : Hid (Below w.heap.size w w7) := HB6.out.trans hb7
  have HR57 := Lib.hid (HR56.out.step HO56.out hf7)
  have HO57 := Lib.hid (HO56.out.step (row_lt HR56.out) hq7)
  have HR67 := Lib.hid (HR6.out.step HO6.out hf7)
  have HO67 := Lib.hid (HO6.out.step (row_lt HR6.out) hq7)
  clear he7 hf7 hb7 hq7
  go_wp2_with fail
  refine (env_link _ w7 pb mb 1 [] own7 HE7.out (by decide)).mono ?_
  rw [show linkR [] 1 = (2, 0, 2, [⟨2, [], []⟩]) from rfl]
  rintro e w8 ⟨rfl, own8, he8, hf8, hb8, hq8⟩
  have HE8 : Hid (Env w.heap.size w8 pb mb 2 [⟨2, [], []⟩] own8) := he8
  have HB8 : Hid (Below w.heap.size w w8) := HB7.out.trans hb8
  have HR58 := Lib.hid (HR57.out.step HO57.out hf8)
  have HR68 := Lib.hid (HR67.out.step HO67.out hf8)
  have hcvw8 : (convert 29 29 (.slice (some ⟨w8.heap.size, 0, none⟩) 2 2)).run Try.prog (w8.alloc (.cells #[.int .u8 97, .int .u8 98] 5)) = .ok (.slice (some ⟨w8.heap.size, 0, none⟩) 2 2) (w8.alloc (.cells #[.int .u8 97, .int .u8 98] 5 (2, 3))) := conv_new w8 #[.int .u8 97, .int .u8 98] 2 2
  have hal : Below w8.heap.size w8 (w8.alloc (.cells #[.int .u8 97, .int .u8 98] 5 (2, 3))) := (Below.refl _ _).alloc (Nat.le_refl _) _
  have HE9 := Lib.hid (HE8.out.below hal)
  have HB9 : Hid (Below w.heap.size w _) := HB8.out.trans (hal.mono HE8.out.hB)
  have HS9 := Lib.hid (src_new w8 #[.int .u8 97, .int .u8 98] (2, 3) (by intro v hv; simp at hv; rcases hv with rfl | rfl <;> exact ⟨_, rfl⟩))
  have HR59 := Lib.hid (HR58.out.src.fr (Fr.of_below (T := none0) hal) (fun _ _ _ h => h))
  have HR69 := Lib.hid (HR68.out.src.fr (Fr.of_below (T := none0) hal) (fun _ _ _ h => h))
  clear he8 hf8 hb8 hq8 hal
  go_wp2_with fail
  clear hcvw8
  generalize w8.alloc (.cells #[.int .u8 97, .int .u8 98] 5 (2, 3)) = w9 at *
  refine (same_any w9 ro5 _ 2 _ _ _ HR59.out HS9.out.1 HS9.out.2 (by decide)).mono ?_
  rintro e w10 ⟨rfl, hb10⟩
  have HE10 := Lib.hid (HE9.out.below hb10)
  have HB10 : Hid (Below w.heap.size w w10) := HB9.out.trans (hb10.mono HE9.out.hB)
  have HR610 := Lib.hid (HR69.out.fr (Fr.of_below (T := none0) hb10) (fun _ _ _ h => h))
  have hcvw10 : (convert 29 29 (.slice (some ⟨w10.heap.size, 0, none⟩) 1 1)).run Try.prog (w10.alloc (.cells #[.int .u8 99] 5)) = .ok (.slice (some ⟨w10.heap.size, 0, none⟩) 1 1) (w10.alloc (.cells #[.int .u8 99] 5 (1, 2))) := conv_new w10 #[.int .u8 99] 1 1
  have hal : Below w10.heap.size w10 (w10.alloc (.cells #[.int .u8 99] 5 (1, 2))) := (Below.refl _ _).alloc (Nat.le_refl _) _
  have HE11 := Lib.hid (HE10.out.below hal)
  have HB11 : Hid (Below w.heap.size w _) := HB10.out.trans (hal.mono HE10.out.hB)
  have HS11 := Lib.hid (src_new w10 #[.int .u8 99] (1, 2) (by intro v hv; simp at hv; subst hv; exact ⟨_, rfl⟩))
  have HR611 := Lib.hid (HR610.out.fr (Fr.of_below (T := none0) hal) (fun _ _ _ h => h))
  clear hb10 hal
  go_wp2_with fail
  clear hcvw10
  generalize w10.alloc (.cells #[.int .u8 99] 5 (1, 2)) = w11 at *
  refine (same_any w11 ro6 _ 1 _ _ _ HR611.out HS11.out.1 HS11.out.2 (by decide)).mono ?_
  rintro e w12 ⟨rfl, hb12⟩
  have HE12 := Lib.hid (HE11.out.below hb12)
  have HB12 : Hid (Below w.heap.size w w12) := HB11.out.trans (hb12.mono HE11.out.hB)
  clear hb12
  go_wp2_with fail
  refine (env_waits _ w12 pb mb 2 _ own8 1 0 HE12.out (by decide) (by decide)).mono ?_
  rw [show waitsR [⟨2, [], []⟩] 1 0 = 0 from rfl]
  rintro e w13 ⟨rfl, rfl⟩
  go_wp2_with fail
  go_ret
  exact ⟨rfl, HB12.out⟩
end Go.Proofs.Ytmgdbilmfialkaa
