/- The table's Close, CopyLocks, by walks. -/
import Derived.Test.YtgcimkbggnjcdaaW13
namespace Go.Proofs.Ytgcimkbggnjcdaa
open Go.RowKit

theorem ret_int {k : IntKind} {a b : Int} (h : a = b) : Ending.returned (.int k a) = .returned (.int k b) := by rw [h]

set_option maxHeartbeats 1000000 in
theorem close_any (B : Nat) (w : World) (pb : Nat) (S : List Lk) (ao : Option Addr) (cap : Nat) (op : Int) (h : Tb B w pb S ao cap) :
    Calls Try.prog 23 #[.pointer (some ⟨pb, 0, none⟩), .int .i64 op] w fun e w' => e = .returned (.int .i64 (ofN op S : Int)) ∧ Now B pb ao (others op S) w w' := by
  have HT := Lib.hid h
  have hS := h.len
  have hpl := h.blk.lt
  have HB1 : Hid (Below w.heap.size w (w.alloc (.cells #[.int .i64 op] 3))) := (Below.refl _ _).alloc (Nat.le_refl _) _
  have HX := Lib.hid (Blk.new w 3 #[.int .i64 op])
  have HT1 := Lib.hid (h.below HB1.out)
  have HNR : Hid (¬ rowOf ao w.heap.size) := fun ⟨a, ha, hk⟩ => by
    subst ha
    have := h.row.lt
    omega
  have HOO := Lib.hid (of_others op S)
  have hol : (others op S).length ≤ S.length := by have := of_others op S; omega
  have HOK : Hid (∀ x ∈ others op S, Fit x) := fun x hx => h.ok x (List.mem_filter.1 hx).1
  clear h
  go_enter Try.func23, Try.ntmps23
  go_wp2_with fail
  generalize w.alloc (.cells #[.int .i64 op] 3) = w1 at *
  refine (off_any w1 pb HT1.out.c0).mono ?_
  rintro e w2 ⟨rfl, rfl⟩
  have c1 := HT1.out.c1
  go_wp2_with fail
  refine (delete_any w1 B ao cap S op w.heap.size HT1.out.row hS (HX.out.cell 0) HNR.out).mono ?_
  rintro e w3 ⟨cap3, rfl, hr3, hf3⟩
  have hblk3 : Blk w3 pb 50 #[.bool true, .slice ao S.length cap] := HT1.out.blk.fr hf3 HT1.out.apart
  have HF3 : Hid (Fr (Tof pb ao) w w3) := (Fr.of_below (T := Tof pb ao) HB1.out).trans hf3 (fun _ _ h => Or.inr h)
  have f1 := hblk3.frozen 1
  have c1' := hblk3.cell 1
  obtain ⟨p1, p2⟩ := put HT.out.low hblk3 rfl hr3 HOK.out (Nat.le_trans hol hS)
  have HP2 := Lib.hid p2
  have HF4 : Hid (Fr (Tof pb ao) w (w3.setCell ⟨pb, 1, none⟩ (.slice ao (others op S).length cap3))) := HF3.out.trans p1 (fun _ _ h => Or.inl h)
  clear c1 hr3 hf3 hblk3 p1 p2 HT HT1
  go_wp2_with fail
  go_ret
  exact ⟨ret_int (by have := HOO.out; omega), ao, cap3, HP2.out, HF4.out, Sub.refl _ _⟩

theorem copy_any (w : World) (b o n c : Nat) (vs : List Value) (hl : vs.length = n * 4) (hv : ∀ j u, vs[j]? = some u → w.cell? ⟨b, o + j, none⟩ = some u) (h1 : ∀ u ∈ vs, u.oneCell' = true) (hn : n ≤ 1073741824) :
    Calls Try.prog 18 #[.slice (some ⟨b, o, none⟩) n c] w fun e w' => ∃ ro rc, e = .returned (.slice ro n rc) ∧ Row w.heap.size w' 34 4 ro n rc vs ∧ Below w.heap.size w w' := by
  obtain ⟨i0, hi, hz0, hz1, hz2⟩ := info_parts inf34
  have HV := Lib.hid hv
  clear hv
  go_enter Try.func18, Try.ntmps18
  go_wp2_with (at_builtin; refine wpList_append_row rfl (.tmp 4) (.tmp 5) 30 rfl 34 i0 _ 4 32 Try.underlying30 hi hz0 hz1 hz2 rfl (by decide) (by decide) w.heap.size none 0 0 [] rfl (Row.nil _ _ _ _) b o n c vs rfl hl HV.out h1 ?_ ?_ ?_)
  · omega
  · omega
  intro ro rc w4 hr4 hf4 _
  have HR4 := Lib.hid hr4
  have HB4 : Hid (Below w.heap.size w w4) := hf4.below (Nat.le_refl _) (fun k ⟨a, ha, _⟩ => by cases ha)
  clear hr4 hf4
  go_wp2_with fail
  go_ret
  exact ⟨ro, rc, rfl, HR4.out, HB4.out⟩
end Go.Proofs.Ytgcimkbggnjcdaa
