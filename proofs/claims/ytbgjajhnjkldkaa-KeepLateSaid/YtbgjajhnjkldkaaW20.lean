/- KeepAsks, by a walk over the contracts. -/
import Derived.Test.YtbgjajhnjkldkaaW19
namespace Go.Proofs.Ytbgjajhnjkldkaa
open Go.RowKit Go.WideShapes Go.Maps

theorem lateS_le (S : List It) (t : Int) : (lateS S t).length ≤ S.length := by
  unfold lateS
  rw [List.length_map]
  exact List.length_filter_le _ _
set_option maxRecDepth 100000 in
set_option maxHeartbeats 4000000 in
theorem KeepAsks_walk (ao : Option Addr) (n c : Nat) (F : Nat → ActV) (k : Int) (m : Nat) (w : World) (hF : Acts w ao n F) (_ : n ≤ 9223372036854775807) (h1 : -9223372036854775808 ≤ k) (h2 : k ≤ 9223372036854775807) (hm : m ≤ 65535) :
    Calls Try.prog 4 #[.slice ao n c, .int .i64 k, .int .u16 (m : Int)] w fun e w' => e = .returned (.bool true) ∧ Below w.heap.size w w' := by
  go_enter Try.func4, Try.ntmps4
  go_wp2_with fail
  refine (played_any w ao n c F hF).mono ?_
  rintro e w1 ⟨pb, mb, rb, S, rfl, hh, hsl, hb⟩
  have HE1 := Lib.hid hh
  have HB1 := Lib.hid hb
  have HE1d : Hid (Env w.heap.size w1.drew pb mb rb S S) := hh.below (Below.refl _ _).drew
  obtain ⟨lo, lc, hr⟩ := hh.ref
  have c1 := hr.c0
  have hrl := hr.blk.lt
  have iw : IntKind.i64.wrap (m : Int) = (m : Int) := IntWalk.i64_in _ (by omega)
  obtain ⟨b, hbf⟩ : ∃ b, (findS S k).isSome = b := ⟨_, rfl⟩
  have HBF := Lib.hid hbf
  have hls := lateS_le S (m : Int)
  obtain ⟨T, hT⟩ : ∃ T, lateS S (m : Int) = T := ⟨_, rfl⟩
  have HT := Lib.hid hT
  rw [hT] at hls
  clear hb hh hF hr hbf hT
  go_wp2_with fail
  go_region_held3 (fun w' => w'.cell? ⟨rb, 0, none⟩ = some (.slice lo S.length lc)) (go_keep) (first
    | (go_at_call 11
       refine (has_any w.heap.size w1.drew pb mb S k HE1d.out.keep ⟨h1, h2⟩).mono ?_
       rw [HBF.out]
       rintro e w2 ⟨rfl, hb2⟩
       have HE2 := Lib.hid (HE1d.out.below hb2)
       have HB2 : Hid (Below w1.heap.size w1 w2) := (Below.refl w1.heap.size w1).drew.trans hb2
       have c2 := (HB2.out.cell (p := ⟨rb, 0, none⟩) hrl).trans c1
       clear hb2)
    | (go_at_call 12
       refine (rhas_any w.heap.size w2 rb S k HE2.out.ref (by omega)).mono ?_
       rw [HBF.out]
       rintro e w2' ⟨rfl, rfl⟩)
    | (go_at_call 14
       refine (late_any w.heap.size w2 pb mb S _ HE2.out.keep (by omega)).mono ?_
       rw [HT.out]
       rintro e w3 ⟨ro, rc, rfl, hr3, hb3⟩
       have HR3 := Lib.hid hr3
       have HE3 := Lib.hid (HE2.out.below hb3)
       have HB3 : Hid (Below w1.heap.size w1 w3) := HB2.out.trans (hb3.mono HB2.out.size)
       have c3 := (HB3.out.cell (p := ⟨rb, 0, none⟩) hrl).trans c1
       clear hr3 hb3)
    | (go_at_call 15
       refine (rlate_any w.heap.size w3 rb S _ HE3.out.ref (by omega)).mono ?_
       rw [HT.out]
       rintro e w4 ⟨qo, qc, rfl, hr4, hb4⟩
       have HR4 := Lib.hid hr4
       have HR34 : Hid (Row w2.heap.size w4 3 1 ro T.length rc (ints T)) := HR3.out.fr (Fr.of_below (T := none0) hb4) (fun _ _ h => h)
       have HE4 := Lib.hid (HE3.out.below hb4)
       have HB4 : Hid (Below w1.heap.size w1 w4) := HB3.out.trans (hb4.mono HB3.out.size)
       have c4 := (HB4.out.cell (p := ⟨rb, 0, none⟩) hrl).trans c1
       clear hr4 hb4)
    | (go_at_call 13
       refine (ints_same w4 ro qo T.length rc qc T HR34.out.src HR4.out.src (by omega)).mono ?_
       rintro e w5 ⟨rfl, hb5⟩
       have HE5 := Lib.hid (HE4.out.below hb5)
       have HB5 : Hid (Below w1.heap.size w1 w5) := HB4.out.trans (hb5.mono HB4.out.size)
       have c5 := (HB5.out.cell (p := ⟨rb, 0, none⟩) hrl).trans c1
       clear hb5)
    | (go_at_call 16
       refine (len_any w.heap.size w5 pb mb S HE5.out.keep).mono ?_
       rintro e w5' ⟨rfl, rfl⟩)
    | (go_at_call 10
       refine (works_any w5).mono ?_
       rintro e w6 ⟨rfl, hb6⟩
       have HB6 : Hid (Below w1.heap.size w1 w6) := HB5.out.trans (hb6.mono HB5.out.size)
       have c6 := (HB6.out.cell (p := ⟨rb, 0, none⟩) hrl).trans c1
       clear hb6))
  all_goals
    go_wp2_with fail
    go_ret
    exact ⟨rfl, HB1.out.trans (HB6.out.mono HB1.out.size)⟩
end Go.Proofs.Ytbgjajhnjkldkaa
