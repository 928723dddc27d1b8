/- Contracts of Put, whole, and of Back, by walks. -/
import Derived.Test.YtbgjajhnjkldkaaW3
namespace Go.Proofs.Ytbgjajhnjkldkaa
open Go.RowKit Go.WideShapes Go.Maps

def putR (S : List It) (x : It) : Int × List It := if (findS S x.k).isSome then (8, S) else (0, putS S x)
theorem put_any (B : Nat) (w : World) (pb mb : Nat) (S : List It) (k : Int) (u : ByteArray) (g : Gd) (t : Int) (h : KeepAt B w pb mb S) (hk : InI k) (hl : S.length < 100000) (t1 : -1000000 ≤ t) (t2 : t ≤ 1000000) :
    Calls Try.prog 17 #[.pointer (some ⟨pb, 0, none⟩), .int .i64 k, .string u, .agg (gcs g), .int .i64 t] w fun e w' => e = .returned (.int .i64 (putR S ⟨k, u, g, t + 5⟩).1) ∧ KStep B pb mb (putR S ⟨k, u, g, t + 5⟩).2 w w' := by
  cases hf : (findS S k).isSome with
  | false =>
    have hr : putR S ⟨k, u, g, t + 5⟩ = (0, putS S ⟨k, u, g, t + 5⟩) := by unfold putR; rw [show findS S (It.mk k u g (t + 5)).k = findS S k from rfl, hf]; rfl
    rw [hr]
    exact put_ok B w pb mb S k u g t h hk (by simpa using hf) hl t1 t2
  | true =>
    have hr : putR S ⟨k, u, g, t + 5⟩ = (8, S) := by unfold putR; rw [show findS S (It.mk k u g (t + 5)).k = findS S k from rfl, hf]; rfl
    rw [hr]
    have hbl : Below w.heap.size w (w.alloc (.cells (gcs g) 39)) := (Below.refl _ _).alloc (Nat.le_refl _) _
    have HB0 := Lib.hid hbl
    have H0 := Lib.hid h
    have H := Lib.hid (h.below hbl)
    have c0 := (h.below hbl).c0
    have HB := Lib.hid hf
    clear h hf hbl hr
    go_enter Try.func17, Try.ntmps17
    go_wp2_with fail
    generalize w.alloc (.cells (gcs g) 39) = wb at *
    refine (off_any wb pb mb c0).mono ?_
    rintro e w1 ⟨rfl, rfl⟩
    go_wp2_with fail
    refine (has_any B wb pb mb S k H.out hk).mono ?_
    rw [HB.out]
    rintro e w1 ⟨rfl, hb1⟩
    have HBB : Hid (Below w.heap.size w w1) := HB0.out.trans (hb1.mono HB0.out.size)
    clear hb1
    go_wp2_with fail
    go_ret
    exact ⟨rfl, H0.out.below HBB.out, Fr.of_below HBB.out⟩
end Go.Proofs.Ytbgjajhnjkldkaa
