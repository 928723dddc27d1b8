/- Contracts of bits.Len, nextPowerOfTwo, the random numbers and breakPatterns, by walks. -/
import Derived.Test.YteglklcaaicjjaaW8
namespace Go.Proofs.Yteglklcaaicjjaa
open Go.RowKit Go.WideShapes

def len8 : ByteArray := ⟨#[0, 1, 2, 2, 3, 3, 3, 3, 4, 4, 4, 4, 4, 4, 4, 4, 5, 5, 5, 5, 5, 5, 5, 5, 5, 5, 5, 5, 5, 5, 5, 5, 6, 6, 6, 6, 6, 6, 6, 6, 6, 6, 6, 6, 6, 6, 6, 6, 6, 6, 6, 6, 6, 6, 6, 6, 6, 6, 6, 6, 6, 6, 6, 6, 7, 7, 7, 7, 7, 7, 7, 7, 7, 7, 7, 7, 7, 7, 7, 7, 7, 7, 7, 7, 7, 7, 7, 7, 7, 7, 7, 7, 7, 7, 7, 7, 7, 7, 7, 7, 7, 7, 7, 7, 7, 7, 7, 7, 7, 7, 7, 7, 7, 7, 7, 7, 7, 7, 7, 7, 7, 7, 7, 7, 7, 7, 7, 7, 8, 8, 8, 8, 8, 8, 8, 8, 8, 8, 8, 8, 8, 8, 8, 8, 8, 8, 8, 8, 8, 8, 8, 8, 8, 8, 8, 8, 8, 8, 8, 8, 8, 8, 8, 8, 8, 8, 8, 8, 8, 8, 8, 8, 8, 8, 8, 8, 8, 8, 8, 8, 8, 8, 8, 8, 8, 8, 8, 8, 8, 8, 8, 8, 8, 8, 8, 8, 8, 8, 8, 8, 8, 8, 8, 8, 8, 8, 8, 8, 8, 8, 8, 8, 8, 8, 8, 8, 8, 8, 8, 8, 8, 8, 8, 8, 8, 8, 8, 8, 8, 8, 8, 8, 8, 8, 8, 8, 8, 8, 8, 8, 8, 8, 8, 8, 8, 8, 8, 8, 8, 8, 8, 8, 8, 8, 8, 8]⟩
set_option maxRecDepth 100000 in
theorem len8_key : ∀ x : Fin 256, wrap64 (wrap64 ((len8.get x.val (by have := x.isLt; exact this)).toNat : Int)) = (Go.Sort.bitsLen x.val : Int) := by decide +kernel
set_option maxRecDepth 100000 in
theorem len64_any (w : World) (x : Nat) (h : x < 256) : Calls Try.prog 37 #[.int .u64 (x : Int)] w fun e w' => ∃ r : Nat, e = .returned (.int .i64 (r : Int)) ∧ r = Go.Sort.bitsLen x ∧ w = w' := by
  have h1 : ¬ (4294967296 : Int) ≤ (x : Int) := by omega
  have h2 : ¬ (65536 : Int) ≤ (x : Int) := by omega
  have h3 : ¬ (256 : Int) ≤ (x : Int) := by omega
  have h4 : IntKind.u8.wrap (x : Int) = (x : Int) := by simp [IntKind.wrap, IntKind.signed, IntKind.bits]; omega
  have h5 : (x : Int) < 256 := by omega
  go_enter Try.func37, Try.ntmps37
  go_wp2_with fail
  go_ret
  refine ⟨Go.Sort.bitsLen x, congrArg (fun z => Ending.returned (.int .i64 z)) ?_, rfl, rfl⟩
  exact len8_key ⟨x, h⟩
theorem len_any (w : World) (x : Nat) (h : x < 256) : Calls Try.prog 26 #[.int .u64 (x : Int)] w fun e w' => e = .returned (.int .i64 (Go.Sort.bitsLen x : Int)) ∧ w = w' := by
  go_enter Try.func26, Try.ntmps26
  go_wp2_with fail
  refine (len64_any w x h).mono ?_
  rintro e w' ⟨r, rfl, rfl, rfl⟩
  go_wp2_with fail
  go_ret
  exact ⟨rfl, rfl⟩
theorem npt_any (w : World) (x : Nat) (h : x < 256) (h8 : 0 < x) : Calls Try.prog 39 #[.int .i64 (x : Int)] w fun e w' => ∃ m : Nat, e = .returned (.int .u64 (m : Int)) ∧ 1 ≤ m ∧ m ≤ 2 * x ∧ w = w' := by
  have h1 : IntKind.u64.wrap (x : Int) = (x : Int) := by simp [IntKind.wrap, IntKind.signed, IntKind.bits]; omega
  go_enter Try.func39, Try.ntmps39
  go_wp2_with fail
  refine (len_any w x h).mono ?_
  rintro e w' ⟨rfl, rfl⟩
  go_wp2_with fail
  go_ret
  have h2 : Go.Sort.bitsLen x ≤ 8 := (Go.Sort.bitsLen_le_iff x 8).2 (by omega)
  have h3 := Go.Sort.two_pow_bitsLen_le h8
  have h4 : IntKind.u64.wrap (2 ^ min (Go.Sort.bitsLen x) 64) = ((2 ^ Go.Sort.bitsLen x : Nat) : Int) := by
    rw [Nat.min_eq_left (by omega)]
    have h5 : (2 : Int) ^ Go.Sort.bitsLen x = ((2 ^ Go.Sort.bitsLen x : Nat) : Int) := by simp
    rw [h5]
    generalize 2 ^ Go.Sort.bitsLen x = m at *
    simp [IntKind.wrap, IntKind.signed, IntKind.bits]
    omega
  exact ⟨2 ^ Go.Sort.bitsLen x, by rw [h4]; rfl, Nat.one_le_two_pow, h3, rfl⟩
theorem u64_wf {z : Int} (h : (Lit.int .u64 z).wf = true) : 0 ≤ z ∧ z < 18446744073709551616 := by
  have := bounds_u64 h
  omega
set_option maxHeartbeats 2000000 in
theorem xor_any (w : World) (rb : Nat) (x : Int) (h : Blk w rb 70 #[.int .u64 x]) : Calls Try.prog 40 #[.pointer (some ⟨rb, 0, none⟩)] w fun e w' => ∃ z, e = .returned (.int .u64 z) ∧ 0 ≤ z ∧ z < 18446744073709551616 ∧ Blk w' rb 70 #[.int .u64 z] ∧ Fr (fun j => j = rb) w w' := by
  have c0 : w.cell? ⟨rb, 0, none⟩ = some (.int .u64 x) := h.cell 0
  have f0 := h.frozen 0
  have H0 := Lib.hid h
  clear h
  go_enter Try.func40, Try.ntmps40
  go_wp2_with fail
  go_region
  have H1 : Hid (Blk ((w.setCell ⟨rb, 0, none⟩ (.int .u64 (bits .xor .u64 x (IntKind.u64.wrap (x * 8192))))).drew) rb 70 #[.int .u64 (bits .xor .u64 x (IntKind.u64.wrap (x * 8192)))]) := H0.out.set_ 0 _
  have F1 : Hid (Fr (fun j => j = rb) w ((w.setCell ⟨rb, 0, none⟩ (.int .u64 (bits .xor .u64 x (IntKind.u64.wrap (x * 8192))))).drew)) := ((Fr.refl (fun j => j = rb) w).setCell (p := ⟨rb, 0, none⟩) (fun _ => rfl) _).drew
  generalize (w.setCell ⟨rb, 0, none⟩ (.int .u64 (bits .xor .u64 x (IntKind.u64.wrap (x * 8192))))).drew = w1 at *
  generalize bits .xor .u64 x (IntKind.u64.wrap (x * 8192)) = x1 at *
  clear c0 f0
  have c0 : w1.cell? ⟨rb, 0, none⟩ = some (.int .u64 x1) := H1.out.cell 0
  have f0 := H1.out.frozen 0
  go_wp2_with fail
  go_region
  have H2 : Hid (Blk ((w1.setCell ⟨rb, 0, none⟩ (.int .u64 (bits .xor .u64 x1 (x1 / 128)))).drew) rb 70 #[.int .u64 (bits .xor .u64 x1 (x1 / 128))]) := H1.out.set_ 0 _
  have F2 : Hid (Fr (fun j => j = rb) w ((w1.setCell ⟨rb, 0, none⟩ (.int .u64 (bits .xor .u64 x1 (x1 / 128)))).drew)) := (F1.out.setCell (p := ⟨rb, 0, none⟩) (fun _ => rfl) _).drew
  generalize (w1.setCell ⟨rb, 0, none⟩ (.int .u64 (bits .xor .u64 x1 (x1 / 128)))).drew = w2 at *
  generalize bits .xor .u64 x1 (x1 / 128) = x2 at *
  clear c0 f0
  have c0 : w2.cell? ⟨rb, 0, none⟩ = some (.int .u64 x2) := H2.out.cell 0
  have f0 := H2.out.frozen 0
  go_wp2_with fail
  go_region
  have H3 : Hid (Blk ((w2.setCell ⟨rb, 0, none⟩ (.int .u64 (bits .xor .u64 x2 (IntKind.u64.wrap (x2 * 131072))))).drew) rb 70 #[.int .u64 (bits .xor .u64 x2 (IntKind.u64.wrap (x2 * 131072)))]) := H2.out.set_ 0 _
  have F3 : Hid (Fr (fun j => j = rb) w ((w2.setCell ⟨rb, 0, none⟩ (.int .u64 (bits .xor .u64 x2 (IntKind.u64.wrap (x2 * 131072))))).drew)) := (F2.out.setCell (p := ⟨rb, 0, none⟩) (fun _ => rfl) _).drew
  have HWF := Lib.hid (u64_wf (wf_bits .xor .u64 x2 (IntKind.u64.wrap (x2 * 131072))))
  generalize (w2.setCell ⟨rb, 0, none⟩ (.int .u64 (bits .xor .u64 x2 (IntKind.u64.wrap (x2 * 131072))))).drew = w3 at *
  generalize bits .xor .u64 x2 (IntKind.u64.wrap (x2 * 131072)) = x3 at *
  clear c0 f0
  have c0 : w3.cell? ⟨rb, 0, none⟩ = some (.int .u64 x3) := H3.out.cell 0
  go_wp2_with fail
  go_ret
  exact ⟨x3, rfl, HWF.out.1, HWF.out.2, H3.out, F3.out⟩
end Go.Proofs.Yteglklcaaicjjaa
