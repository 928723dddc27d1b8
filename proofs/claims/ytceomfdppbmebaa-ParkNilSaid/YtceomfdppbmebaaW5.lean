/- Contracts of At, All, Part, of Words and Ints, by walks. -/
import Derived.Test.YtceomfdppbmebaaW4
namespace Go.Proofs.Ytceomfdppbmebaa
open Go.RowKit

theorem at_any (B : Nat) (w : World) (n pb last : Nat) (S : List It) (ao : Option Addr) (cap : Nat) (h : Pk B w pb last S ao cap) :
    Calls Try.prog 14 #[.pointer (some ⟨pb, 0, none⟩), .int .u64 (n : Int)] w fun e w' => e = .returned (.tuple #[(foundX (.int .i64 0) (fun it => decide (it.n = n)) S).1, .int .i64 (foundX (.int .i64 0) (fun it => decide (it.n = n)) S).2]) ∧ Below w.heap.size w w' := by
  have HW := Lib.hid h
  have hS : S.length ≤ 32 := h.len
  clear h
  unfold foundX
  rcases gets_cases (fun it => decide (it.n = n)) S with ⟨hp, hg, _⟩ | ⟨k, it, hp, hg, _, hk, hk2, _⟩
  · rw [hg]
    have HP : Hid (posR (fun it => decide (it.n = n)) S = (0, 7)) := by show posR _ S = _; unfold posR; rw [hp]; rfl
    clear hg hp
    go_enter Try.func14, Try.ntmps14
    go_wp2_with fail
    refine (look_any B _ n pb last S ao cap HW.out).mono ?_
    rw [HP.out]
    rintro e w3 ⟨rfl, hb3⟩
    go_wp2_with fail
    go_ret2
    exact ⟨rfl, hb3⟩
  · rw [hg]
    have HP : Hid (posR (fun it => decide (it.n = n)) S = ((k : Int), 0)) := by show posR _ S = _; unfold posR; rw [hp, if_neg (by omega)]
    have HK := Lib.hid hk2
    have hxx : IsX it.x := HW.out.xs it (List.mem_of_getElem? hk2)
    clear hg hp hk2
    go_enter Try.func14, Try.ntmps14
    go_wp2_with fail
    refine (look_any B _ n pb last S ao cap HW.out).mono ?_
    rw [HP.out]
    rintro e w3 ⟨rfl, hb3⟩
    have HB3 := Lib.hid hb3
    have HW3 : Hid (Pk B w3 pb last S ao cap) := HW.out.below hb3
    clear hb3
    have c2 := HW3.out.c2
    obtain ⟨g, rfl⟩ := HW3.out.row.form (by omega)
    obtain ⟨d0, d1, d2, d3⟩ := row_cells HW3.out.row HK.out
    obtain ⟨im, ic, iid, ix⟩ := it
    dsimp only at d0 d1 d2 d3 hxx
    obtain ⟨z, rfl⟩ := hxx
    clear d0 d1 d2
    go_wp2_with fail
    go_ret2
    exact ⟨rfl, HB3.out⟩

def U (n : Nat) : Value := .int .u64 (n : Int)
theorem inf29 : (Try.prog.info? 29).map (fun i => (i.zero, i.size, i.bytes)) = some (some (.int .u64 0), 1, 8) := by kernel_rfl
theorem inf3 : (Try.prog.info? 3).map (fun i => (i.zero, i.size, i.bytes)) = some (some (.int .i64 0), 1, 8) := by kernel_rfl
/-- The numbers of all that wait. -/
def numsOf (S : List It) : List Value := S.map fun it => U it.n
theorem numsOf_take {S : List It} {k : Nat} {it : It} (h : S[k]? = some it) : numsOf (S.take k) ++ [.int .u64 (it.n : Int)] = numsOf (S.take (k + 1)) := by
  obtain ⟨hk, he⟩ := List.getElem?_eq_some_iff.1 h
  unfold numsOf
  rw [List.take_succ_eq_append_getElem hk, List.map_append, he]
  rfl

theorem all_any (B : Nat) (w : World) (pb last : Nat) (S : List It) (ao : Option Addr) (cap : Nat) (h : Pk B w pb last S ao cap) :
    Calls Try.prog 12 #[.pointer (some ⟨pb, 0, none⟩)] w fun e w' => ∃ ro rc, e = .returned (.slice ro S.length rc) ∧ Row w.heap.size w' 29 1 ro S.length rc (numsOf S) ∧ Below w.heap.size w w' := by
  have HW := Lib.hid h
  have hS : S.length ≤ 32 := h.len
  have c0 := h.c0
  have c2 := h.c2
  clear h
  obtain ⟨i0, hi, hz0, hz1, hz2⟩ := info_parts inf29
  go_enter Try.func12, Try.ntmps12
  go_wp2_with fail
  refine (off_any _ pb c0).mono ?_
  rintro e w1 ⟨rfl, rfl⟩
  go_wp2_with fail
  clear c0 c2
  go_loopw [3, 5, 13] (fun s3 _ s13 wr => ∃ (k : Nat) (ro : Option Addr) (rc : Nat), k ≤ S.length ∧ s13 = .int .i64 k ∧ s3 = .slice ro k rc ∧ Hid (Fr none0 w wr) ∧ Hid (Row w.heap.size wr 29 1 ro k rc (numsOf (S.take k)))) (fun _ _ s _ => S.length - (intOf s).toNat)
  case atStart => exact ⟨0, none, 0, Nat.zero_le _, rfl, rfl, Fr.refl _ _, Row.nil _ _ _ _⟩
  case round =>
    obtain ⟨k, ro, rc, hk, rfl, rfl, hf, hr⟩ := hrel
    by_cases hlt : k < S.length
    · obtain ⟨g, rfl⟩ := HW.out.row.form (by omega)
      have hk2 : S[k]? = some S[k] := List.getElem?_eq_getElem hlt
      have hx1 : IsX (S[k]).x := HW.out.xs _ (List.getElem_mem hlt)
      obtain ⟨d0, d1, d2, d3⟩ := row_cells (HW.out.row.fr hf.out (fun _ _ h => h)) hk2
      have HK := Lib.hid hk2
      clear hk2
      generalize S[k] = it at *
      obtain ⟨im, ic, iid, ix⟩ := it
      dsimp only at d0 d1 d2 d3 hx1
      obtain ⟨z, rfl⟩ := hx1
      have HF1 : Hid (Fr none0 w ((wr.alloc (.cells #[.int .u64 (im : Int), .int .i64 ic, .int .u64 (iid : Int), .int .i64 z] 60)).alloc (.cells #[.int .u64 (im : Int)] 29))) := (hf.out.alloc _).alloc _
      have HR1 : Hid (Row w.heap.size ((wr.alloc (.cells #[.int .u64 (im : Int), .int .i64 ic, .int .u64 (iid : Int), .int .i64 z] 60)).alloc (.cells #[.int .u64 (im : Int)] 29)) 29 1 ro k rc (numsOf (S.take k))) := hr.out.fr (((Fr.refl none0 _).alloc _).alloc _) (fun _ _ h => h)
      have hnews := news_new2 wr (.cells #[.int .u64 (im : Int), .int .i64 ic, .int .u64 (iid : Int), .int .i64 z] 60) #[.int .u64 (im : Int)] 29 [.int .u64 (im : Int)] rfl
      have HN := Lib.hid hnews
      have hb := hf.out.size
      clear hnews
      go_wp2_with (at_builtin; refine wpList_append_row rfl (.tmp 17) (.tmp 20) 30 rfl 29 i0 _ 1 8 Try.underlying30 hi hz0 hz1 hz2 rfl (by decide) (by decide) w.heap.size ro k rc (numsOf (S.take k)) rfl HR1.out (wr.heap.size + 1) 0 1 1 [.int .u64 (im : Int)] rfl rfl HN.out ?_ ?_ ?_ ?_)
      · first | rfl | (intro u hu; simp at hu; subst hu; rfl)
      · omega
      · simp; omega
      intro ro' rc' w3 hr3 hf3 _
      rw [numsOf_take HK.out] at hr3
      have HF3 : Hid (Fr none0 w w3) := HF1.out.rowed HR1.out (Nat.le_refl _) hf3
      have HR3 := Lib.hid hr3
      clear hr3 hf3 HF1 HR1 HN HK d0 d1 d2 d3
      go_wp2_with fail
      go_roundw
      case rel => exact ⟨k + 1, ro', rc', by omega, by go_num, rfl, HF3.out, HR3.out⟩
      case measure => simp [intOf]; omega
    · have hke : k = S.length := by omega
      have hr' := hr.out
      rw [hke, List.take_length] at hr'
      have HR' := Lib.hid hr'
      clear hr hr'
      subst hke
      go_wp2_with fail
      go_ret
      exact ⟨ro, rc, rfl, HR'.out, hf.out.below (Nat.le_refl _) (fun _ h => h.elim)⟩
end Go.Proofs.Ytceomfdppbmebaa
