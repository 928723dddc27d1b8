/- Contract of the document's Put, by a walk. -/
import Derived.Test.YtbgjajhnjkldkaaW11
import Derived.Great.BuildSlice
namespace Go.Proofs.Ytbgjajhnjkldkaa
open Go.RowKit Go.WideShapes Go.Maps

theorem tw_split (k : Int) : ∀ (S : List It) (i : Nat), i ≤ S.length → (∀ j y, j < i → S[j]? = some y → y.k < k) → (∀ y, S[i]? = some y → ¬ y.k < k) →
    S.takeWhile (fun y => decide (y.k < k)) = S.take i ∧ S.dropWhile (fun y => decide (y.k < k)) = S.drop i
  | [], i, hi, _, _ => by
    have : i = 0 := by simpa using hi
    subst this
    simp
  | x :: S, 0, _, _, h2 => by
    have hx := h2 x rfl
    have hd : decide (x.k < k) = false := by simpa using hx
    rw [List.takeWhile_cons, List.dropWhile_cons, hd]
    simp
  | x :: S, i + 1, hi, h1, h2 => by
    have hx := h1 0 x (by omega) rfl
    have hd : decide (x.k < k) = true := by simpa using hx
    obtain ⟨e1, e2⟩ := tw_split k S i (by simpa using hi) (fun j y hj hy => h1 (j + 1) y (by omega) (by simpa using hy)) (fun y hy => h2 y (by simpa using hy))
    rw [List.takeWhile_cons, List.dropWhile_cons, hd, e1, e2]
    simp
theorem load35 {w : World} {b o : Nat} {v : Value} (h : w.cell? ⟨b, o, none⟩ = some v) : (Instr.loadAt 35 (.pointer (some ⟨b, o, none⟩))).run Try.prog w = .ok v w := by
  simp [Instr.loadAt, Instr.sureAddr, loadVar, isAgg, run_underlying Try.underlying35, h]
theorem build44 (w : World) (k : Int) (u : ByteArray) (g : Gd) (t : Int) : (Instr.build 44 #[(0, .int .i64 k), (1, .string u), (2, .agg (gcs g)), (3, .int .i64 t)]).run Try.prog w = .ok (.agg (icells ⟨k, u, g, t⟩).toArray) w := by kernel_rfl
theorem bslice44 (w : World) (k : Int) (u : ByteArray) (g : Gd) (t : Int) : (Instr.buildSlice 35 1 #[(0, .agg (icells ⟨k, u, g, t⟩).toArray)]).run Try.prog w = .ok (.slice (some ⟨w.heap.size, 0, none⟩) 1 1) (w.alloc (.cells (icells ⟨k, u, g, t⟩).toArray 44)) := by
  obtain ⟨i0, hi0, hz0, hz1, hz2⟩ := info_parts inf44
  exact run_buildSlice w 35 44 1 _ _ i0 _ Try.underlying35 hi0 hz0 (by rw [hz1]; decide) (by rw [hz1]; decide) (by rw [hz1]; kernel_rfl)
theorem putS_len (S : List It) (x : It) : (putS S x).length = S.length + 1 := (putS_perm S x).length_eq
attribute [-go_sem] Go.Instr.build Go.Instr.loadAt Go.Instr.buildSlice
attribute [local go_sem] load35 load3 build44 bslice44

set_option maxRecDepth 100000 in
set_option maxHeartbeats 2000000 in
theorem rput_some (B : Nat) (w : World) (rb : Nat) (S : List It) (g0 lc : Nat) (k : Int) (u : ByteArray) (g : Gd) (t : Int) (h : RfAt B w rb S (some ⟨g0, 0, none⟩) lc) (hB : B ≤ w.heap.size) (hlen : S.length < 100000) (hf : findS S k = none) (t1 : -1000000 ≤ t) (t2 : t ≤ 1000000) :
    Calls Try.prog 21 #[.pointer (some ⟨rb, 0, none⟩), .int .i64 k, .string u, .agg (gcs g), .int .i64 t] w fun e w' => e = .returned (.int .i64 0) ∧ DStep B rb (putS S ⟨k, u, g, t + 5⟩) w w' := by
  have hbl : Below w.heap.size w (w.alloc (.cells (gcs g) 39)) := (Below.refl _ _).alloc (Nat.le_refl _) _
  have HB0 := Lib.hid hbl
  have H0 := Lib.hid h
  have h1 : RfAt B (w.alloc (.cells (gcs g) 39)) rb S (some ⟨g0, 0, none⟩) lc := h.below hbl
  have H := Lib.hid h1
  have c1 := h1.c0
  have HROW := Lib.hid h1.row
  have hrl := h1.blk.lt
  have hlc := h.row.le
  have hgl := h1.row.lt
  have HG : Hid (Blk (w.alloc (.cells (gcs g) 39)) w.heap.size 39 (gcs g)) := Blk.new _ _ _
  have HWS0 : Hid ((w.alloc (.cells (gcs g) 39)).heap.size = w.heap.size + 1) := by show _ = _; simp
  have HP := Lib.hid (place_none hf)
  have HASC : Hid ((putS S ⟨k, u, g, t + 5⟩).Pairwise fun x y => x.k < y.k) := putS_asc h.asc (findS_none hf)
  have HNF := Lib.hid hf
  have hcm : lc ≤ 9223372036854775807 := by have := h.row.capmax; unfold maxLen at this; omega
  obtain ⟨i0, hi0, hz0, hz1, hz2⟩ := info_parts inf44
  have i1 : IntKind.i64.wrap (t + 5) = t + 5 := IntWalk.i64_in _ (by omega)
  clear h h1 hf hbl
  go_enter Try.func21, Try.ntmps21
  go_wp2_with fail
  generalize w.alloc (.cells (gcs g) 39) = wb at *
  refine (place_any B wb rb S _ lc k H.out (by omega)).mono ?_
  rw [HP.out]
  rintro e w1 ⟨rfl, rfl⟩
  go_wp2_with fail
  go_loop [11] (fun s => ∃ i : Nat, i ≤ S.length ∧ s = .int .i64 i ∧ Hid (∀ j y, j < i → S[j]? = some y → y.k < k)) (fun s => S.length - (intOf s).toNat)
  case atStart => exact ⟨0, Nat.zero_le _, rfl, fun j y hj => absurd hj (Nat.not_lt_zero _)⟩
  case round =>
    obtain ⟨i, hi, rfl, hlo⟩ := hrel
    by_cases hc : i < S.length ∧ ∀ y, S[i]? = some y → y.k < k
    · obtain ⟨hlt, hy⟩ := hc
      have hi2 : S[i]? = some S[i] := List.getElem?_eq_getElem hlt
      have d0 : wb.cell? ⟨g0, i * 19, none⟩ = some (.int .i64 S[i].k) := rowI_cell HROW.out hi2 (j := 0) (by omega)
      have hy2 := hy _ hi2
      have HN : Hid (∀ j y, j < i + 1 → S[j]? = some y → y.k < k) := fun j z hj hz => by
        rcases Nat.lt_succ_iff_lt_or_eq.1 hj with h | h
        · exact hlo.out j z h hz
        · subst h; rw [hi2] at hz; injection hz with hz; subst hz; exact hy2
      clear hi2 hy hlo
      generalize S[i] = y at *
      have i2 : (i : Int) < (S.length : Int) := by omega
      go_wp2_with fail
      go_round
      case rel => exact ⟨i + 1, by omega, by go_num, HN.out⟩
      case measure => simp [intOf]; omega
    · have hsp : S.takeWhile (fun y => decide (y.k < k)) = S.take i ∧ S.dropWhile (fun y => decide (y.k < k)) = S.drop i := by
        refine tw_split k S i hi hlo.out fun y hy hk => hc ⟨(List.getElem?_eq_some_iff.1 hy).1, fun z hz => ?_⟩
        rw [hy] at hz; injection hz with hz; subst hz; exact hk
      have HSP : Hid (putS S ⟨k, u, g, t + 5⟩ = S.take i ++ ⟨k, u, g, t + 5⟩ :: S.drop i) := by
        show _ = _
        unfold putS
        dsimp only
        rw [hsp.1, hsp.2]
      have HT1 : Hid (Src wb 19 (some ⟨g0, 0, none⟩) i (flatI (S.take i))) := by
        have := HROW.out.src.take (k := i) (by omega)
        rw [flatI_take S i (by omega)] at this
        exact this
      obtain ⟨ad, had, had2⟩ : ∃ ad : Addr, (if lc = i then some (⟨g0, 0, none⟩ : Addr) else some ⟨g0, i * 19, none⟩) = some ad ∧ (i < S.length → ad = ⟨g0, i * 19, none⟩) := by
        by_cases e : lc = i
        · exact ⟨⟨g0, 0, none⟩, by rw [if_pos e], fun h => by omega⟩
        · exact ⟨⟨g0, i * 19, none⟩, by rw [if_neg e], fun _ => rfl⟩
      have HT2 : Hid (Src wb 19 (some ad) (S.length - i) (flatI (S.drop i))) := by
        have := HROW.out.src.cut (k := i) (bo := some ad) (fun hlt b o e => by rw [had2 hlt]; injection e with e; injection e with e1 e2; subst e1; rw [← e2]; simp)
        rw [flatI_drop S i (by omega)] at this
        exact this
      have HN : Hid (i + 1 + (S.length - i) = (putS S ⟨k, u, g, t + 5⟩).length) := by
        show _ = _
        rw [putS_len]; omega
      have i3 : i ≤ lc := by omega
      have i4 : (i : Int) ≤ (lc : Int) := by omega
      have i5 : (0 : Int) ≤ (i : Int) := by omega
      have i6 : (i : Int) ≤ (S.length : Int) := by omega
      clear hsp hlo
      have hy : i < S.length → ∃ y : It, wb.cell? ⟨g0, i * 19, none⟩ = some (.int .i64 y.k) ∧ ¬ y.k < k := fun hlt => by
        have hi2 : S[i]? = some S[i] := List.getElem?_eq_getElem hlt
        exact ⟨S[i], rowI_cell HROW.out hi2 (j := 0) (by omega), fun hk => hc ⟨hlt, fun z hz => by rw [hi2] at hz; injection hz with hz; subst hz; exact hk⟩⟩
      clear hc
      by_cases hlt : i < S.length
      all_goals
        first
          | (obtain ⟨y, d0, hy2⟩ := hy hlt
             have i7 : (i : Int) < (S.length : Int) := by omega
             have e := had2 hlt
             subst e
             clear hy had2 had)
          | clear hy had2
        go_wp2_with (at_builtin; refine wpList_append_src _ rfl (.tmp 38) (.tmp 44) 35 rfl wb.heap.size 44 i0 _ 19 48 Try.underlying35 hi0 hz0 hz1 hz2 rfl (by decide) none 0 0 [] rfl (Row.nil _ _ _ _) (some ⟨g0, 0, none⟩) i lc (flatI (S.take i)) rfl HT1.out (flatI_one _) ?_ ?_ ?_ ?_)
        · unfold maxLen; omega
        · omega
        intro ro rc w1 hr1 hf1 _
        have hr1' : Row wb.heap.size w1 44 19 ro i rc (flatI (S.take i)) := by simpa using hr1
        have hb1 : Below wb.heap.size wb w1 := hf1.below (Nat.le_refl _) (fun k ⟨a, ha, _⟩ => by cases ha)
        have hg1 : Blk w1 w.heap.size 39 (gcs g) := HG.out.below hb1 HG.out.lt
        have l39 : (Instr.loadAt 39 (.pointer (some ⟨w.heap.size, 0, none⟩))).run Try.prog w1 = .ok (.agg (gcs g)) w1 := run_loadAt_mid w1 w.heap.size 0 39 (gcs g).toList _ (fun j v hj => by rw [Nat.zero_add, hg1.cell j]; simpa using hj) Try.underlying39 rfl (by kernel_rfl)
        have hal : Below wb.heap.size wb (w1.alloc (.cells (icells ⟨k, u, g, t + 5⟩).toArray 44)) := hb1.alloc hb1.size _
        have HB2 := Lib.hid hal
        have HR2 : Hid (Row wb.heap.size (w1.alloc (.cells (icells ⟨k, u, g, t + 5⟩).toArray 44)) 44 19 ro i rc (flatI (S.take i))) := hr1'.fr ((Fr.refl none0 w1).alloc _) (fun _ _ h => h)
        have HS2 : Hid (Src (w1.alloc (.cells (icells ⟨k, u, g, t + 5⟩).toArray 44)) 19 (some ⟨w1.heap.size, 0, none⟩) 1 (icells ⟨k, u, g, t + 5⟩)) := by
          refine ⟨rfl, fun j u hj => ⟨w1.heap.size, 0, rfl, by simp, ?_⟩⟩
          rw [Nat.zero_add, (Blk.new w1 44 _).cell j]
          simpa using hj
        have c2 : (w1.alloc (.cells (icells ⟨k, u, g, t + 5⟩).toArray 44)).cell? ⟨rb, 0, none⟩ = some (.slice (some ⟨g0, 0, none⟩) S.length lc) := (hal.cell (p := ⟨rb, 0, none⟩) hrl).trans c1
        have hws1 : wb.heap.size ≤ w1.heap.size := hb1.size
        clear hr1 hr1' hf1 hb1 hal hg1
        go_wp2_with (at_builtin; refine wpList_append_src _ rfl (.tmp 46) (.tmp 53) 35 rfl wb.heap.size 44 i0 _ 19 48 Try.underlying35 hi0 hz0 hz1 hz2 rfl (by decide) ro i rc (flatI (S.take i)) rfl HR2.out (some ⟨w1.heap.size, 0, none⟩) 1 1 (icells ⟨k, u, g, t + 5⟩) rfl HS2.out (icells_one _) ?_ ?_ ?_ ?_)
        · unfold maxLen; omega
        · omega
        · first | omega | (simp; omega)
        intro so sc w3 hr3 hf3 _
        have hb3 : Below wb.heap.size wb w3 := ((Fr.of_below (T := none0) HB2.out).rowed HR2.out (Nat.le_refl _) hf3).below (Nat.le_refl _) (fun _ h => h.elim)
        have HR3 := Lib.hid hr3
        have HB3 := Lib.hid hb3
        have c3 : w3.cell? ⟨rb, 0, none⟩ = some (.slice (some ⟨g0, 0, none⟩) S.length lc) := (hb3.cell (p := ⟨rb, 0, none⟩) hrl).trans c1
        have hws3 : wb.heap.size ≤ w3.heap.size := hb3.size
        clear hr3 hf3 hb3 l39 c2 hws1
        go_wp2_with (at_builtin; refine wpList_append_src _ rfl (.tmp 56) (.tmp 62) 35 rfl wb.heap.size 44 i0 _ 19 48 Try.underlying35 hi0 hz0 hz1 hz2 rfl (by decide) so (i + 1) sc (flatI (S.take i) ++ icells ⟨k, u, g, t + 5⟩) rfl HR3.out _ (S.length - i) (lc - i) (flatI (S.drop i)) rfl (HT2.out.below HB3.out (fun _ _ h => h)) (flatI_one _) ?_ ?_ hws3 ?_)
        · unfold maxLen; omega
        · omega
        intro qo qc w4 hr4 hf4 _
        have hb4 : Below wb.heap.size wb w4 := ((Fr.of_below (T := none0) HB3.out).rowed HR3.out (Nat.le_refl _) hf4).below (Nat.le_refl _) (fun _ h => h.elim)
        have hr4' : Row wb.heap.size w4 44 19 qo (i + 1 + (S.length - i)) qc (flatI (putS S ⟨k, u, g, t + 5⟩)) := by
          rw [HSP.out, flatI_append]
          show Row _ _ _ _ _ _ _ (flatI (S.take i) ++ (icells _ ++ flatI (S.drop i)))
          exact hr4
        have d1 : w4.cell? ⟨rb, 0, none⟩ = some (.slice (some ⟨g0, 0, none⟩) S.length lc) := (hb4.cell (p := ⟨rb, 0, none⟩) hrl).trans c1
        have f1 := (H.out.blk.below hb4 hrl).frozen 0
        have hp := H.out.turn (by have := HWS0.out; omega) hb4 HN.out hr4' HASC.out
        have HP2 : Hid (DStep B rb (putS S ⟨k, u, g, t + 5⟩) w (w4.setCell ⟨rb, 0, none⟩ (.slice qo (i + 1 + (S.length - i)) qc))) := ⟨hp.1, (Fr.of_below (T := fun j => j = rb) HB0.out).step hp.2⟩
        clear hr4 hr4' hf4 hb4 hp
        go_wp2_with fail
        go_ret
        exact ⟨rfl, HP2.out⟩

set_option maxRecDepth 100000 in
set_option maxHeartbeats 2000000 in
theorem rput_nil (B : Nat) (w : World) (rb : Nat) (lc : Nat) (k : Int) (u : ByteArray) (g : Gd) (t : Int) (h : RfAt B w rb [] none lc) (hB : B ≤ w.heap.size) (t1 : -1000000 ≤ t) (t2 : t ≤ 1000000) :
    Calls Try.prog 21 #[.pointer (some ⟨rb, 0, none⟩), .int .i64 k, .string u, .agg (gcs g), .int .i64 t] w fun e w' => e = .returned (.int .i64 0) ∧ DStep B rb (putS [] ⟨k, u, g, t + 5⟩) w w' := by
  have hbl : Below w.heap.size w (w.alloc (.cells (gcs g) 39)) := (Below.refl _ _).alloc (Nat.le_refl _) _
  have HB0 := Lib.hid hbl
  have H0 := Lib.hid h
  obtain ⟨_, hc0, _⟩ := h.row.of_none
  subst hc0
  have h1 : RfAt B (w.alloc (.cells (gcs g) 39)) rb [] none 0 := h.below hbl
  have H := Lib.hid h1
  have c1 : (w.alloc (.cells (gcs g) 39)).cell? ⟨rb, 0, none⟩ = some (.slice none 0 0) := h1.c0
  have hrl := h1.blk.lt
  have HG : Hid (Blk (w.alloc (.cells (gcs g) 39)) w.heap.size 39 (gcs g)) := Blk.new _ _ _
  have HWS0 : Hid ((w.alloc (.cells (gcs g) 39)).heap.size = w.heap.size + 1) := by show _ = _; simp
  have HP : Hid (placeV [] k = -1) := place_none rfl
  have HASC : Hid ((putS [] ⟨k, u, g, t + 5⟩).Pairwise fun x y => x.k < y.k) := putS_asc List.Pairwise.nil (findS_none (S := []) (k := k) rfl)
  obtain ⟨i0, hi0, hz0, hz1, hz2⟩ := info_parts inf44
  have i1 : IntKind.i64.wrap (t + 5) = t + 5 := IntWalk.i64_in _ (by omega)
  clear h h1 hbl
  go_enter Try.func21, Try.ntmps21
  go_wp2_with fail
  generalize w.alloc (.cells (gcs g) 39) = wb at *
  refine (place_any B wb rb [] _ 0 k H.out (by simp)).mono ?_
  rw [HP.out]
  rintro e w1 ⟨rfl, rfl⟩
  go_wp2_with fail
  go_loop [11] (fun s => s = .int .i64 0) (fun s => (intOf s).toNat)
  case atStart => rfl
  case round =>
    have e := hrel
    subst e
    go_wp2_with (at_builtin; refine wpList_append_src _ rfl (.tmp 38) (.tmp 44) 35 rfl wb.heap.size 44 i0 _ 19 48 Try.underlying35 hi0 hz0 hz1 hz2 rfl (by decide) none 0 0 [] rfl (Row.nil _ _ _ _) none 0 0 [] rfl ⟨rfl, fun j u hj => by simp at hj⟩ (by simp) ?_ ?_ ?_ ?_)
    intro ro rc w1 hr1 hf1 _
    have hr1' : Row wb.heap.size w1 44 19 ro 0 rc [] := by simpa using hr1
    have hb1 : Below wb.heap.size wb w1 := hf1.below (Nat.le_refl _) (fun k ⟨a, ha, _⟩ => by cases ha)
    have hg1 : Blk w1 w.heap.size 39 (gcs g) := HG.out.below hb1 HG.out.lt
    have l39 : (Instr.loadAt 39 (.pointer (some ⟨w.heap.size, 0, none⟩))).run Try.prog w1 = .ok (.agg (gcs g)) w1 := run_loadAt_mid w1 w.heap.size 0 39 (gcs g).toList _ (fun j v hj => by rw [Nat.zero_add, hg1.cell j]; simpa using hj) Try.underlying39 rfl (by kernel_rfl)
    have hal : Below wb.heap.size wb (w1.alloc (.cells (icells ⟨k, u, g, t + 5⟩).toArray 44)) := hb1.alloc hb1.size _
    have HB2 := Lib.hid hal
    have HR2 : Hid (Row wb.heap.size (w1.alloc (.cells (icells ⟨k, u, g, t + 5⟩).toArray 44)) 44 19 ro 0 rc []) := hr1'.fr ((Fr.refl none0 w1).alloc _) (fun _ _ h => h)
    have HS2 : Hid (Src (w1.alloc (.cells (icells ⟨k, u, g, t + 5⟩).toArray 44)) 19 (some ⟨w1.heap.size, 0, none⟩) 1 (icells ⟨k, u, g, t + 5⟩)) := by
      refine ⟨rfl, fun j u hj => ⟨w1.heap.size, 0, rfl, by simp, ?_⟩⟩
      rw [Nat.zero_add, (Blk.new w1 44 _).cell j]
      simpa using hj
    have c2 : (w1.alloc (.cells (icells ⟨k, u, g, t + 5⟩).toArray 44)).cell? ⟨rb, 0, none⟩ = some (.slice none 0 0) := (hal.cell (p := ⟨rb, 0, none⟩) hrl).trans c1
    have hws1 : wb.heap.size ≤ w1.heap.size := hb1.size
    clear hr1 hr1' hf1 hb1 hal hg1
    go_wp2_with (at_builtin; refine wpList_append_src _ rfl (.tmp 46) (.tmp 53) 35 rfl wb.heap.size 44 i0 _ 19 48 Try.underlying35 hi0 hz0 hz1 hz2 rfl (by decide) ro 0 rc [] rfl HR2.out (some ⟨w1.heap.size, 0, none⟩) 1 1 (icells ⟨k, u, g, t + 5⟩) rfl HS2.out (icells_one _) ?_ ?_ ?_ ?_)
    · unfold maxLen; omega
    · omega
    · first | omega | (simp; omega)
    intro so sc w3 hr3 hf3 _
    have hb3 : Below wb.heap.size wb w3 := ((Fr.of_below (T := none0) HB2.out).rowed HR2.out (Nat.le_refl _) hf3).below (Nat.le_refl _) (fun _ h => h.elim)
    have hr3' : Row wb.heap.size w3 44 19 so 1 sc (icells ⟨k, u, g, t + 5⟩) := by simpa using hr3
    have HR3 := Lib.hid hr3'
    have HB3 := Lib.hid hb3
    have c3 : w3.cell? ⟨rb, 0, none⟩ = some (.slice none 0 0) := (hb3.cell (p := ⟨rb, 0, none⟩) hrl).trans c1
    have hws3 : wb.heap.size ≤ w3.heap.size := hb3.size
    clear hr3 hr3' hf3 hb3 l39 c2 hws1
    go_wp2_with (at_builtin; refine wpList_append_src _ rfl (.tmp 56) (.tmp 62) 35 rfl wb.heap.size 44 i0 _ 19 48 Try.underlying35 hi0 hz0 hz1 hz2 rfl (by decide) so 1 sc (icells ⟨k, u, g, t + 5⟩) rfl HR3.out none 0 0 [] rfl ⟨rfl, fun j u hj => by simp at hj⟩ (by simp) ?_ ?_ hws3 ?_)
    · unfold maxLen; omega
    · omega
    intro qo qc w4 hr4 hf4 _
    have hb4 : Below wb.heap.size wb w4 := ((Fr.of_below (T := none0) HB3.out).rowed HR3.out (Nat.le_refl _) hf4).below (Nat.le_refl _) (fun _ h => h.elim)
    have hr4' : Row wb.heap.size w4 44 19 qo 1 qc (flatI (putS [] ⟨k, u, g, t + 5⟩)) := by
      show Row _ _ _ _ _ _ _ (icells _ ++ [])
      exact hr4
    have d1 : w4.cell? ⟨rb, 0, none⟩ = some (.slice none 0 0) := (hb4.cell (p := ⟨rb, 0, none⟩) hrl).trans c1
    have f1 := (H.out.blk.below hb4 hrl).frozen 0
    have hp := H.out.turn (n := 1) (by have := HWS0.out; omega) hb4 rfl hr4' HASC.out
    have HP2 : Hid (DStep B rb (putS [] ⟨k, u, g, t + 5⟩) w (w4.setCell ⟨rb, 0, none⟩ (.slice qo 1 qc))) := ⟨hp.1, (Fr.of_below (T := fun j => j = rb) HB0.out).step hp.2⟩
    clear hr4 hr4' hf4 hb4 hp
    go_wp2_with fail
    go_ret
    exact ⟨rfl, HP2.out⟩

theorem rput_any (B : Nat) (w : World) (rb : Nat) (S : List It) (k : Int) (u : ByteArray) (g : Gd) (t : Int) (h : RfA B w rb S) (hB : B ≤ w.heap.size) (hlen : S.length < 100000) (t1 : -1000000 ≤ t) (t2 : t ≤ 1000000) :
    Calls Try.prog 21 #[.pointer (some ⟨rb, 0, none⟩), .int .i64 k, .string u, .agg (gcs g), .int .i64 t] w fun e w' => e = .returned (.int .i64 (putR S ⟨k, u, g, t + 5⟩).1) ∧ DStep B rb (putR S ⟨k, u, g, t + 5⟩).2 w w' := by
  obtain ⟨lo, lc, h⟩ := h
  cases hf : findS S k with
  | none =>
    have hr : putR S ⟨k, u, g, t + 5⟩ = (0, putS S ⟨k, u, g, t + 5⟩) := by unfold putR; rw [show findS S (It.mk k u g (t + 5)).k = findS S k from rfl, hf]; rfl
    rw [hr]
    rcases h.row.forms with rfl | ⟨g0, rfl⟩
    · have hS : S = [] := List.eq_nil_of_length_eq_zero h.row.of_none.1
      subst hS
      exact rput_nil B w rb lc k u g t h hB t1 t2
    · exact rput_some B w rb S g0 lc k u g t h hB hlen hf t1 t2
  | some x =>
    have hr : putR S ⟨k, u, g, t + 5⟩ = (8, S) := by unfold putR; rw [show findS S (It.mk k u g (t + 5)).k = findS S k from rfl, hf]; rfl
    rw [hr]
    obtain ⟨i, _, _, hidx⟩ := find_idx hf
    have HP := Lib.hid (place_some hidx)
    have hbl : Below w.heap.size w (w.alloc (.cells (gcs g) 39)) := (Below.refl _ _).alloc (Nat.le_refl _) _
    have H1 : Hid (RfAt B (w.alloc (.cells (gcs g) 39)) rb S lo lc) := h.below hbl
    have HD : Hid (DStep B rb S w (w.alloc (.cells (gcs g) 39))) := ⟨⟨lo, lc, H1.out⟩, Fr.of_below hbl⟩
    have i1 : (0 : Int) ≤ (i : Int) := by omega
    clear h hf hidx hbl hr
    go_enter Try.func21, Try.ntmps21
    go_wp2_with fail
    generalize w.alloc (.cells (gcs g) 39) = wb at *
    refine (place_any B wb rb S lo lc k H1.out (by omega)).mono ?_
    rw [HP.out]
    rintro e w1 ⟨rfl, rfl⟩
    go_wp2_with fail
    go_ret
    exact ⟨rfl, HD.out⟩
end Go.Proofs.Ytbgjajhnjkldkaa
