/- Contract of the document's Give, by a walk. -/
import Derived.Test.YteglklcaaicjjaaW20
namespace Go.Proofs.Yteglklcaaicjjaa
open Go.RowKit Go.Maps

theorem DStep.trans {B rb : Nat} {most : Int} {next next' : Nat} {S S' : List Nat} {w w1 w2 : World} (h1 : DStep B rb most next S w w1) (h2 : DStep B rb most next' S' w1 w2) : DStep B rb most next' S' w w2 :=
  ⟨h2.ref, fun pb mb m n s h => h2.win pb mb m n s (h1.win pb mb m n s h), h1.bel.trans h2.bel⟩
theorem RfAt.put {B : Nat} {w w5 : World} {rb : Nat} {most : Int} {nx : Nat} {L : List Nat} {lo lo' : Option Addr} {lc lc' n : Nat} (h : RfAt B w rb most nx L lo lc) (hB : B ≤ w.heap.size) (hn : n = L.length + 1)
    (hb5 : Blk w5 rb 46 #[.int .i64 most, .slice lo L.length lc, .int .u64 (nx : Int)]) (hr5 : Row B w5 29 1 lo' n lc' (un L ++ [.int .u64 (nx : Int)])) (hf5 : Fr (rowOf lo) w w5) :
    Blk (w5.setCell ⟨rb, 1, none⟩ (.slice lo' n lc')) rb 46 #[.int .i64 most, .slice lo' n lc', .int .u64 (nx : Int)] ∧
    DStep B rb most (nx + 1) (L ++ [nx]) w ((w5.setCell ⟨rb, 1, none⟩ (.slice lo' n lc')).setCell ⟨rb, 2, none⟩ (.int .u64 ((nx : Int) + 1))) := by
  subst hn
  have hne := row_ne_blk hr5 hb5 (by decide)
  have hset1 : Fr (fun j => j = rb) w5 (w5.setCell ⟨rb, 1, none⟩ (.slice lo' (L.length + 1) lc')) := (Fr.refl (fun j => j = rb) w5).setCell (p := ⟨rb, 1, none⟩) (fun _ => rfl) _
  have hset2 := hset1.setCell (p := ⟨rb, 2, none⟩) (fun _ => rfl) (.int .u64 ((nx : Int) + 1))
  have hall : Fr (fun k => k = rb ∨ rowOf lo k) w ((w5.setCell ⟨rb, 1, none⟩ (.slice lo' (L.length + 1) lc')).setCell ⟨rb, 2, none⟩ (.int .u64 ((nx : Int) + 1))) :=
    (hf5.mono (T' := fun k => k = rb ∨ rowOf lo k) (fun _ _ e => Or.inr e)).trans (hset2.mono (T' := fun k => k = rb ∨ rowOf lo k) (fun _ _ e => Or.inl e)) (fun _ _ e => e)
  have hb6 := hb5.set_ 1 (.slice lo' (L.length + 1) lc')
  have hb7 := hb6.set_ 2 (.int .u64 ((nx : Int) + 1))
  refine ⟨hb6, ⟨lo', lc', h.low, ?_, ?_⟩, h.keeps hall, h.belowB hB hall⟩
  · have e : (L ++ [nx]).length = L.length + 1 := by simp
    rw [e]
    simpa using hb7
  · have e : (L ++ [nx]).length = L.length + 1 := by simp
    rw [e, un_append]
    exact hr5.fr hset2 (fun k hk e => hne k hk e)

set_option maxRecDepth 100000 in
set_option maxHeartbeats 4000000 in
theorem rgive_any (B : Nat) (w : World) (rb : Nat) (most : Int) (next : Nat) (S : List Nat) (want : Int) (h : RfA B w rb most next S) (hB : B ≤ w.heap.size) (hm1 : 1 ≤ most) (hm2 : most ≤ 64) (hln : (S.length : Int) ≤ most) (hnx : next ≤ 4611686018427387904) (hc0 : -9223372036854775808 ≤ want) (hc1 : want ≤ 9223372036854775807) :
    Calls Try.prog 21 #[.pointer (some ⟨rb, 0, none⟩), .int .i64 want] w fun e w' => e = .returned (.int .i64 (giveN most S.length want)) ∧ DStep B rb most (next + (giveN most S.length want).toNat) (S ++ run next (giveN most S.length want).toNat) w w' := by
  have HH := Lib.hid h
  have hg := giveN_in want hm1 hln
  obtain ⟨lo, lc, h⟩ := h
  have c0 := h.c0
  have c1 := h.c1
  obtain ⟨m0, e0⟩ : ∃ m0, (if want < 0 then 0 else want) = m0 := ⟨_, rfl⟩
  obtain ⟨m1, e1⟩ : ∃ m1, (if most - (S.length : Int) < m0 then most - (S.length : Int) else m0) = m1 := ⟨_, rfl⟩
  obtain ⟨m2, e2⟩ : ∃ m2, (if m1 < 1 then 1 else m1) = m2 := ⟨_, rfl⟩
  have HG : Hid (giveN most S.length want = if S.length = 0 then m2 else m1) := by
    show giveN most S.length want = _
    unfold giveN
    split <;> (subst e2 e1 e0; split <;> split <;> (try split) <;> omega)
  obtain ⟨i0, gi, gz0, gz1, gz2⟩ := info_parts inf29
  clear h
  by_cases hL : S.length = 0
  · have HG2 : Hid (giveN most S.length want = m2) := by have := HG.out; rw [if_pos hL] at this; exact this
    rw [HG2.out] at hg
    have hL' : ((S.length : Int) == 0) = true := by simp [hL]
    have HL := Lib.hid hL
    clear hL HG
    go_enter Try.func21, Try.ntmps21
    go_wp2_with fail
    go_quiet (fail)
    go_wp2_with fail
    clear e0 e1 e2 HL hL' c0 c1 hc0 hc1
    obtain ⟨N, rfl⟩ := Int.eq_ofNat_of_zero_le hg.1
    have hN : N + S.length ≤ 64 := by omega
    clear hg
    go_loopw [6] (fun s wr => ∃ k : Nat, k ≤ N ∧ s = .int .i64 k ∧ Hid (DStep B rb most (next + k) (S ++ run next k) w wr)) (fun s _ => N - (intOf s).toNat)
    case atStart => exact ⟨0, Nat.zero_le _, rfl, (show Hid _ from by
      have e : S ++ run next 0 = S := by simp [run]
      rw [e]
      obtain ⟨lo', lc', h⟩ := HH.out
      exact ⟨⟨lo', lc', h.low, h.blk, h.row.drewN _⟩, fun _ _ _ _ _ h => ⟨h.blk, SetAt.drewN h.map _, h.asc, h.lt, h.m1, h.m2, h.len⟩, ((Fr.refl none0 w).drewN _).below hB (fun _ h => h.elim)⟩)⟩
    case round =>
      obtain ⟨k, hk, rfl, hd⟩ := hrel
      by_cases hlt : k < N
      · have HD := Lib.hid hd.out.bel.size
        obtain ⟨lo', lc', hra⟩ := hd.out.ref
        have hLl : (S ++ run next k).length = S.length + k := by rw [List.length_append, run_len]
        have HNX : Hid (next + (k + 1) = (next + k) + 1 ∧ S ++ run next (k + 1) = (S ++ run next k) ++ [next + k]) := ⟨rfl, by rw [run_succ, List.append_assoc]⟩
        have hnk : next + k ≤ 4611686018427388000 := by omega
        generalize next + k = nx at *
        generalize S ++ run next k = L at *
        have HR := Lib.hid hra
        have c1 := hra.c1
        have c2 := hra.c2
        have hpl : rb < wr.heap.size := hra.blk.lt
        have hLm : L.length ≤ 64 := by omega
        have hBw : B ≤ wr.heap.size := by have := HD.out; omega
        have i4 : IntKind.u64.wrap ((nx : Int) + 1) = (nx : Int) + 1 := IntWalk.u64_in _ (by omega)
        clear hra hLl
        go_wp2_with fail
        go_region_law (
          (refine step_append_row_at rfl (.tmp 37) (.tmp 42) 40 rfl 29 i0 _ 1 8 Try.underlying40 gi gz0 gz1 gz2 rfl (by decide) (by decide) B lo' L.length lc' (un L) rfl ?_ wr.heap.size 0 1 1 [.int .u64 (nx : Int)] rfl rfl ?_ ?_ ?_ ?_ ?_
           · exact HR.out.row.fr (((Fr.refl none0 _).drew).alloc _) (fun _ _ h => h)
           · exact fun j u hj => by
               rw [Nat.zero_add]
               exact ((Blk.new _ 29 #[.int .u64 (nx : Int)]).cell j).trans (by simpa using hj)
           · intro u hu; simp at hu; subst hu; rfl
           · omega
           · simp; omega
           intro bo' bc' w5 hr5 hf5 hat
           have hblk5 : Blk w5 rb 46 #[.int .i64 most, .slice lo' L.length lc', .int .u64 (nx : Int)] := (HR.out.blk.fr (((Fr.refl none0 _).drew).alloc _) (fun h => h)).fr hf5 (fun e => row_ne_blk HR.out.row HR.out.blk (by decide) _ e rfl)
           have HQ := Lib.hid hblk5
           have HR5 := Lib.hid hr5
           have HF5 : Hid (Fr (rowOf lo') wr w5) := ((((Fr.refl none0 _).drew).alloc _).mono (fun _ _ h => h.elim)).trans hf5 (fun _ _ e => e)
           clear hr5 hf5 hat
           have e2 : w5.cell? ⟨rb, 1, none⟩ = some (.slice lo' L.length lc') := hblk5.cell 1
           have e3 : w5.frozen? ⟨rb, 1, none⟩ = false := hblk5.frozen 1
           have hpl5 : rb < w5.heap.size := hblk5.lt
           clear hblk5))
        all_goals
          obtain ⟨hb6, hst⟩ := HR.out.put hBw rfl HQ.out HR5.out HF5.out
          have g2 := hb6.cell 2
          have g3 := hb6.frozen 2
          have hpl6 := hb6.lt
          have HD6 : Hid (DStep B rb most (nx + 1) (L ++ [nx]) w _) := hd.out.trans hst
          clear hb6 hst HQ HR5 HF5 e2 e3
          generalize w5.setCell ⟨rb, 1, none⟩ (.slice bo' (L.length + 1) bc') = w6 at *
          go_wp2_with fail
          go_roundw
          case rel => exact ⟨k + 1, by omega, by go_num, by rw [HNX.out.1, HNX.out.2]; exact HD6.out⟩
          case measure => simp [intOf]; omega
      · have hkN : k = N := by omega
        subst hkN
        go_wp2_with fail
        go_ret
        rw [HG2.out, Int.toNat_natCast]
        exact ⟨rfl, hd.out⟩
  · have HG2 : Hid (giveN most S.length want = m1) := by have := HG.out; rw [if_neg hL] at this; exact this
    rw [HG2.out] at hg
    have hL' : ((S.length : Int) == 0) = false := by simp; intro h; exact hL (by rw [h]; rfl)
    have HL := Lib.hid hL
    clear hL HG e2
    go_enter Try.func21, Try.ntmps21
    go_wp2_with fail
    go_quiet (fail)
    go_wp2_with fail
    clear e0 e1 HL hL' c0 c1 hc0 hc1
    obtain ⟨N, rfl⟩ := Int.eq_ofNat_of_zero_le hg.1
    have hN : N + S.length ≤ 64 := by omega
    clear hg
    go_loopw [6] (fun s wr => ∃ k : Nat, k ≤ N ∧ s = .int .i64 k ∧ Hid (DStep B rb most (next + k) (S ++ run next k) w wr)) (fun s _ => N - (intOf s).toNat)
    case atStart => exact ⟨0, Nat.zero_le _, rfl, (show Hid _ from by
      have e : S ++ run next 0 = S := by simp [run]
      rw [e]
      obtain ⟨lo', lc', h⟩ := HH.out
      exact ⟨⟨lo', lc', h.low, h.blk, h.row.drewN _⟩, fun _ _ _ _ _ h => ⟨h.blk, SetAt.drewN h.map _, h.asc, h.lt, h.m1, h.m2, h.len⟩, ((Fr.refl none0 w).drewN _).below hB (fun _ h => h.elim)⟩)⟩
    case round =>
      obtain ⟨k, hk, rfl, hd⟩ := hrel
      by_cases hlt : k < N
      · have HD := Lib.hid hd.out.bel.size
        obtain ⟨lo', lc', hra⟩ := hd.out.ref
        have hLl : (S ++ run next k).length = S.length + k := by rw [List.length_append, run_len]
        have HNX : Hid (next + (k + 1) = (next + k) + 1 ∧ S ++ run next (k + 1) = (S ++ run next k) ++ [next + k]) := ⟨rfl, by rw [run_succ, List.append_assoc]⟩
        have hnk : next + k ≤ 4611686018427388000 := by omega
        generalize next + k = nx at *
        generalize S ++ run next k = L at *
        have HR := Lib.hid hra
        have c1 := hra.c1
        have c2 := hra.c2
        have hpl : rb < wr.heap.size := hra.blk.lt
        have hLm : L.length ≤ 64 := by omega
        have hBw : B ≤ wr.heap.size := by have := HD.out; omega
        have i4 : IntKind.u64.wrap ((nx : Int) + 1) = (nx : Int) + 1 := IntWalk.u64_in _ (by omega)
        clear hra hLl
        go_wp2_with fail
        go_region_law (
          (refine step_append_row_at rfl (.tmp 37) (.tmp 42) 40 rfl 29 i0 _ 1 8 Try.underlying40 gi gz0 gz1 gz2 rfl (by decide) (by decide) B lo' L.length lc' (un L) rfl ?_ wr.heap.size 0 1 1 [.int .u64 (nx : Int)] rfl rfl ?_ ?_ ?_ ?_ ?_
           · exact HR.out.row.fr (((Fr.refl none0 _).drew).alloc _) (fun _ _ h => h)
           · exact fun j u hj => by
               rw [Nat.zero_add]
               exact ((Blk.new _ 29 #[.int .u64 (nx : Int)]).cell j).trans (by simpa using hj)
           · intro u hu; simp at hu; subst hu; rfl
           · omega
           · simp; omega
           intro bo' bc' w5 hr5 hf5 hat
           have hblk5 : Blk w5 rb 46 #[.int .i64 most, .slice lo' L.length lc', .int .u64 (nx : Int)] := (HR.out.blk.fr (((Fr.refl none0 _).drew).alloc _) (fun h => h)).fr hf5 (fun e => row_ne_blk HR.out.row HR.out.blk (by decide) _ e rfl)
           have HQ := Lib.hid hblk5
           have HR5 := Lib.hid hr5
           have HF5 : Hid (Fr (rowOf lo') wr w5) := ((((Fr.refl none0 _).drew).alloc _).mono (fun _ _ h => h.elim)).trans hf5 (fun _ _ e => e)
           clear hr5 hf5 hat
           have e2 : w5.cell? ⟨rb, 1, none⟩ = some (.slice lo' L.length lc') := hblk5.cell 1
           have e3 : w5.frozen? ⟨rb, 1, none⟩ = false := hblk5.frozen 1
           have hpl5 : rb < w5.heap.size := hblk5.lt
           clear hblk5))
        all_goals
          obtain ⟨hb6, hst⟩ := HR.out.put hBw rfl HQ.out HR5.out HF5.out
          have g2 := hb6.cell 2
          have g3 := hb6.frozen 2
          have hpl6 := hb6.lt
          have HD6 : Hid (DStep B rb most (nx + 1) (L ++ [nx]) w _) := hd.out.trans hst
          clear hb6 hst HQ HR5 HF5 e2 e3
          generalize w5.setCell ⟨rb, 1, none⟩ (.slice bo' (L.length + 1) bc') = w6 at *
          go_wp2_with fail
          go_roundw
          case rel => exact ⟨k + 1, by omega, by go_num, by rw [HNX.out.1, HNX.out.2]; exact HD6.out⟩
          case measure => simp [intOf]; omega
      · have hkN : k = N := by omega
        subst hkN
        go_wp2_with fail
        go_ret
        rw [HG2.out, Int.toNat_natCast]
        exact ⟨rfl, hd.out⟩
end Go.Proofs.Yteglklcaaicjjaa
