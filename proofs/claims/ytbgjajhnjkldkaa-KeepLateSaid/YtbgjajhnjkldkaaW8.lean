/- Contract of Late, by a walk. -/
import Derived.Test.YtbgjajhnjkldkaaW7
namespace Go.Proofs.Ytbgjajhnjkldkaa
open Go.RowKit Go.WideShapes Go.Maps

def lateS (S : List It) (tick : Int) : List Int := (S.filter fun x => decide (x.t ≤ tick)).map (·.k)
def lateP (tick : Int) (v : Value) : Bool := match v with
  | .agg cs => match cs[17]? with
    | some (Value.int _ t) => decide (t ≤ tick)
    | _ => false
  | _ => false
theorem lateP_val (tick : Int) (x : It) : lateP tick x.val = decide (x.t ≤ tick) := rfl
attribute [-go_sem] Go.Instr.loadAt
attribute [local go_sem] load47 load3

set_option maxRecDepth 100000 in
set_option maxHeartbeats 4000000 in
theorem late_any (B : Nat) (w : World) (pb mb : Nat) (S : List It) (tick : Int) (h : KeepAt B w pb mb S) (hlen : S.length < 100000) :
    Calls Try.prog 14 #[.pointer (some ⟨pb, 0, none⟩), .int .i64 tick] w fun e w' => ∃ ro rc, e = .returned (.slice ro (lateS S tick).length rc) ∧ Row w.heap.size w' 3 1 ro (lateS S tick).length rc (ints (lateS S tick)) ∧ Below w.heap.size w w' := by
  have c1 := h.c0
  obtain ⟨M, hp, hd⟩ := h.map
  have HM := Lib.hid hd
  have hml : M.length = S.length := hp.length_eq
  have HSORT : Hid (∀ V : List Int, V.Perm (((M.map It.kv).filter fun x => lateP tick x.2).map (·.1)) → srtL V = lateS S tick ∧ V.length = (lateS S tick).length) := fun V hV => by
    have e1 : (((M.map It.kv).filter fun x => lateP tick x.2).map (·.1)) = lateS M tick := by
      unfold lateS
      rw [List.filter_map, List.map_map]
      rfl
    rw [e1] at hV
    have h2 : (lateS M tick).Perm (lateS S tick) := (hp.filter _).map _
    have h3 := hV.trans h2
    exact ⟨srtL_of h3 (List.pairwise_map.2 (h.asc.sublist List.filter_sublist)), h3.length_eq⟩
  have HVALS : Hid (∀ k v, getD (M.map It.kv) k = some v → ∃ x : It, v = .agg (ics x.u x.g x.t)) := fun k v hv => by
    rw [get_kv] at hv
    cases hf : findS M k with
    | none => rw [hf] at hv; cases hv
    | some x => rw [hf] at hv; injection hv with hv; exact ⟨x, hv.symm⟩
  have hmlt := h.mlt
  obtain ⟨i0, hi, hz0, hz1, hz2⟩ := info_parts inf3
  clear h hp hd
  go_enter Try.func14, Try.ntmps14
  go_wp2_with fail
  refine (off_any w pb mb c1).mono ?_
  rintro e w1 ⟨rfl, rfl⟩
  go_wp2_with (at_range; refine wpList_range_dict _ rfl _ 47 rfl 3 55 .i64 Try.underlying3 Try.underlying47 mb _ rfl HM.out ?_)
  intro w2 hr2 hf2 hs2
  have HRG := Lib.hid hr2
  have HF2 := Lib.hid hf2
  clear hr2 hf2 c1
  go_wp2_with fail
  generalize hrr : w.heap.size = r at *
  have HRR := Lib.hid hrr
  clear hrr
  go_loopw [5, 6, 7] (fun s5 _ _ wr => ∃ (lf : Int → Bool) (cnt : Nat) (V : List Int) (lo : Option Addr) (lc : Nat), s5 = .slice lo V.length lc ∧ V.length + cnt ≤ S.length ∧ Hid (RangeAt Try.prog 3 .i64 wr mb r (M.map It.kv) lf cnt) ∧ Hid (Got (M.map It.kv) (lateP tick) lf V) ∧ Hid (Row w.heap.size wr 3 1 lo V.length lc (ints V)) ∧ Hid (Fr none0 w wr)) (fun _ _ _ wr => wr.rangeLeft mb r)
  case atStart => exact ⟨_, _, [], none, 0, rfl, by simp, HRG.out, Got.start _ _, Row.nil _ _ _ _, HF2.out⟩
  case round =>
    obtain ⟨lf, cnt, V, lo, lc, rfl, hvc, hrg, hgot, hrow, hf⟩ := hrel
    go_wp2_with (at_next; refine wpList_next_dict _ rfl _ rfl 3 .i64 Try.underlying3 mb r _ lf cnt rfl hrg.out ?_ ?_)
    · intro hdone
      obtain ⟨hs, hvl⟩ := HSORT.out V (hgot.out.done hdone hrg.out.dict.once)
      have HS := Lib.hid hs
      have HVL := Lib.hid hvl
      have hv64 : V.length < 1000000 := by omega
      clear hs hvl hdone
      go_wp2_with fail
      refine (sort_any wr w.heap.size lo lc V hrow.out hv64).mono ?_
      rintro e w5 ⟨rfl, hr5, hf5⟩
      rw [HS.out] at hr5
      have HR5 := Lib.hid hr5
      have HF5 : Hid (Fr none0 w w5) := hf.out.rowed hrow.out (Nat.le_refl _) hf5
      clear hr5 hf5
      go_wp2_with fail
      go_ret
      refine ⟨lo, lc, ?_, ?_, HF5.out.below (Nat.le_refl _) (fun _ h => h.elim)⟩
      · rw [← HVL.out]; rfl
      · rw [← HVL.out]; exact HR5.out
    · intro x v w3 cnt3 hwx hlx hgx hrg3 hcnt hf3 hs3 hen
      obtain ⟨x', rfl⟩ := HVALS.out _ _ hgx
      have hf3n : Fr none0 w w3 := hf.out.trans (hf3.mono (T' := fun k => w.heap.size ≤ k) (fun k _ e => by have := HRR.out; omega)) (fun k hk h => absurd hk (Nat.not_lt_of_le h))
      have hrow3 : Row w.heap.size w3 3 1 lo V.length lc (ints V) := hrow.out.fr hf3 (row_ne_iter hrow.out hrg.out)
      have HF3 := Lib.hid hf3n
      have HR3 := Lib.hid hrow3
      have HRG3 := Lib.hid hrg3
      have HLX := Lib.hid hlx
      have HGX := Lib.hid hgx
      have HGOT := hgot
      have HB1 : Hid (Blk (w3.alloc (.cells (ics .empty (fun _ => 0) 0) 55)) w3.heap.size 55 (ics .empty (fun _ => 0) 0)) := Blk.new _ _ _
      have HCNT : Hid (cnt3 < wr.rangeLeft mb r) := by show _ < _; rw [hrg.out.left_eq]; exact hcnt
      clear hf3n hrow3 hrg3 hlx hgx hwx hs3 hs2 hf3
      go_wp2_with (refine wpList_store_blk rfl 55 (.tmp 7) (.tmp 19) rfl w3.heap.size 55 _ (ics x'.u x'.g x'.t) rfl rfl HB1.out rfl info55 (ics_one _ _ _) ?_)
      intro w4 hb4 hf4
      have hB4 : Below w3.heap.size w3 w4 := ((Fr.refl none0 w3).alloc _ |>.trans (hf4.mono (T' := fun k => w3.heap.size ≤ k) (fun k _ e => by omega)) (fun k hk h => absurd hk (Nat.not_lt_of_le h))).below (Nat.le_refl _) (fun _ h => h.elim)
      have d17 : w4.cell? ⟨w3.heap.size, 17, none⟩ = some (.int .i64 x'.t) := hb4.cell 17
      have HF4 : Hid (Fr none0 w w4) := HF3.out.step (Fr.of_below hB4)
      have HR4 : Hid (Row w.heap.size w4 3 1 lo V.length lc (ints V)) := HR3.out.fr (Fr.of_below (T := none0) hB4) (fun _ _ h => h)
      have HRG4 : Hid (RangeAt Try.prog 3 .i64 w4 mb r (M.map It.kv) (fun z => lf z && !decide (z = x)) cnt3) := HRG3.out.fr (Fr.of_below (T := none0) hB4) (fun h => h) (fun h => h)
      have hw4 : w.heap.size ≤ w4.heap.size := HF4.out.size
      have hvb : V.length + 1 + cnt3 ≤ S.length := by have := HCNT.out; rw [hrg.out.left_eq] at this; omega
      clear hB4 hb4 hf4
      by_cases hc : x'.t ≤ tick
      · have HG4 := Lib.hid (HGOT.out.take HLX.out HGX.out (by simpa [lateP, ics] using hc))
        have hal : Below w4.heap.size w4 (w4.alloc (.cells #[.int .i64 x] 3)) := (Below.refl _ _).alloc (Nat.le_refl _) _
        have HF5 : Hid (Fr none0 w (w4.alloc (.cells #[.int .i64 x] 3))) := HF4.out.alloc _
        have HR5 : Hid (Row w.heap.size (w4.alloc (.cells #[.int .i64 x] 3)) 3 1 lo V.length lc (ints V)) := HR4.out.fr (Fr.of_below (T := none0) hal) (fun _ _ h => h)
        have HRG5 : Hid (RangeAt Try.prog 3 .i64 (w4.alloc (.cells #[.int .i64 x] 3)) mb r (M.map It.kv) (fun z => lf z && !decide (z = x)) cnt3) := HRG4.out.fr (Fr.of_below (T := none0) hal) (fun h => h) (fun h => h)
        have HS5 : Hid (Src (w4.alloc (.cells #[.int .i64 x] 3)) 1 (some ⟨w4.heap.size, 0, none⟩) 1 [.int .i64 x]) := by
          refine ⟨rfl, fun j u hj => ⟨w4.heap.size, 0, rfl, by simp, ?_⟩⟩
          rw [Nat.zero_add, (Blk.new w4 3 #[.int .i64 x]).cell j]
          simpa using hj
        have hw5 : w.heap.size ≤ w4.heap.size + 1 := by omega
        clear hal hw4
        go_wp2_with (at_builtin; refine wpList_append_src _ rfl (.tmp 24) (.tmp 26) 32 rfl w.heap.size 3 i0 _ 1 8 Try.underlying32 hi hz0 hz1 hz2 rfl (by decide) lo V.length lc (ints V) rfl HR5.out (some ⟨w4.heap.size, 0, none⟩) 1 1 [.int .i64 x] rfl HS5.out (by intro u hu; simp at hu; subst hu; rfl) ?_ ?_ ?_ ?_)
        · unfold maxLen; omega
        · omega
        · first | omega | (simp; omega)
        intro lo' lc' w6 hr6 hf6 _
        have hfl : ints V ++ [.int .i64 x] = ints (V ++ [x]) := by unfold ints; simp
        rw [hfl] at hr6
        have hvl : (V ++ [x]).length = V.length + 1 := by simp
        have HR6 : Hid (Row w.heap.size w6 3 1 lo' (V ++ [x]).length lc' (ints (V ++ [x]))) := by show Row _ _ _ _ _ _ _ _; rw [hvl]; exact hr6
        have HF6 : Hid (Fr none0 w w6) := HF5.out.rowed HR5.out (Nat.le_refl _) hf6
        have hnm : ¬ rowOf lo mb := fun h => row_ne_dict HR5.out HRG5.out.dict mb h rfl
        have hnr : ¬ rowOf lo r := fun h => row_ne_iter HR5.out HRG5.out r h rfl
        have HRG6 := Lib.hid (HRG5.out.fr hf6 hnm hnr)
        have HVL := Lib.hid hvl
        clear hr6 hf6 hfl hvl hnm hnr hen
        go_wp2_with fail
        go_roundw
        case rel => exact ⟨_, cnt3, V ++ [x], lo', lc', by rw [HVL.out], by rw [HVL.out]; exact hvb, HRG6.out, HG4.out, HR6.out, HF6.out⟩
        case measure => have := HCNT.out; rw [HRG6.out.left_eq]; exact this
      · have HG4 := Lib.hid (HGOT.out.pass HGX.out (by simpa [lateP, ics] using hc))
        clear hen
        go_wp2_with fail
        go_roundw
        case rel => exact ⟨_, cnt3, V, lo, lc, rfl, by omega, HRG4.out, HG4.out, HR4.out, HF4.out⟩
        case measure => have := HCNT.out; rw [HRG4.out.left_eq]; exact this
end Go.Proofs.Ytbgjajhnjkldkaa
