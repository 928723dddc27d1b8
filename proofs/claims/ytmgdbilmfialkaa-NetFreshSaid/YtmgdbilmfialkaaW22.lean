/- Contracts of Clone (with the spare cells), Spoil, Wide, Left and Copy, by walks. -/
import Derived.Test.YtmgdbilmfialkaaW20
import Derived.Laws.CopyOwn
import Derived.Laws.MakeOwn
namespace Go.Proofs.Ytmgdbilmfialkaa
open Go.RowKit Go.WideShapes Go.Maps

/-- Every cell of the slice's block is a byte. -/
def Full (w : World) (ro : Option Addr) : Prop := ∀ g, ro = some ⟨g, 0, none⟩ → ∃ cur : Array Value, Blk w g 5 cur ∧ AllB cur.toList
theorem Full.fr {T : Nat → Prop} {w w' : World} {ro : Option Addr} (h : Full w ro) (hf : Fr T w w') (hT : ∀ k, rowOf ro k → ¬ T k) : Full w' ro := fun g hg => by
  obtain ⟨cur, h1, h2⟩ := h g hg
  exact ⟨cur, h1.fr hf (hT g ⟨_, hg, rfl⟩), h2⟩
theorem Full.none_ (w : World) : Full w none := fun g hg => by cases hg
theorem zeros_b (n : Nat) : AllB (Builtin.zeroCells #[.int .u8 0] n).toList := by
  intro v hv
  unfold Builtin.zeroCells at hv
  simp at hv
  obtain ⟨a, _, rfl⟩ := hv
  exact ⟨0, by simp [Nat.mod_one]⟩

theorem run_append_full (w : World) (ty : TypeId) (base b : Nat) (hb : Blk w b 5 #[]) (hbb : base ≤ b) (ad : Addr) (n c : Nat) (xs : List Value) (hs : Src w 1 (some ad) n xs) (ha : AllB xs) (hn : n ≤ 1073741824) :
    ∃ ao' cap' w', (Builtin.append_ #[29, 29] ty #[.slice (some ⟨b, 0, none⟩) 0 0, .slice (some ad) n c]).run Try.prog w = .ok (.slice ao' (0 + n) cap') w' ∧ Row base w' 5 1 ao' (0 + n) cap' ([] ++ xs) ∧ Fr (rowOf (some ⟨b, 0, none⟩)) w w' ∧ Full w' ao' := by
  obtain ⟨i0, hi, hz0, hz1, hz2⟩ := info_parts inf5
  have hbl := hb.lt
  have hown : Row base w 5 1 (some ⟨b, 0, none⟩) 0 0 [] := ⟨rfl, Or.inr ⟨b, 0, #[], rfl, hbb, hb, Nat.le_refl _, Nat.zero_le _, rfl, rfl⟩⟩
  obtain ⟨ao', cap', w', hrun, h2, h3, h4⟩ := run_append_src (P := Try.prog) w base 29 ty 5 i0 _ 1 1 Try.underlying29 hi hz0 hz1 hz2 rfl (by decide) (some ⟨b, 0, none⟩) 0 0 [] hown (some ad) n c xs hs ha.one (by unfold maxLen; omega) (by omega) (by omega)
  refine ⟨ao', cap', w', hrun, h2, h3, ?_⟩
  have hcells : ∀ j u, xs[j]? = some u → w.cell? (ad.add j) = some u := by
    intro j u hj
    obtain ⟨b, o, e, _, hc⟩ := hs.2 j u hj
    injection e with e
    subst e
    rw [add_plain]
    exact hc
  rcases Nat.eq_zero_or_pos n with h0 | h0
  · subst h0
    have hx : xs = [] := List.eq_nil_of_length_eq_zero hs.len1
    subst hx
    have hr := run_append_room (P := Try.prog) w 29 ty 5 i0 Try.underlying29 hi b 0 0 #[] hb ad 0 c [] (by simp) (fun j u hj => by simp at hj) (fun u hu => by cases hu) (Nat.le_refl _) (by simp)
    rw [hr] at hrun
    injection hrun with e1 _
    injection e1 with e1 _ e2
    subst e2
    intro g hg
    subst hg
    obtain ⟨_, cur, h5, h6, _⟩ := h2.block
    refine ⟨cur, h5, ?_⟩
    have : cur = #[] := Array.eq_empty_of_size_eq_zero (by simpa using h6)
    subst this
    exact AllB.nil
  · have hr := run_append_grow (P := Try.prog) w 29 ty 5 i0 _ Try.underlying29 hi hz0 ⟨b, 0, none⟩ 0 0 [] (by simp) (fun j v hj => by simp at hj) ad n c xs (by rw [hz1]; exact hs.1) hcells (by omega) (by omega) (growslice_fits (by omega) (by rw [hz2]; omega))
    rw [hr] at hrun
    injection hrun with e1 e2
    injection e1 with e1 _ e3
    subst e1 e2
    intro g hg
    injection hg with hg
    injection hg with hg
    subst hg
    refine ⟨_, heap_alloc_new w.drew _, ?_⟩
    simp only [Array.toList_append, List.nil_append]
    exact (AllB.append (xs := []) AllB.nil ha).append (zeros_b _)
theorem wpList_append_full {w : World} {ops : Array Oper} {rest : List Oper} {o : Oper} {a : Act} {Q : Exit → Act → World → Prop} (hgd : o.guard = none) (s x : Operand) (ho : o.op = .call { callee := .builtin .append, args := #[s, x], argTypes := #[29, 29] })
    (base b : Nat) (hs : a.eval s = .slice (some ⟨b, 0, none⟩) 0 0) (hb : Blk w b 5 #[]) (hbb : base ≤ b) (ad : Addr) (n c : Nat) (xs : List Value) (hx : a.eval x = .slice (some ad) n c) (hsrc : Src w 1 (some ad) n xs) (ha : AllB xs) (hn : n ≤ 1073741824)
    (h : ∀ ao' cap' w', Row base w' 5 1 ao' (0 + n) cap' ([] ++ xs) → Fr (rowOf (some ⟨b, 0, none⟩)) w w' → Full w' ao' → wpList Try.prog ops Q rest (a.put o.dst (.slice ao' (0 + n) cap')) w') : wpList Try.prog ops Q (o :: rest) a w :=
  wpList_plain hgd fun _ hK => by
    obtain ⟨ao', cap', w', hrun, h2, h3, h4⟩ := run_append_full w o.type base b hb hbb ad n c xs hsrc ha hn
    unfold Oper.wp execOp
    simp only [ho, resolve, invoke, builtin, Sem.run_bind, Sem.run_pure, Result.andThen_ok, List.map_toArray, List.map_cons, List.map_nil, hs, hx, hrun]
    exact hK _ _ (h ao' cap' w' h2 h3 h4)

/-- slices.Clone at bytes: the spare cells too. -/
theorem clone_full (w : World) (ao : Option Addr) (n c : Nat) (xs : List Value) (hb : Src w 1 ao n xs) (ha : AllB xs) (hn : n ≤ 1073741824) (h0 : ao = none → n = 0 ∧ c = 0) :
    Calls Try.prog 25 #[.slice ao n c] w fun e w' => ∃ ro rc, e = .returned (.slice ro n rc) ∧ Row w.heap.size w' 5 1 ro n rc xs ∧ Below w.heap.size w w' ∧ Full w' ro := by
  have q29 : ∀ (w : World) (a : Option Addr) (n c n' c' : Nat), (binOp .eql 29 (.slice a n c) (.slice none n' c')).run Try.prog w = .ok (.bool a.isNone) w := fun w a n c n' c' => Lib.run_eql_slice_nil w _ _ a n c n' c' Try.underlying29
  cases ao with
  | none =>
    obtain ⟨rfl, rfl⟩ := h0 rfl
    have hx : xs = [] := List.eq_nil_of_length_eq_zero hb.len1
    subst hx
    clear h0 hb ha
    go_enter Try.func25, Try.ntmps25
    go_wp2_with fail
    go_ret
    exact ⟨none, 0, rfl, Row.nil _ _ _ _, Below.refl _ _, Full.none_ _⟩
  | some ad =>
    have HR0 : Hid (Row w.heap.size (w.alloc (.cells #[] 5)) 5 1 (some ⟨w.heap.size, 0, none⟩) 0 0 []) := World.ownsRow_made w #[] 0 (Nat.le_refl _) (Nat.zero_le _) rfl
    have HBK : Hid (Blk (w.alloc (.cells #[] 5)) w.heap.size 5 #[]) := Blk.new _ _ _
    have HF1 : Hid (Fr none0 w (w.alloc (.cells #[] 5))) := (Fr.refl none0 _).alloc _
    have HV : Hid (Src (w.alloc (.cells #[] 5)) 1 (some ad) n xs) := hb.fr HF1.out (fun _ _ _ h => h)
    have HO := Lib.hid ha
    clear h0 hb ha
    go_enter Try.func25, Try.ntmps25
    go_wp2_with (at_builtin; refine wpList_append_full rfl (.tmp 5) (.tmp 6) rfl w.heap.size w.heap.size rfl HBK.out (Nat.le_refl _) ad n c xs rfl HV.out HO.out hn ?_)
    intro ro rc w4 hr4 hf4 hfu
    have HR4 : Hid (Row w.heap.size w4 5 1 ro n rc xs) := by show Row _ _ _ _ _ _ _ _; simpa using hr4
    have HB4 : Hid (Below w.heap.size w w4) := (HF1.out.rowed HR0.out (Nat.le_refl _) hf4).below (Nat.le_refl _) (fun _ h => h.elim)
    have HFU := Lib.hid hfu
    clear hr4 hf4 hfu
    go_wp2_with fail
    go_ret
    exact ⟨_, _, rfl, by simpa using HR4.out, HB4.out, HFU.out⟩

/-- Copy. -/
theorem copy_any (w : World) (ao : Option Addr) (n c : Nat) (xs : List Value) (hb : Src w 1 ao n xs) (ha : AllB xs) (hn : n ≤ 1073741824) :
    Calls Try.prog 20 #[.slice ao n c] w fun e w' => ∃ ro rc, e = .returned (.slice ro n rc) ∧ Row w.heap.size w' 5 1 ro n rc xs ∧ Below w.heap.size w w' := by
  obtain ⟨i0, hi, hz0, hz1, hz2⟩ := info_parts inf5
  have HV := Lib.hid hb
  have HO := Lib.hid ha.one
  clear hb ha
  go_enter Try.func20, Try.ntmps20
  go_wp2_with (at_builtin; refine wpList_append_src _ rfl (.tmp 4) (.tmp 5) 29 rfl w.heap.size 5 i0 _ 1 1 Try.underlying29 hi hz0 hz1 hz2 rfl (by decide) none 0 0 [] rfl (Row.nil _ _ _ _) ao n c xs rfl HV.out HO.out ?_ ?_ (Nat.le_refl _) ?_)
  · unfold maxLen; omega
  · omega
  intro ro rc w4 hr4 hf4 _
  have HR4 : Hid (Row w.heap.size w4 5 1 ro n rc xs) := by show Row _ _ _ _ _ _ _ _; simpa using hr4
  have HB4 : Hid (Below w.heap.size w w4) := hf4.below (Nat.le_refl _) (fun k ⟨a, ha, _⟩ => by cases ha)
  clear hr4 hf4
  go_wp2_with fail
  go_ret
  exact ⟨_, _, rfl, by simpa using HR4.out, HB4.out⟩

/-- Spoil: only the slice's own block turns. -/
theorem spoil_any (B : Nat) (w : World) (ro : Option Addr) (n c : Nat) (xs : List Value) (hr : Row B w 5 1 ro n c xs) (hf : Full w ro) :
    Calls Try.prog 19 #[.slice ro n c, .int .u8 1] w fun e w' => e = .returned (.tuple #[]) ∧ Fr (rowOf ro) w w' := by
  have hcm : (c : Int) ≤ 9223372036854775807 := by have := hr.capmax; unfold maxLen at this; omega
  rcases hr.forms with rfl | ⟨g, rfl⟩
  · obtain ⟨rfl, rfl, _⟩ := hr.of_none
    clear hr hf
    go_enter Try.func19, Try.ntmps19
    go_wp2_with fail
    go_loopw [4] (fun s4 wr => s4 = .int .i64 0 ∧ w = wr) (fun _ _ => 0)
    case atStart => exact ⟨rfl, rfl⟩
    case round =>
      obtain ⟨rfl, rfl⟩ := hrel
      go_wp2_with fail
      go_end0
      exact ⟨rfl, Fr.refl _ _⟩
  · obtain ⟨_, cur, h1, h2, _⟩ := hr.block
    obtain ⟨cur', h3, h4⟩ := hf g rfl
    have he : cur' = cur := by
      unfold Blk at h1 h3
      rw [h1] at h3
      injection h3 with h3
      injection h3 with h3
      exact h3.symm
    subst he
    have hle := hr.le
    have HB0 := Lib.hid h1
    have HA0 := Lib.hid h4
    have hsz : cur'.size = c := by simpa using h2
    clear hr hf h1 h2 h3 h4
    go_enter Try.func19, Try.ntmps19
    go_wp2_with fail
    go_loopw [4] (fun s4 wr => ∃ (i : Nat) (cs : Array Value), i ≤ c ∧ s4 = .int .i64 i ∧ cs.size = c ∧ Hid (Blk wr g 5 cs) ∧ Hid (AllB cs.toList) ∧ Hid (Fr (rowOf (some ⟨g, 0, none⟩)) w wr)) (fun s4 _ => c - (intOf s4).toNat)
    case atStart => exact ⟨0, cur', Nat.zero_le _, rfl, hsz, HB0.out, HA0.out, Fr.refl _ _⟩
    case round =>
      obtain ⟨i, cs, hi, rfl, hcs, hbk, hal, hfr⟩ := hrel
      by_cases hlt : i < c
      · have hci : cs[i]? = some cs[i] := Array.getElem?_eq_getElem (by omega)
        obtain ⟨z, hz⟩ := hal.out cs[i] (by simp)
        rw [hz] at hci
        have d0 : wr.cell? ⟨g, i, none⟩ = some (.int .u8 z) := (hbk.out.cell i).trans hci
        have f0 := hbk.out.frozen i
        have i1 : (0 : Int) ≤ (i : Int) := by omega
        have i2 : (i : Int) < (c : Int) := by omega
        have HNEXT : Hid (∀ y : Int, ∃ cs' : Array Value, cs'.size = c ∧ Blk (wr.setCell ⟨g, i, none⟩ (.int .u8 y)) g 5 cs' ∧ AllB cs'.toList ∧ Fr (rowOf (some ⟨g, 0, none⟩)) w (wr.setCell ⟨g, i, none⟩ (.int .u8 y))) := fun y => by
          refine ⟨_, ?_, hbk.out.set_ i _, ?_, hfr.out.setCell (p := ⟨g, i, none⟩) (fun _ => ⟨_, rfl, rfl⟩) _⟩
          · simp [hcs]
          · intro v hv
            rw [Array.toList_setIfInBounds] at hv
            rcases List.mem_or_eq_of_mem_set hv with hv | hv
            · exact hal.out v hv
            · exact ⟨y, hv⟩
        clear hci hz
        go_wp2_with fail
        go_roundw
        case rel =>
          obtain ⟨cs', q1, q2, q3, q4⟩ := HNEXT.out _
          exact ⟨i + 1, cs', by omega, by go_num, q1, q2, q3, q4⟩
        case measure => simp [intOf]; omega
      · go_wp2_with fail
        go_end0
        exact ⟨rfl, hfr.out⟩

/-- Wide: the bytes, and three more behind them. -/
def tri : List Value := [.int .u8 7, .int .u8 7, .int .u8 7]
theorem tri_len : tri.length = 3 := rfl
theorem made_b (n : Nat) : AllB (madeCells #[.int .u8 0] n).toList := by
  intro v hv
  unfold madeCells at hv
  simp at hv
  obtain ⟨a, _, rfl⟩ := hv
  exact ⟨0, by simp [Nat.mod_one]⟩
set_option maxRecDepth 100000 in
theorem wide_any (w : World) (bo : Option Addr) (bn bc : Nat) (xs : List Value) (hb : Src w 1 bo bn xs) (ha : AllB xs) (hn : bn ≤ 140737488351232) :
    Calls Try.prog 17 #[.slice bo bn bc] w fun e w' => ∃ g, e = .returned (.slice (some ⟨g, 0, none⟩) bn (bn + 3)) ∧ w.heap.size ≤ g ∧ Blk w' g 5 (xs ++ tri).toArray ∧ Below w.heap.size w w' := by
  obtain ⟨i0, hi, hz0, hz1, hz2⟩ := info_parts inf5
  have hxl := hb.len1
  obtain ⟨cur, hcur⟩ : ∃ cur : List Value, (madeCells #[.int .u8 0] (bn + 3)).toList = cur := ⟨_, rfl⟩
  have hcl : cur.length = bn + 3 := by rw [← hcur]; simp [madeCells]
  have hmk : (Instr.makeSlice 29 (.int .i64 ((bn : Int) + 3)) (.int .i64 ((bn : Int) + 3))).run Try.prog w = .ok (.slice (some ⟨w.heap.size, 0, none⟩) (bn + 3) (bn + 3)) (w.alloc (.cells cur.toArray 5)) := by
    have := run_make (P := Try.prog) w 29 5 i0 _ Try.underlying29 hi hz0 .i64 .i64 ((bn : Int) + 3) ((bn : Int) + 3) (by omega) (Int.le_refl _) (by rw [hz2]; omega) (by omega)
    rw [hz1, show ((bn : Int) + 3).toNat = bn + 3 by omega, Nat.mul_one] at this
    rw [this, ← hcur]
    rfl
  have HBK : Hid (Blk (w.alloc (.cells cur.toArray 5)) w.heap.size 5 cur.toArray) := Blk.new _ _ _
  have HV : Hid (Src (w.alloc (.cells cur.toArray 5)) 1 bo bn xs) := hb.fr ((Fr.refl none0 w).alloc _) (fun _ _ _ h => h)
  have HB1 : Hid (Below w.heap.size w (w.alloc (.cells cur.toArray 5))) := (Below.refl _ _).alloc (Nat.le_refl _) _
  have HO := Lib.hid ha
  have hszi : (Try.prog.info? 5).map (·.size) = some 1 := by rw [hi]; simp [hz1]
  have HSZI := Lib.hid hszi
  have i1 : IntKind.i64.wrap ((bn : Int) + 3) = (bn : Int) + 3 := IntWalk.i64_in _ (by omega)
  have HCL := Lib.hid hcl
  have HXL := Lib.hid hxl
  have HPOS : Hid (0 < xs.length → (some (⟨w.heap.size, 0, none⟩ : Addr)) = some ⟨w.heap.size, 0, none⟩ ∧ ∃ ad, bo = some ad ∧ ∀ j v, xs[j]? = some v → (w.alloc (.cells cur.toArray 5)).cell? (ad.add j) = some v) := fun h0 => by
    obtain ⟨b, o, e, _⟩ := HV.out.2 0 _ (List.getElem?_eq_getElem h0)
    refine ⟨rfl, _, e, fun j v hj => ?_⟩
    obtain ⟨b', o', e', _, hc⟩ := HV.out.2 j v hj
    rw [e] at e'
    injection e' with e'
    injection e' with e1 e2
    subst e1 e2
    rw [add_plain]
    exact hc
  clear hb ha hcur hszi hcl hxl
  go_enter Try.func17, Try.ntmps17
  go_wp2_with (refine wpList_copy_splice rfl (.tmp 10) (.tmp 11) 29 29 rfl 5 Try.underlying29 HSZI.out (some ⟨w.heap.size, 0, none⟩) bo (bn + 3) (bn + 3) bn bc rfl rfl w.heap.size 0 cur 5 HBK.out xs ?_ HPOS.out ?_ HO.out.one w.heap.size w HB1.out (Nat.le_refl _) ?_)
  · rw [HXL.out]; first | done | exact (Nat.min_eq_left (by omega)).symm
  · rw [HXL.out, HCL.out]; omega
  intro w2 hg2 hb2
  rw [HXL.out]
  have HB2 := Lib.hid hb2
  have HG2 : Hid (Blk w2 w.heap.size 5 (splice cur 0 xs).toArray) := hg2.out
  have HSL : Hid ((splice cur 0 xs).length = bn + 3) := by show _ = _; rw [length_splice _ _ _ (by rw [HXL.out, HCL.out]; omega), HCL.out]
  have HSX : Hid (∀ j, j < bn → (splice cur 0 xs)[j]? = xs[j]?) := fun j hj => by
    have h5 := HXL.out
    simp only [splice, List.take_zero, List.nil_append]
    rw [List.getElem?_append_left (by omega)]
  clear hg2 hb2 hmk
  go_wp2_with fail
  generalize hgg : w.heap.size = g at *
  have HGG := Lib.hid hgg
  clear hgg
  go_loopw [5] (fun s5 wr => ∃ (i : Nat) (cs : Array Value), bn ≤ i ∧ i ≤ bn + 3 ∧ s5 = .int .i64 i ∧ Hid (cs.size = bn + 3) ∧ Hid (Blk wr g 5 cs) ∧ Hid (∀ j, j < bn → cs[j]? = xs[j]?) ∧ Hid (∀ j, bn ≤ j → j < i → cs[j]? = some (.int .u8 7)) ∧ Hid (Below g w wr)) (fun s5 _ => bn + 3 - (intOf s5).toNat)
  case atStart => exact ⟨bn, _, Nat.le_refl _, by omega, rfl, by show _ = _; simpa using HSL.out, HG2.out, fun j hj => by simpa using HSX.out j hj, fun j h1 h2 => by omega, HB2.out⟩
  case round =>
    obtain ⟨i, cs, hi1, hi2, rfl, hcs, hbk, hxx, h7, hbl⟩ := hrel
    by_cases hlt : i < bn + 3
    · have hcsz := hcs.out
      have hci : cs[i]? = some cs[i] := Array.getElem?_eq_getElem (by omega)
      have d0 := (hbk.out.cell i).trans hci
      generalize cs[i] = old at *
      clear hcsz
      have f0 := hbk.out.frozen i
      have j1 : (0 : Int) ≤ (i : Int) := by omega
      have j2 : (i : Int) < (bn : Int) + 3 := by omega
      have HN1 : Hid ((cs.setIfInBounds i (.int .u8 7)).size = bn + 3) := by show _ = _; rw [Array.size_setIfInBounds]; exact hcs.out
      have HN2 := Lib.hid (hbk.out.set_ i (.int .u8 7))
      have HN3 : Hid (∀ j, j < bn → (cs.setIfInBounds i (.int .u8 7))[j]? = xs[j]?) := fun j hj => by
        rw [Array.getElem?_setIfInBounds, if_neg (by omega)]; exact hxx.out j hj
      have HN4 : Hid (∀ j, bn ≤ j → j < i + 1 → (cs.setIfInBounds i (.int .u8 7))[j]? = some (.int .u8 7)) := fun j h1 h2 => by
        have h5 := hcs.out
        rw [Array.getElem?_setIfInBounds]
        by_cases e : i = j
        · rw [if_pos e, if_pos (by omega)]
        · rw [if_neg e]; exact h7.out j h1 (by omega)
      have HN5 : Hid (Below g w (wr.setCell ⟨g, i, none⟩ (.int .u8 7))) := hbl.out.setCell (p := ⟨g, i, none⟩) (Nat.le_refl _) _
      clear hci
      go_wp2_with fail
      go_roundw
      case rel => exact ⟨i + 1, _, by omega, by omega, by go_num, HN1.out, HN2.out, HN3.out, HN4.out, HN5.out⟩
      case measure => simp [intOf]; omega
    · have e : i = bn + 3 := by omega
      subst e
      have HFIN : Hid (Blk wr g 5 (xs ++ tri).toArray) := by
        have : cs = (xs ++ tri).toArray := by
          apply Array.ext'
          apply List.ext_getElem?
          intro j
          have h5 := hcs.out
          have h6 := HXL.out
          rw [Array.getElem?_toList]
          by_cases h1 : j < bn
          · rw [hxx.out j h1, List.getElem?_append_left (by omega)]
          · by_cases h2 : j < bn + 3
            · rw [h7.out j (by omega) h2, List.getElem?_append_right (by omega), h6]
              rcases (show j - bn = 0 ∨ j - bn = 1 ∨ j - bn = 2 by omega) with e | e | e <;> rw [e] <;> rfl
            · rw [Array.getElem?_eq_none (by omega), List.getElem?_eq_none (by rw [List.length_append, tri_len]; omega)]
        rw [← this]
        exact hbk.out
      go_wp2_with fail
      go_ret
      exact ⟨g, rfl, Nat.le_of_eq HGG.out, HFIN.out, by rw [HGG.out]; exact hbl.out⟩

set_option maxRecDepth 100000 in
/-- Left, at what Wide made. -/
theorem left_any (w : World) (g : Nat) (bo : Option Addr) (bn bc : Nat) (xs : List Value) (hk : Blk w g 5 (xs ++ tri).toArray) (hb : Src w 1 bo bn xs) (ha : AllB xs) (hn : bn ≤ 140737488351232) :
    Calls Try.prog 18 #[.slice (some ⟨g, 0, none⟩) bn (bn + 3), .slice bo bn bc] w fun e w' => e = .returned (.bool true) ∧ Below w.heap.size w w' := by
  have hxl := hb.len1
  have hgl := hk.lt
  have HS1 : Hid (Src w 1 (some ⟨g, 0, none⟩) bn xs) := by
    refine ⟨by omega, fun j u hj => ⟨g, 0, rfl, hgl, ?_⟩⟩
    rw [Nat.zero_add]
    refine (hk.cell j).trans ?_
    have := (List.getElem?_eq_some_iff.1 hj).1
    rw [List.getElem?_toArray, List.getElem?_append_left this]
    exact hj
  have c0 : ∀ q, q < 3 → w.cell? ⟨g, bn + q, none⟩ = some (.int .u8 7) := fun q hq => by
    refine (hk.cell (bn + q)).trans ?_
    rw [List.getElem?_toArray, List.getElem?_append_right (by omega), hxl, Nat.add_sub_cancel_left]
    rcases (show q = 0 ∨ q = 1 ∨ q = 2 by omega) with rfl | rfl | rfl <;> rfl
  have HC := Lib.hid c0
  have HB := Lib.hid hb
  have HY := Lib.hid ha
  have i1 : IntKind.i64.wrap ((bn : Int) + 3) = (bn : Int) + 3 := IntWalk.i64_in _ (by omega)
  have i2 : IntKind.i64.wrap ((bn : Int) + 1) = (bn : Int) + 1 := IntWalk.i64_in _ (by omega)
  have i3 : IntKind.i64.wrap ((bn : Int) + 2) = (bn : Int) + 2 := IntWalk.i64_in _ (by omega)
  have i4 : ((bn : Int) + 1).toNat = bn + 1 := by omega
  have i5 : ((bn : Int) + 2).toNat = bn + 2 := by omega
  have i6 : ((bn : Int) + 3).toNat = bn + 3 := by omega
  have i7 : (0 : Int) ≤ (bn : Int) + 1 := by omega
  have i8 : (0 : Int) ≤ (bn : Int) + 2 := by omega
  clear hb ha hk c0
  go_enter Try.func18, Try.ntmps18
  go_wp2_with fail
  refine (same_any w (some ⟨g, 0, none⟩) bo bn (bn + 3) bc xs HS1.out HB.out HY.out (by omega)).mono ?_
  rintro e w1 ⟨rfl, hb1⟩
  have d0 : w1.cell? ⟨g, bn, none⟩ = some (.int .u8 7) := (hb1.cell (p := ⟨g, bn, none⟩) hgl).trans (HC.out 0 (by omega))
  have d1 : w1.cell? ⟨g, bn + 1, none⟩ = some (.int .u8 7) := (hb1.cell (p := ⟨g, bn + 1, none⟩) hgl).trans (HC.out 1 (by omega))
  have d2 : w1.cell? ⟨g, bn + 2, none⟩ = some (.int .u8 7) := (hb1.cell (p := ⟨g, bn + 2, none⟩) hgl).trans (HC.out 2 (by omega))
  have HB1 := Lib.hid hb1
  clear hb1
  go_wp2_with fail
  go_ret
  exact ⟨rfl, HB1.out⟩
end Go.Proofs.Ytmgdbilmfialkaa
