/- Contracts of Cut and Link, by walks. -/
import Derived.Test.YtmgdbilmfialkaaW5
namespace Go.Proofs.Ytmgdbilmfialkaa
open Go.RowKit Go.WideShapes Go.Maps

def cutR (A : List Ab) (k : Int) : Int × List Ab := match findA A k with
  | none => (7, A)
  | some _ => (0, A.filter fun x => decide (¬ x.k = k))
theorem NetAt.cut {B : Nat} {w w' : World} {pb mb : Nat} {last : Int} {L : List Ln} {own : Own} (h : NetAt B w pb mb last L own) (k : Int) (hf : Fr (fun j => j = mb) w w') (hm : DictAt Try.prog 3 .i64 w' mb (delD (L.map Ln.kv) k)) :
    NetAt B w' pb mb last (L.filter fun x => decide (¬ x.k = k)) own ∧ Fr (FP own) w w' := by
  have e1 : delD (L.map Ln.kv) k = (L.filter fun x => decide (¬ x.k = k)).map Ln.kv := by
    unfold delD
    rw [List.filter_map]
    rfl
  rw [e1] at hm
  refine ⟨⟨h.lowp, h.lowm, h.blk.fr hf (Blk.ne_dict h.blk h.map), hm, fun x hx => ?_, h.asc.sublist List.filter_sublist, fun x hx => h.rng x (List.mem_filter.1 hx).1, Nat.le_trans (List.length_filter_le _ _) h.len, h.last0, h.last1, h.op, h.om⟩, ?_⟩
  · refine (h.each x (List.mem_filter.1 hx).1).fr hf ?_
    rintro i hi rfl hz
    have h1 := (h.rng x (List.mem_filter.1 hx).1).1
    have h2 := h.om
    rcases hz with hz | hz | hz <;> (rw [h2] at hz; injection hz with hz _; omega)
  · refine hf.mono ?_
    rintro i hi rfl
    show (own i).2 ≤ 2
    rw [h.om]; simp
theorem cut_ab (L : List Ln) (k : Int) : (L.filter fun x => decide (¬ x.k = k)).map Ln.ab = (L.map Ln.ab).filter fun x => decide (¬ x.k = k) := by
  rw [List.filter_map]
  rfl

theorem cut_any (B : Nat) (w : World) (pb mb : Nat) (last : Int) (A : List Ab) (own : Own) (k : Int) (h : NetA B w pb mb last A own) (h1 : -9223372036854775808 ≤ k) (h2 : k ≤ 9223372036854775807) :
    Calls Try.prog 21 #[.pointer (some ⟨pb, 0, none⟩), .int .i64 k] w fun e w' => e = .returned (.int .i64 (cutR A k).1) ∧ Aft B pb mb last (cutR A k).2 own w w' := by
  have HA : Hid (Aft B pb mb last A own w w) := h.aft (Below.refl _ _)
  obtain ⟨L, rfl, h⟩ := h
  have H := Lib.hid h
  unfold cutR
  rw [find_ab]
  cases hf : findL L k with
  | none =>
    have HF := Lib.hid hf
    clear h hf
    dsimp only [Option.map_none]
    go_enter Try.func21, Try.ntmps21
    go_wp2_with fail
    refine (at_none B w pb mb last L own k 0 H.out h1 h2 HF.out).mono ?_
    rintro e w1 ⟨rfl, rfl⟩
    go_wp2_with fail
    go_ret
    exact ⟨rfl, HA.out⟩
  | some x =>
    have HF := Lib.hid hf
    have c1 := h.c1
    have HM := Lib.hid h.map
    have HW := Lib.hid (wf_i64 h1 h2)
    clear h hf
    dsimp only [Option.map_some]
    go_enter Try.func21, Try.ntmps21
    go_wp2_with fail
    refine (at_ok B w pb mb last L own k 0 x H.out h1 h2 HF.out (Or.inl rfl)).mono ?_
    rintro e w1 ⟨rfl, rfl⟩
    go_wp2_with (at_delete; refine wpList_delete_dict _ rfl _ _ 44 3 rfl 55 .i64 Try.underlying3 Try.underlying44 mb _ rfl HM.out k rfl HW.out ?_)
    intro w2 hm2 hf2
    obtain ⟨p1, p2⟩ := H.out.cut k hf2 hm2
    have HP : Hid (Aft B pb mb last ((L.map Ln.ab).filter fun x => decide (¬ x.k = k)) own w w2) := ⟨own, ⟨_, cut_ab L k, p1⟩, p2, fun _ _ => rfl⟩
    clear p1 p2 hm2 hf2
    go_wp2_with fail
    go_ret
    exact ⟨rfl, HP.out⟩

def linkR (A : List Ab) (last : Int) : Int × Int × Int × List Ab := if 64 ≤ A.length then (0, 3, last, A) else (last + 1, 0, last + 1, A ++ [⟨last + 1, [], []⟩])

section
variable {P : Program} {w : World} {ops : Array Oper} {o : Oper} {a : Act} {K' : Act → World → Prop} {Q : Exit → Act → World → Prop} {E : Prop}
theorem step_update_dict (hg : o.guard = none) (m x v : Operand) (t : TypeId) (hop : o.op = Op.mapUpdate t m x v ∨ o.op = Op.insert t m x v) (kt e : TypeId) (q : IntKind) (hq : P.underlying kt = some (.int q)) (ht : P.underlying t = some (.map kt e))
    (b : Nat) (M : List (Int × Value)) (hm : a.eval m = .map (some b)) (hs : DictAt P kt q w b M) (k : Int) (hx : a.eval x = .int q k) (hk : (Lit.int q k).wf = true) (u : Value) (hv : a.eval v = u) (hn : getD M k = none) (hl : M.length < 1000000)
    (hK : ∀ w', DictAt P kt q w' b (M ++ [(k, u)]) → Fr (fun j => j = b) w w' → K' (a.put o.dst undef) w') : if Region.wanted o (yielded ops a.tmps) = true then Oper.wp P o a w K' Q else E := by
  have hw : Region.wanted o (yielded ops a.tmps) = true := by simp [Region.wanted, hg]
  rw [if_pos hw]
  obtain ⟨w', hrun, r1, r2⟩ := dict_put w hq ht hs hk hn hl u
  unfold Oper.wp
  rcases hop with hop | hop
  · simp [execOp, hop, hm, hx, hv, hrun, Result.andThen]
    exact hK w' r1 r2
  · simp [execOp, hop, hm, hx, hv, hrun, Result.andThen]
    exact hK w' r1 r2
end

theorem NetAt.add {B : Nat} {w w1 w2 : World} {pb mb : Nat} {last : Int} {L : List Ln} {own : Own} (h : NetAt B w pb mb last L own) (hB : B ≤ w.heap.size) (hl : L.length < 64) (hlast : last < 1000000)
    (h1 : w1 = ((w.setCell ⟨pb, 0, none⟩ (.int .i64 (last + 1))).alloc (.cells #[.slice none 0 0, .slice none 0 0] 57)).drew) (hf : Fr (fun j => j = mb) w1 w2) (hm : DictAt Try.prog 3 .i64 w2 mb (L.map Ln.kv ++ [(last + 1, .pointer (some ⟨w.heap.size, 0, none⟩))])) :
    NetAt B w2 pb mb (last + 1) (L ++ [⟨last + 1, w.heap.size, none, 0, [], none, 0, []⟩]) (mark own w.heap.size (last + 1, 2)) ∧ Fr (FP own) w w2 := by
  have hset : Fr (fun j => j = pb) w (w.setCell ⟨pb, 0, none⟩ (.int .i64 (last + 1))) := (Fr.refl (fun j => j = pb) w).setCell (p := ⟨pb, 0, none⟩) (fun _ => rfl) _
  have hf1 : Fr (fun j => j = pb) w w1 := by rw [h1]; exact (hset.alloc _).drew
  have hall : Fr (fun j => j = pb ∨ j = mb) w w2 := (hf1.mono (fun _ _ e => Or.inl e)).trans hf (fun _ _ e => Or.inr e)
  have hs1 : (w.setCell ⟨pb, 0, none⟩ (.int .i64 (last + 1))).heap.size = w.heap.size := by simp [World.setCell]
  have hnew : Blk w1 w.heap.size 57 #[.slice none 0 0, .slice none 0 0] := by
    rw [h1]
    have := Blk.new (w.setCell ⟨pb, 0, none⟩ (.int .i64 (last + 1))) 57 #[.slice none 0 0, .slice none 0 0]
    rw [hs1] at this
    exact this
  have hmlt := h.map.lt
  have hplt := h.blk.lt
  have hnew2 : Blk w2 w.heap.size 57 #[.slice none 0 0, .slice none 0 0] := hnew.fr hf (by omega)
  have hmk : ∀ i, i < w.heap.size → mark own w.heap.size (last + 1, 2) i = own i := mark_old _ _ _
  have hpm : pb ≠ mb := Blk.ne_dict h.blk h.map
  have hpb1 : Blk w1 pb 46 #[.int .i64 (last + 1), .map (some mb)] := by
    rw [h1]
    exact ((h.blk.set_ 0 _).alloc _).drew
  refine ⟨⟨h.lowp, h.lowm, hpb1.fr hf hpm, ?_, ?_, ?_, ?_, by simp; omega, by have := h.last0; omega, by omega, (hmk _ hplt).trans h.op, (hmk _ hmlt).trans h.om⟩, ?_⟩
  · rw [List.map_append]; exact hm
  · intro x hx
    rcases List.mem_append.1 hx with hx | hx
    · have hX := h.each x hx
      have hr := h.rng x hx
      refine (hX.relabel hmk).fr hall ?_
      rintro i hi (rfl | rfl) hz
      · rw [hmk _ hi, h.op] at hz
        rcases hz with hz | hz | hz <;> (injection hz with hz _; omega)
      · rw [hmk _ hi, h.om] at hz
        rcases hz with hz | hz | hz <;> (injection hz with hz _; omega)
    · rw [List.mem_singleton.1 hx]
      exact ⟨hB, hnew2, Row.nil _ _ _ _, Row.nil _ _ _ _, AllB.nil, AllB.nil, by simp, by simp, mark_new _ _ _ (Nat.le_refl _), (fun i hi => by obtain ⟨a, ha, _⟩ := hi; cases ha), (fun i hi => by obtain ⟨a, ha, _⟩ := hi; cases ha)⟩
  · refine List.pairwise_append.2 ⟨h.asc, List.pairwise_singleton _ _, fun a ha b hb => ?_⟩
    rw [List.mem_singleton.1 hb]
    have := (h.rng a ha).2
    show a.k < last + 1
    omega
  · intro x hx
    rcases List.mem_append.1 hx with hx | hx
    · have := h.rng x hx; omega
    · rw [List.mem_singleton.1 hx]
      have := h.last0
      exact ⟨by show 1 ≤ last + 1; omega, Int.le_refl _⟩
  · refine hall.mono ?_
    rintro i hi (rfl | rfl)
    · show (own i).2 ≤ 2
      rw [h.op]; simp
    · show (own i).2 ≤ 2
      rw [h.om]; simp

theorem zero57 (w : World) : (zeroValue 57).run Try.prog w = .ok (.agg #[.slice none 0 0, .slice none 0 0]) w := by kernel_rfl

theorem link_any (B : Nat) (w : World) (pb mb : Nat) (last : Int) (A : List Ab) (own : Own) (h : NetA B w pb mb last A own) (hB : B ≤ w.heap.size) (hlast : last < 1000000) :
    Calls Try.prog 10 #[.pointer (some ⟨pb, 0, none⟩)] w fun e w' => e = .returned (.tuple #[.int .i64 (linkR A last).1, .int .i64 (linkR A last).2.1]) ∧ Aft B pb mb (linkR A last).2.2.1 (linkR A last).2.2.2 own w w' := by
  have HA : Hid (Aft B pb mb last A own w w) := h.aft (Below.refl _ _)
  obtain ⟨L, rfl, h⟩ := h
  have H := Lib.hid h
  have c0 := h.c0
  have c1 := h.c1
  have HM := Lib.hid h.map
  have hll : (L.map Ln.kv).length = L.length := List.length_map _
  have HLL := Lib.hid hll
  have l0 := h.last0
  unfold linkR
  rw [List.length_map]
  by_cases hful : 64 ≤ L.length
  · rw [if_pos hful]
    clear h hll
    go_enter Try.func10, Try.ntmps10
    go_wp2_with fail
    refine (off_any w pb mb c1).mono ?_
    rintro e w1 ⟨rfl, rfl⟩
    go_wp2_with (at_len; refine wpList_len_dict _ rfl _ 44 rfl 3 55 .i64 Try.underlying44 mb _ rfl HM.out ?_; rw [HLL.out])
    go_ret2
    exact ⟨rfl, HA.out⟩
  · rw [if_neg hful]
    have hful2 : L.length < 64 := by omega
    have HFUL := Lib.hid hful2
    have HN : Hid (getD (L.map Ln.kv) (last + 1) = none) := by
      show _ = _
      rw [getD_none]
      intro p hp
      obtain ⟨x, hx, rfl⟩ := List.mem_map.1 hp
      have := (h.rng x hx).2
      show x.k ≠ last + 1
      omega
    have f0 := h.blk.frozen 0
    have hpm : pb ≠ mb := Blk.ne_dict h.blk h.map
    have hplt := h.blk.lt
    have hmlt := h.map.lt
    clear h hll hful2
    go_enter Try.func10, Try.ntmps10
    go_wp2_with fail
    refine (off_any w pb mb c1).mono ?_
    rintro e w1 ⟨rfl, rfl⟩
    go_wp2_with (at_len; refine wpList_len_dict _ rfl _ 44 rfl 3 55 .i64 Try.underlying44 mb _ rfl HM.out ?_; rw [HLL.out])
    have hs1 : (w.setCell ⟨pb, 0, none⟩ (.int .i64 (last + 1))).heap.size = w.heap.size := by simp [World.setCell]
    have HMD : Hid (DictAt Try.prog 3 .i64 ((w.setCell ⟨pb, 0, none⟩ (.int .i64 (last + 1))).alloc (.cells #[.slice none 0 0, .slice none 0 0] 57)).drew mb (L.map Ln.kv)) := by
      have hset : Fr (fun j => j = pb) w (w.setCell ⟨pb, 0, none⟩ (.int .i64 (last + 1))) := (Fr.refl (fun j => j = pb) w).setCell (p := ⟨pb, 0, none⟩) (fun _ => rfl) _
      exact HM.out.fr ((hset.alloc _).drew) (fun e => hpm e.symm)
    have HAD : Hid (∀ w2, Fr (fun j => j = mb) ((w.setCell ⟨pb, 0, none⟩ (.int .i64 (last + 1))).alloc (.cells #[.slice none 0 0, .slice none 0 0] 57)).drew w2 → DictAt Try.prog 3 .i64 w2 mb (L.map Ln.kv ++ [(last + 1, .pointer (some ⟨w.heap.size, 0, none⟩))]) →
        NetAt B w2 pb mb (last + 1) (L ++ [⟨last + 1, w.heap.size, none, 0, [], none, 0, []⟩]) (mark own w.heap.size (last + 1, 2)) ∧ Fr (FP own) w w2) := fun w2 hf hm => H.out.add hB HFUL.out hlast rfl hf hm
    have HW := Lib.hid (wf_i64 (k := last + 1) (by omega) (by omega))
    have hz57 := zero57
    have g0 : (w.setCell ⟨pb, 0, none⟩ (.int .i64 (last + 1))).cell? ⟨pb, 0, none⟩ = some (.int .i64 (last + 1)) := (H.out.blk.set_ 0 _).cell 0
    have g1 : (w.setCell ⟨pb, 0, none⟩ (.int .i64 (last + 1))).cell? ⟨pb, 1, none⟩ = some (.map (some mb)) := (H.out.blk.set_ 0 _).cell 1
    generalize hw3 : w.setCell ⟨pb, 0, none⟩ (.int .i64 (last + 1)) = w3 at *
    clear hw3
    have hll2 : (L.map Ln.kv).length < 1000000 := by rw [HLL.out]; have := HFUL.out; omega
    have HLL2 := Lib.hid hll2
    clear hll2
    obtain ⟨w5, hrun, hm5, hf5⟩ := dict_put _ Try.underlying3 Try.underlying44 HMD.out HW.out HN.out HLL2.out (.pointer (some ⟨w.heap.size, 0, none⟩))
    obtain ⟨p1, p2⟩ := HAD.out w5 hf5 hm5
    have HP1 := Lib.hid p1
    have HP2 := Lib.hid p2
    have k0 := p1.c0
    clear hm5 hf5 p1 p2
    go_region_law (fail)
    all_goals
      go_wp2_with fail
      go_ret2
      refine ⟨rfl, _, ⟨_, ?_, HP1.out⟩, HP2.out, mark_old _ _ _⟩
      rw [List.map_append]
      rfl
end Go.Proofs.Ytmgdbilmfialkaa
