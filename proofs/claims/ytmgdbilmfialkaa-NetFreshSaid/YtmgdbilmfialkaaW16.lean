/- Contract of the document's Cut, by a walk; both nets. -/
import Derived.Test.YtmgdbilmfialkaaW15
namespace Go.Proofs.Ytmgdbilmfialkaa
open Go.RowKit Go.WideShapes Go.Maps

theorem filter_split {M : List Ln} {i : Nat} {x : Ln} {k : Int} (hasc : M.Pairwise fun x y => x.k < y.k) (hi : M[i]? = some x) (hk : x.k = k) : M.filter (fun y => decide (¬ y.k = k)) = M.take i ++ M.drop (i + 1) := by
  obtain ⟨hl, he⟩ := List.getElem?_eq_some_iff.1 hi
  have e : M = M.take i ++ x :: M.drop (i + 1) := by
    rw [← he, ← List.drop_eq_getElem_cons hl, List.take_append_drop]
  have hp : (M.take i ++ x :: M.drop (i + 1)).Pairwise fun x y => x.k < y.k := by rw [← e]; exact hasc
  obtain ⟨_, h2, h3⟩ := List.pairwise_append.1 hp
  have h4 := (List.pairwise_cons.1 h2).1
  have f1 : (M.take i).filter (fun y => decide (¬ y.k = k)) = M.take i := List.filter_eq_self.2 fun y hy => by
    have := h3 y hy x (List.mem_cons_self)
    simp only [decide_eq_true_eq]; omega
  have f2 : (M.drop (i + 1)).filter (fun y => decide (¬ y.k = k)) = M.drop (i + 1) := List.filter_eq_self.2 fun y hy => by
    have := h4 y hy
    simp only [decide_eq_true_eq]; omega
  have f3 : M.filter (fun y => decide (¬ y.k = k)) = (M.take i ++ x :: M.drop (i + 1)).filter (fun y => decide (¬ y.k = k)) := by rw [← e]
  rw [f3, List.filter_append, f1, List.filter_cons_of_neg (by simpa using hk), f2]
theorem RefAt.cut {B : Nat} {w w2 : World} {rb : Nat} {last : Int} {M : List Ln} {lo : Option Addr} {lc : Nat} {own : Own} {qo : Option Addr} {qc n : Nat} {k : Int} (h : RefAt B w rb last M lo lc own) (hB : B ≤ w.heap.size) (hb : Below w.heap.size w w2)
    (hn : n = (M.filter fun y => decide (¬ y.k = k)).length) (hr : Row w.heap.size w2 74 3 qo n qc (flat3 (M.filter fun y => decide (¬ y.k = k)))) :
    RefAt B (w2.setCell ⟨rb, 1, none⟩ (.slice qo n qc)) rb last (M.filter fun y => decide (¬ y.k = k)) qo qc (mark own w.heap.size (0, 4)) ∧ Fr (FR own) w (w2.setCell ⟨rb, 1, none⟩ (.slice qo n qc)) := by
  subst hn
  have hset2 : Fr (fun j => j = rb) w2 (w2.setCell ⟨rb, 1, none⟩ (.slice qo (M.filter fun y => decide (¬ y.k = k)).length qc)) := (Fr.refl (fun j => j = rb) w2).setCell (p := ⟨rb, 1, none⟩) (fun _ => rfl) _
  have hall : Fr (fun j => j = rb) w (w2.setCell ⟨rb, 1, none⟩ (.slice qo (M.filter fun y => decide (¬ y.k = k)).length qc)) := (Fr.of_below (T := fun j => j = rb) hb).trans hset2 (fun _ _ e => e)
  have hmk : ∀ i, i < w.heap.size → mark own w.heap.size (0, 4) i = own i := mark_old _ _ _
  have hrl := h.blk.lt
  have hnew : ∀ j, rowOf qo j → w.heap.size ≤ j := fun j hj => (hr.tag j (row_lt hr j hj) hj).1
  refine ⟨⟨h.low, (h.blk.below hb hrl).set_ 1 _, (hr.base hB).fr hset2 (fun j hj e => by have := hnew j hj; omega), ?_, h.asc.sublist List.filter_sublist, fun x hx => h.rng x (List.mem_filter.1 hx).1, Nat.le_trans (List.length_filter_le _ _) h.len, h.last0, h.last1, (hmk _ hrl).trans h.orb, fun j hj => mark_new _ _ _ (hnew j hj)⟩, ?_⟩
  · intro x hx
    have hx := (List.mem_filter.1 hx).1
    have hg := h.rng x hx
    refine ((h.each x hx).relabel hmk).fr hall ?_
    rintro i hi rfl hz
    rw [hmk _ hi, h.orb] at hz
    rcases hz with hz | hz <;> (injection hz with hz _; omega)
  · refine hall.mono ?_
    rintro i hi rfl
    show 3 ≤ (own i).2 ∧ (own i).2 ≤ 4
    rw [h.orb]; simp
theorem flat3_take (M : List Ln) (i : Nat) (hi : i ≤ M.length) : (flat3 M).take (i * 3) = flat3 (M.take i) := by
  have h1 : flat3 M = flat3 (M.take i) ++ flat3 (M.drop i) := by rw [← flat3_append, List.take_append_drop]
  have h2 : (flat3 (M.take i)).length = i * 3 := by rw [flat3_length, List.length_take]; omega
  rw [h1, ← h2, List.take_left]
theorem flat3_drop (M : List Ln) (i : Nat) (hi : i ≤ M.length) : (flat3 M).drop (i * 3) = flat3 (M.drop i) := by
  have h1 : flat3 M = flat3 (M.take i) ++ flat3 (M.drop i) := by rw [← flat3_append, List.take_append_drop]
  have h2 : (flat3 (M.take i)).length = i * 3 := by rw [flat3_length, List.length_take]; omega
  rw [h1, ← h2, List.drop_left]

set_option maxHeartbeats 2000000 in
theorem rcut_any (B : Nat) (w : World) (rb : Nat) (last : Int) (A : List Ab) (own : Own) (k : Int) (h : RefA B w rb last A own) (hB : B ≤ w.heap.size) :
    Calls Try.prog 32 #[.pointer (some ⟨rb, 0, none⟩), .int .i64 k] w fun e w' => e = .returned (.int .i64 (cutR A k).1) ∧ AftR B rb last (cutR A k).2 own w w' := by
  have HA : Hid (AftR B rb last A own w w) := h.aft (Below.refl _ _)
  obtain ⟨M, lo, lc, rfl, h⟩ := h
  have H := Lib.hid h
  unfold cutR
  rw [find_ab]
  cases hf : findL M k with
  | none =>
    have HP := Lib.hid (place_none hf)
    clear h hf
    dsimp only [Option.map_none]
    go_enter Try.func32, Try.ntmps32
    go_wp2_with fail
    refine (place_any B w rb last M lo lc own k H.out).mono ?_
    rw [HP.out]
    rintro e w1 ⟨rfl, rfl⟩
    go_wp2_with fail
    go_ret
    exact ⟨rfl, HA.out⟩
  | some x =>
    obtain ⟨i, hi, hxk, hidx⟩ := find_idx hf
    have hpl := place_some hidx
    have hil : i < M.length := (List.getElem?_eq_some_iff.1 hi).1
    obtain ⟨g, rfl⟩ := h.row.form (by omega)
    have c1 := h.c1
    have hlen := h.len
    have hlc := h.row.le
    have i3 : ¬ (i : Int) < 0 := by omega
    have hrl := h.blk.lt
    have hcm : lc ≤ 9223372036854775807 := by have := h.row.capmax; unfold maxLen at this; omega
    have HSP := Lib.hid (filter_split h.asc hi hxk)
    have HT1 : Hid (Src w 3 (some ⟨g, 0, none⟩) i (flat3 (M.take i))) := by
      have := h.row.src.take (k := i) (by omega)
      rw [flat3_take M i (by omega)] at this
      exact this
    obtain ⟨ad, had, had2⟩ : ∃ ad : Addr, (if lc = i + 1 then some (⟨g, 0, none⟩ : Addr) else some ⟨g, (i + 1) * 3, none⟩) = some ad ∧ (i + 1 < M.length → ad = ⟨g, (i + 1) * 3, none⟩) := by
      by_cases e : lc = i + 1
      · exact ⟨⟨g, 0, none⟩, by rw [if_pos e], fun h => by omega⟩
      · exact ⟨⟨g, (i + 1) * 3, none⟩, by rw [if_neg e], fun _ => rfl⟩
    have HT2 : Hid (Src w 3 (some ad) (M.length - (i + 1)) (flat3 (M.drop (i + 1)))) := by
      have := h.row.src.cut (k := i + 1) (bo := some ad) (fun hlt b o e => by rw [had2 hlt]; injection e with e; injection e with e1 e2; subst e1; rw [← e2]; simp)
      rw [flat3_drop M (i + 1) (by omega)] at this
      exact this
    have HN : Hid (i + (M.length - (i + 1)) = (M.filter fun y => decide (¬ y.k = k)).length) := by
      show _ = _
      rw [HSP.out, List.length_append, List.length_take, List.length_drop]; omega
    have HPL := Lib.hid hpl
    obtain ⟨i0, hi0, hz0, hz1, hz2⟩ := info_parts inf74
    have i1 : i ≤ lc := by omega
    have i2 : (i : Int) ≤ (lc : Int) := by omega
    have i4 : IntKind.i64.wrap ((i : Int) + 1) = (i : Int) + 1 := IntWalk.i64_in _ (by omega)
    have i5 : (0 : Int) ≤ (i : Int) + 1 := by omega
    have i6 : ((i : Int) + 1).toNat = i + 1 := by omega
    have i7 : (i : Int) + 1 ≤ (M.length : Int) := by omega
    clear h hf hi hxk hidx hpl had2
    dsimp only [Option.map_some]
    go_enter Try.func32, Try.ntmps32
    go_wp2_with fail
    refine (place_any B w rb last M _ lc own k H.out).mono ?_
    rw [HPL.out]
    rintro e w1 ⟨rfl, rfl⟩
    go_wp2_with (at_builtin; refine wpList_append_src _ rfl (.tmp 12) (.tmp 18) 61 rfl w.heap.size 74 i0 _ 3 56 Try.underlying61 hi0 hz0 hz1 hz2 rfl (by decide) none 0 0 [] rfl (Row.nil _ _ _ _) (some ⟨g, 0, none⟩) i lc (flat3 (M.take i)) rfl HT1.out (flat3_one _) ?_ ?_ ?_ ?_)
    · unfold maxLen; omega
    · omega
    · omega
    intro ro rc w1 hr1 hf1 _
    have hr1' : Row w.heap.size w1 74 3 ro i rc (flat3 (M.take i)) := by simpa using hr1
    have hb1 : Below w.heap.size w w1 := hf1.below (Nat.le_refl _) (fun k ⟨a, ha, _⟩ => by cases ha)
    have HR1 := Lib.hid hr1'
    have HB1 := Lib.hid hb1
    have c1' : w1.cell? ⟨rb, 1, none⟩ = some (.slice (some ⟨g, 0, none⟩) M.length lc) := (hb1.cell (p := ⟨rb, 1, none⟩) hrl).trans c1
    have HT3 : Hid (Src w1 3 (some ad) (M.length - (i + 1)) (flat3 (M.drop (i + 1)))) := HT2.out.below hb1 (fun _ _ h => h)
    have hws : w.heap.size ≤ w1.heap.size := hb1.size
    clear hr1 hr1' hf1 hb1
    go_wp2_with (at_builtin; refine wpList_append_src _ rfl (.tmp 21) (.tmp 28) 61 rfl w.heap.size 74 i0 _ 3 56 Try.underlying61 hi0 hz0 hz1 hz2 rfl (by decide) ro i rc (flat3 (M.take i)) rfl HR1.out (some ad) (M.length - (i + 1)) (lc - (i + 1)) (flat3 (M.drop (i + 1))) rfl HT3.out (flat3_one _) ?_ ?_ hws ?_)
    · unfold maxLen; omega
    · omega
    intro qo qc w2 hr2 hf2 _
    have hb2 : Below w.heap.size w w2 := ((Fr.of_below (T := none0) HB1.out).rowed HR1.out (Nat.le_refl _) hf2).below (Nat.le_refl _) (fun _ h => h.elim)
    have hr2' : Row w.heap.size w2 74 3 qo (i + (M.length - (i + 1))) qc (flat3 (M.filter fun y => decide (¬ y.k = k))) := by rw [HSP.out, flat3_append]; exact hr2
    have d1 : w2.cell? ⟨rb, 1, none⟩ = some (.slice (some ⟨g, 0, none⟩) M.length lc) := (hb2.cell (p := ⟨rb, 1, none⟩) hrl).trans c1
    have f1 := (H.out.blk.below hb2 hrl).frozen 1
    obtain ⟨p1, p2⟩ := H.out.cut hB hb2 HN.out hr2'
    have HP : Hid (AftR B rb last ((M.map Ln.ab).filter fun x => decide (¬ x.k = k)) own w (w2.setCell ⟨rb, 1, none⟩ (.slice qo (i + (M.length - (i + 1))) qc))) := ⟨_, ⟨_, _, _, cut_ab M k, p1⟩, p2, mark_old _ _ _⟩
    clear hr2 hr2' hf2 hb2 p1 p2 hws
    go_wp2_with fail
    go_ret
    exact ⟨rfl, HP.out⟩

/-- BOTH NETS. -/
structure Env2 (B : Nat) (w : World) (pb mb rb : Nat) (last : Int) (A : List Ab) (last2 : Int) (A2 : List Ab) (own : Own) : Prop where
  env : Env B w pb mb last A own
  ref : RefA B w rb last2 A2 own
def F2 (own : Own) : Nat → Prop := fun k => (own k).2 ≤ 4
def Stp2 (B pb mb rb : Nat) (last : Int) (A : List Ab) (last2 : Int) (A2 : List Ab) (own : Own) (w w' : World) : Prop := ∃ own', Env2 B w' pb mb rb last A last2 A2 own' ∧ Fr (F2 own) w w' ∧ Below B w w' ∧ ∀ i, i < w.heap.size → own' i = own i
section
variable {B : Nat} {w w' : World} {pb mb rb : Nat} {last last2 : Int} {A A2 : List Ab} {own : Own}
theorem Env2.below (h : Env2 B w pb mb rb last A last2 A2 own) (hb : Below w.heap.size w w') : Env2 B w' pb mb rb last A last2 A2 own := ⟨h.env.below hb, h.ref.below hb⟩
theorem FP.f2 {k : Nat} (h : FP own k) : F2 own k := by unfold FP at h; unfold F2; omega
theorem FR.f2 {k : Nat} (h : FR own k) : F2 own k := h.2
theorem Env2.net {last' : Int} {A' : List Ab} (h : Env2 B w pb mb rb last A last2 A2 own) (hs : Stp B pb mb last' A' own w w') : Stp2 B pb mb rb last' A' last2 A2 own w w' := by
  obtain ⟨own', he, hf, hb, ho⟩ := hs
  refine ⟨own', ⟨he, (h.ref.relabel ho).fr hf (fun k hk h1 h2 => ?_)⟩, hf.mono (fun _ _ h => FP.f2 h), hb, ho⟩
  unfold FP at h1
  unfold FR at h2
  rw [ho k hk] at h2
  omega
theorem Env2.doc {last' : Int} {A' : List Ab} {own' : Own} (h : Env2 B w pb mb rb last A last2 A2 own) (hn : RefA B w' rb last' A' own') (hf : Fr (FR own) w w') (ho : ∀ i, i < w.heap.size → own' i = own i) :
    ∃ own2, Env2 B w' pb mb rb last A last' A' own2 ∧ Fr (F2 own) w w' ∧ Below B w w' ∧ (∀ i, i < w.heap.size → own2 i = own i) ∧ ∀ i, i < w'.heap.size → own2 i = own' i := by
  have hB := h.env.hB
  have hsz := hf.size
  have hb : Below B w w' := ⟨hf.os, hf.tape, hf.output, hf.size, fun k hk => hf.block k (Nat.lt_of_lt_of_le hk hB) (fun hq => by unfold FR at hq; rw [h.env.old k hk] at hq; simp at hq)⟩
  have hag : ∀ i, i < w.heap.size → mark own' w'.heap.size (0, 9) i = own i := fun i hi => by rw [mark_old _ _ _ i (by omega)]; exact ho i hi
  refine ⟨mark own' w'.heap.size (0, 9), ⟨⟨?_, fun i hi => ?_, fun i hi => mark_new _ _ _ hi, Nat.le_trans hB hsz⟩, hn.relabel (mark_old _ _ _)⟩, hf.mono (fun _ _ h => FR.f2 h), hb, hag, mark_old _ _ _⟩
  · refine (h.env.net.relabel hag).fr hf (fun k hk hq => ?_)
    rw [hag k hk]
    have := hq.1
    omega
  · rw [hag i (by omega)]
    exact h.env.old i hi
theorem Env2.docAft {last' : Int} {A' : List Ab} (h : Env2 B w pb mb rb last A last2 A2 own) (ha : AftR B rb last' A' own w w') : Stp2 B pb mb rb last A last' A' own w w' := by
  obtain ⟨own', hn, hf, ho⟩ := ha
  obtain ⟨own2, h1, h2, h3, h4, _⟩ := h.doc hn hf ho
  exact ⟨own2, h1, h2, h3, h4⟩
end
def MoveE2 (B pb mb rb : Nat) (last : Int) (A : List Ab) (last2 : Int) (A2 : List Ab) (xs : List Value) (er : Int) (own : Own) (w : World) (e : Ending) (w' : World) : Prop :=
  ∃ ro rc own', e = .returned (.tuple #[.slice ro xs.length rc, .int .i64 er]) ∧ Row w.heap.size w' 5 1 ro xs.length rc xs ∧ AllB xs ∧ (∀ k, rowOf ro k → 4 < (own' k).2) ∧ Env2 B w' pb mb rb last A last2 A2 own' ∧ Fr (F2 own) w w' ∧ Below B w w' ∧ ∀ i, i < w.heap.size → own' i = own i
theorem env2_move (B : Nat) (w : World) (pb mb rb : Nat) (last : Int) (A : List Ab) (last2 : Int) (A2 : List Ab) (own : Own) (k way most : Int) (h : Env2 B w pb mb rb last A last2 A2 own) (h1 : -9223372036854775808 ≤ k) (h2 : k ≤ 9223372036854775807) :
    Calls Try.prog 14 #[.pointer (some ⟨pb, 0, none⟩), .int .i64 k, .int .i64 way, .int .i64 most] w (MoveE2 B pb mb rb last (moveR A k way most).2.2 last2 A2 (moveR A k way most).1 (moveR A k way most).2.1 own w) := by
  refine (env_move B w pb mb last A own k way most h.env h1 h2).mono ?_
  rintro e w' ⟨ro, rc, own', he, hr, hy, ho, hn, hf, hb, hq⟩
  refine ⟨ro, rc, own', he, hr, hy, fun k hk => by rw [ho k hk]; simp, ⟨hn, (h.ref.relabel hq).fr hf (fun k hk h1 h2 => ?_)⟩, hf.mono (fun _ _ h => FP.f2 h), hb, hq⟩
  unfold FP at h1
  unfold FR at h2
  rw [hq k hk] at h2
  omega
theorem env2_rmove (B : Nat) (w : World) (pb mb rb : Nat) (last : Int) (A : List Ab) (last2 : Int) (A2 : List Ab) (own : Own) (k way most : Int) (h : Env2 B w pb mb rb last A last2 A2 own) :
    Calls Try.prog 31 #[.pointer (some ⟨rb, 0, none⟩), .int .i64 k, .int .i64 way, .int .i64 most] w (MoveE2 B pb mb rb last A last2 (moveR A2 k way most).2.2 (moveR A2 k way most).1 (moveR A2 k way most).2.1 own w) := by
  refine (rmove_any B w rb last2 A2 own k way most h.ref h.env.hB).mono ?_
  rintro e w' ⟨ro, rc, own', he, hr, hy, ho, hn, hf, hq⟩
  obtain ⟨own2, e1, e2, e3, e4, e5⟩ := h.doc hn hf hq
  exact ⟨ro, rc, own2, he, hr, hy, fun k hk => by rw [e5 k (row_lt hr k hk), ho k hk]; simp, e1, e2, e3, e4⟩
end Go.Proofs.Ytmgdbilmfialkaa
