/- Contract of the document's Drop, by a walk. -/
import Derived.Test.YtbgjajhnjkldkaaW9
namespace Go.Proofs.Ytbgjajhnjkldkaa
open Go.RowKit Go.WideShapes Go.Maps

def gz : List Value := [Value.int .u8 0, Value.int .u8 0, Value.int .u8 0, Value.int .u8 0, Value.int .u8 0, Value.int .u8 0, Value.int .u8 0, Value.int .u8 0, Value.int .u8 0, Value.int .u8 0, Value.int .u8 0, Value.int .u8 0, Value.int .u8 0, Value.int .u8 0, Value.int .u8 0, Value.int .u8 0]
theorem inf44 : (Try.prog.info? 44).map (fun i => (i.zero, i.size, i.bytes)) = some (some (.agg (Value.int .i64 0 :: Value.string .empty :: gz ++ [Value.int .i64 0]).toArray), 19, 48) := by kernel_rfl
theorem flatI_take (S : List It) (i : Nat) (hi : i ≤ S.length) : (flatI S).take (i * 19) = flatI (S.take i) := by
  have h1 : flatI S = flatI (S.take i) ++ flatI (S.drop i) := by rw [← flatI_append, List.take_append_drop]
  have h2 : (flatI (S.take i)).length = i * 19 := by rw [flatI_length, List.length_take]; omega
  rw [h1, ← h2, List.take_left]
theorem flatI_drop (S : List It) (i : Nat) (hi : i ≤ S.length) : (flatI S).drop (i * 19) = flatI (S.drop i) := by
  have h1 : flatI S = flatI (S.take i) ++ flatI (S.drop i) := by rw [← flatI_append, List.take_append_drop]
  have h2 : (flatI (S.take i)).length = i * 19 := by rw [flatI_length, List.length_take]; omega
  rw [h1, ← h2, List.drop_left]

/-- The document's step. -/
def DStep (B rb : Nat) (T : List It) (w w' : World) : Prop := RfA B w' rb T ∧ Fr (fun j => j = rb) w w'
theorem RfAt.turn {B : Nat} {w w2 : World} {rb : Nat} {S T : List It} {lo : Option Addr} {lc : Nat} {qo : Option Addr} {qc n : Nat} (h : RfAt B w rb S lo lc) (hB : B ≤ w.heap.size) (hb : Below w.heap.size w w2)
    (hn : n = T.length) (hr : Row w.heap.size w2 44 19 qo n qc (flatI T)) (hT : T.Pairwise fun x y => x.k < y.k) : DStep B rb T w (w2.setCell ⟨rb, 0, none⟩ (.slice qo n qc)) := by
  subst hn
  have hset2 : Fr (fun j => j = rb) w2 (w2.setCell ⟨rb, 0, none⟩ (.slice qo T.length qc)) := (Fr.refl (fun j => j = rb) w2).setCell (p := ⟨rb, 0, none⟩) (fun _ => rfl) _
  have hall : Fr (fun j => j = rb) w (w2.setCell ⟨rb, 0, none⟩ (.slice qo T.length qc)) := (Fr.of_below (T := fun j => j = rb) hb).trans hset2 (fun _ _ e => e)
  have hrl := h.blk.lt
  have hnew : ∀ j, rowOf qo j → w.heap.size ≤ j := fun j hj => by
    obtain ⟨a, rfl, rfl⟩ := hj
    exact hr.block.1
  exact ⟨⟨qo, qc, h.low, (h.blk.below hb hrl).set_ 0 _, (hr.base hB).fr hset2 (fun j hj e => by have := hnew j hj; omega), hT⟩, hall⟩
theorem delS_split {S : List It} {i : Nat} {x : It} {k : Int} (hasc : S.Pairwise fun x y => x.k < y.k) (hi : S[i]? = some x) (hk : x.k = k) : delS S k = S.take i ++ S.drop (i + 1) := by
  unfold delS
  obtain ⟨hl, he⟩ := List.getElem?_eq_some_iff.1 hi
  have e : S = S.take i ++ x :: S.drop (i + 1) := by
    rw [← he, ← List.drop_eq_getElem_cons hl, List.take_append_drop]
  have hp : (S.take i ++ x :: S.drop (i + 1)).Pairwise fun x y => x.k < y.k := by rw [← e]; exact hasc
  obtain ⟨_, h2, h3⟩ := List.pairwise_append.1 hp
  have h4 := (List.pairwise_cons.1 h2).1
  have f1 : (S.take i).filter (fun y => decide (¬ y.k = k)) = S.take i := List.filter_eq_self.2 fun y hy => by
    have := h3 y hy x (List.mem_cons_self)
    simp only [decide_eq_true_eq]; omega
  have f2 : (S.drop (i + 1)).filter (fun y => decide (¬ y.k = k)) = S.drop (i + 1) := List.filter_eq_self.2 fun y hy => by
    have := h4 y hy
    simp only [decide_eq_true_eq]; omega
  have f3 : S.filter (fun y => decide (¬ y.k = k)) = (S.take i ++ x :: S.drop (i + 1)).filter (fun y => decide (¬ y.k = k)) := by rw [← e]
  rw [f3, List.filter_append, f1, List.filter_cons_of_neg (by simpa using hk), f2]
theorem RfA.here {B : Nat} {w : World} {rb : Nat} {S : List It} (h : RfA B w rb S) : DStep B rb S w w := ⟨h, Fr.refl _ _⟩

set_option maxRecDepth 100000 in
set_option maxHeartbeats 2000000 in
theorem rdrop_any (B : Nat) (w : World) (rb : Nat) (S : List It) (k : Int) (h : RfA B w rb S) (hB : B ≤ w.heap.size) (hlen : S.length < 100000) :
    Calls Try.prog 23 #[.pointer (some ⟨rb, 0, none⟩), .int .i64 k] w fun e w' => e = .returned (.bool (findS S k).isSome) ∧ DStep B rb (delS S k) w w' := by
  have HA := Lib.hid h
  obtain ⟨lo, lc, h⟩ := h
  have H := Lib.hid h
  cases hf : findS S k with
  | none =>
    have HP := Lib.hid (place_none hf)
    have HD : Hid (delS S k = S) := delS_none hf
    clear h hf
    go_enter Try.func23, Try.ntmps23
    go_wp2_with fail
    refine (place_any B w rb S lo lc k H.out (by omega)).mono ?_
    rw [HP.out]
    rintro e w1 ⟨rfl, rfl⟩
    go_wp2_with fail
    go_ret
    exact ⟨rfl, by rw [HD.out]; exact HA.out.here⟩
  | some x =>
    obtain ⟨i, hi, hxk, hidx⟩ := find_idx hf
    have hpl := place_some hidx
    have hil : i < S.length := (List.getElem?_eq_some_iff.1 hi).1
    obtain ⟨g, rfl⟩ := h.row.form (by omega)
    have c1 := h.c0
    have hlc := h.row.le
    have i3 : ¬ (i : Int) < 0 := by omega
    have hrl := h.blk.lt
    have hcm : lc ≤ 9223372036854775807 := by have := h.row.capmax; unfold maxLen at this; omega
    have HSP := Lib.hid (delS_split h.asc hi hxk)
    have HASC : Hid ((delS S k).Pairwise fun x y => x.k < y.k) := h.asc.sublist List.filter_sublist
    have HT1 : Hid (Src w 19 (some ⟨g, 0, none⟩) i (flatI (S.take i))) := by
      have := h.row.src.take (k := i) (by omega)
      rw [flatI_take S i (by omega)] at this
      exact this
    obtain ⟨ad, had, had2⟩ : ∃ ad : Addr, (if lc = i + 1 then some (⟨g, 0, none⟩ : Addr) else some ⟨g, (i + 1) * 19, none⟩) = some ad ∧ (i + 1 < S.length → ad = ⟨g, (i + 1) * 19, none⟩) := by
      by_cases e : lc = i + 1
      · exact ⟨⟨g, 0, none⟩, by rw [if_pos e], fun h => by omega⟩
      · exact ⟨⟨g, (i + 1) * 19, none⟩, by rw [if_neg e], fun _ => rfl⟩
    have HT2 : Hid (Src w 19 (some ad) (S.length - (i + 1)) (flatI (S.drop (i + 1)))) := by
      have := h.row.src.cut (k := i + 1) (bo := some ad) (fun hlt b o e => by rw [had2 hlt]; injection e with e; injection e with e1 e2; subst e1; rw [← e2]; simp)
      rw [flatI_drop S (i + 1) (by omega)] at this
      exact this
    have HN : Hid (i + (S.length - (i + 1)) = (delS S k).length) := by
      show _ = _
      rw [HSP.out, List.length_append, List.length_take, List.length_drop]; omega
    have HPL := Lib.hid hpl
    obtain ⟨i0, hi0, hz0, hz1, hz2⟩ := info_parts inf44
    have i1 : i ≤ lc := by omega
    have i2 : (i : Int) ≤ (lc : Int) := by omega
    have i4 : IntKind.i64.wrap ((i : Int) + 1) = (i : Int) + 1 := IntWalk.i64_in _ (by omega)
    have i5 : (0 : Int) ≤ (i : Int) + 1 := by omega
    have i6 : ((i : Int) + 1).toNat = i + 1 := by omega
    have i7 : (i : Int) + 1 ≤ (S.length : Int) := by omega
    clear h hf hi hxk hidx hpl had2
    go_enter Try.func23, Try.ntmps23
    go_wp2_with fail
    refine (place_any B w rb S _ lc k H.out (by omega)).mono ?_
    rw [HPL.out]
    rintro e w1 ⟨rfl, rfl⟩
    go_wp2_with (at_builtin; refine wpList_append_src _ rfl (.tmp 12) (.tmp 18) 35 rfl w.heap.size 44 i0 _ 19 48 Try.underlying35 hi0 hz0 hz1 hz2 rfl (by decide) none 0 0 [] rfl (Row.nil _ _ _ _) (some ⟨g, 0, none⟩) i lc (flatI (S.take i)) rfl HT1.out (flatI_one _) ?_ ?_ ?_ ?_)
    · unfold maxLen; omega
    · omega
    · omega
    intro ro rc w1 hr1 hf1 _
    have hr1' : Row w.heap.size w1 44 19 ro i rc (flatI (S.take i)) := by simpa using hr1
    have hb1 : Below w.heap.size w w1 := hf1.below (Nat.le_refl _) (fun k ⟨a, ha, _⟩ => by cases ha)
    have HR1 := Lib.hid hr1'
    have HB1 := Lib.hid hb1
    have c1' : w1.cell? ⟨rb, 0, none⟩ = some (.slice (some ⟨g, 0, none⟩) S.length lc) := (hb1.cell (p := ⟨rb, 0, none⟩) hrl).trans c1
    have HT3 : Hid (Src w1 19 (some ad) (S.length - (i + 1)) (flatI (S.drop (i + 1)))) := HT2.out.below hb1 (fun _ _ h => h)
    have hws : w.heap.size ≤ w1.heap.size := hb1.size
    clear hr1 hr1' hf1 hb1
    go_wp2_with (at_builtin; refine wpList_append_src _ rfl (.tmp 21) (.tmp 28) 35 rfl w.heap.size 44 i0 _ 19 48 Try.underlying35 hi0 hz0 hz1 hz2 rfl (by decide) ro i rc (flatI (S.take i)) rfl HR1.out (some ad) (S.length - (i + 1)) (lc - (i + 1)) (flatI (S.drop (i + 1))) rfl HT3.out (flatI_one _) ?_ ?_ hws ?_)
    · unfold maxLen; omega
    · omega
    intro qo qc w2 hr2 hf2 _
    have hb2 : Below w.heap.size w w2 := ((Fr.of_below (T := none0) HB1.out).rowed HR1.out (Nat.le_refl _) hf2).below (Nat.le_refl _) (fun _ h => h.elim)
    have hr2' : Row w.heap.size w2 44 19 qo (i + (S.length - (i + 1))) qc (flatI (delS S k)) := by rw [HSP.out, flatI_append]; exact hr2
    have d1 : w2.cell? ⟨rb, 0, none⟩ = some (.slice (some ⟨g, 0, none⟩) S.length lc) := (hb2.cell (p := ⟨rb, 0, none⟩) hrl).trans c1
    have f1 := (H.out.blk.below hb2 hrl).frozen 0
    have HP := Lib.hid (H.out.turn hB hb2 HN.out hr2' HASC.out)
    clear hr2 hr2' hf2 hb2 hws
    go_wp2_with fail
    go_ret
    exact ⟨rfl, HP.out⟩
end Go.Proofs.Ytbgjajhnjkldkaa
