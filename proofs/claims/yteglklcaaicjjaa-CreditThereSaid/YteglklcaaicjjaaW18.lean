/- A range over the set; contract of All, by a walk. -/
import Derived.Test.YteglklcaaicjjaaW17
import Derived.Test.YteglklcaaicjjaaW3
namespace Go.Proofs.Yteglklcaaicjjaa
open Go.RowKit Go.Maps Go.WideShapes

/-- A range over the set at b, its place in block r: lf tells what is still to come, cnt of them. -/
def RangeS (w : World) (b r : Nat) (S : List Nat) (lf : Nat → Bool) (cnt : Nat) : Prop :=
  ∃ (D : DataW Unit) (left : Lit → Bool), w.ranges Try.prog 29 (plainElem Try.prog 4) b r S.length D left cnt ∧ IsSet D S ∧ ∀ k : Nat, left (kl k) = lf k
section
variable {w w' : World} {b r : Nat} {S : List Nat} {lf : Nat → Bool} {cnt : Nat}
theorem RangeS.left_eq (h : RangeS w b r S lf cnt) : w.rangeLeft b r = cnt := by obtain ⟨D, left, h, _⟩ := h; exact h.left_eq
theorem RangeS.lt (h : RangeS w b r S lf cnt) : r < w.heap.size := by obtain ⟨D, left, h, _⟩ := h; exact h.lt
theorem RangeS.set (h : RangeS w b r S lf cnt) : SetAt w b S := by obtain ⟨D, left, h, hd, _⟩ := h; exact ⟨D, h.owns, hd⟩
theorem RangeS.fr {T : Nat → Prop} (h : RangeS w b r S lf cnt) (hf : Fr T w w') (hb : ¬ T b) (hr : ¬ T r) : RangeS w' b r S lf cnt := by
  have h1 := h.set.lt
  have h2 := h.lt
  obtain ⟨D, left, ⟨es, clock, since, seen, c0, hb', F, hs, hD, hr', rest⟩, hd, hl⟩ := h
  exact ⟨D, left, ⟨es, clock, since, seen, c0, (hf.block b h1 hb).trans hb', F, hs, hD, (hf.block r h2 hr).trans hr', rest⟩, hd, hl⟩
theorem RangeS.iter (h : RangeS w b r S lf cnt) : ∃ since seen c0, w.heap[r]? = some (.mapIter (some b) since seen c0) := by
  obtain ⟨D, left, ⟨es, clock, since, seen, c0, hb', F, hs, hD, hr', rest⟩, hd, hl⟩ := h
  exact ⟨_, _, _, hr'⟩
theorem row_ne_iterS {B : Nat} {ao : Option Addr} {n c : Nat} {e : TypeId} {K : Nat} {xs : List Value} (h : Row B w e K ao n c xs) (hx : RangeS w b r S lf cnt) : ∀ k, rowOf ao k → ¬ k = r := by
  rintro k hk rfl
  obtain ⟨_, o, ho, ht⟩ := h.tag k hx.lt hk
  obtain ⟨_, _, _, he⟩ := hx.iter
  rw [he] at ho
  injection ho with ho
  subst ho
  cases ht
theorem row_ne_set {B : Nat} {ao : Option Addr} {n c : Nat} {e : TypeId} {K : Nat} {xs : List Value} (h : Row B w e K ao n c xs) (hx : SetAt w b S) : ∀ k, rowOf ao k → ¬ k = b := by
  rintro k hk rfl
  obtain ⟨_, o, ho, ht⟩ := h.tag k hx.lt hk
  obtain ⟨es, ck, he, _⟩ := hx.isMap
  rw [he] at ho
  injection ho with ho
  subst ho
  cases ht
theorem row_ne_blk {B : Nat} {ao : Option Addr} {n c x : Nat} {e t : TypeId} {K : Nat} {cs : Array Value} {xs : List Value} (h : Row B w e K ao n c xs) (hx : Blk w x t cs) (h1 : t ≠ e) : ∀ k, rowOf ao k → ¬ k = x := by
  rintro k hk rfl
  obtain ⟨_, o, ho, ht⟩ := h.tag k hx.lt hk
  unfold Blk at hx
  rw [hx] at ho
  injection ho with ho
  subst ho
  injection ht with ht
  exact h1 ht
end
section
variable (w : World) {ops : Array Oper} {rest : List Oper} {o : Oper} {a : Act} {Q : Exit → Act → World → Prop}
theorem wpList_range_set (hg : o.guard = none) (m : Operand) (hop : o.op = Op.range 47 m) (b : Nat) (S : List Nat) (hm : a.eval m = .map (some b)) (hs : SetAt w b S)
    (hK : ∀ w', RangeS w' b w.heap.size S (fun k => decide (k ∈ S)) S.length → Fr none0 w w' → w'.heap.size = w.heap.size + 1 → wpList Try.prog ops Q rest (a.put o.dst (.pointer (some ⟨w.heap.size, 0, none⟩))) w') :
    wpList Try.prog ops Q (o :: rest) a w := by
  obtain ⟨D, hown, hd⟩ := hs
  refine wpList_range_own w hg m 47 hop 29 4 law29 Try.underlying47 (plainElem Try.prog 4) b S.length D hm hown ?_
  intro w' h1 h2 h3
  rw [hd.size] at h1
  refine hK w' ⟨D, _, h1, hd, fun k => hd.has k⟩ ?_ h3
  exact (Fr.refl _ _).grown h2 (fun _ _ e => by cases e)
theorem wpList_next_set (hg : o.guard = none) (it : Operand) (hop : o.op = Op.next it false) (b r : Nat) (S : List Nat) (lf : Nat → Bool) (cnt : Nat)
    (hit : a.eval it = .pointer (some ⟨r, 0, none⟩)) (h : RangeS w b r S lf cnt)
    (hDone : (∀ k : Nat, lf k = false) → wpList Try.prog ops Q rest (a.put o.dst (.tuple #[.bool false])) w)
    (hMore : ∀ (k : Nat) (c : Value) (w' : World) (cnt' : Nat), lf k = true → k ∈ S → RangeS w' b r S (fun z => lf z && !decide (z = k)) cnt' → cnt' < cnt →
      Fr (fun j => j = r) w w' → w'.heap.size = w.heap.size → (Instr.entry (.pointer (some ⟨r, 0, none⟩))).run Try.prog w' = .ok (.tuple #[.int .u64 (k : Int), c]) w' → wpList Try.prog ops Q rest (a.put o.dst (.tuple #[.bool true, .int .u64 (k : Int), c])) w') :
    wpList Try.prog ops Q (o :: rest) a w := by
  obtain ⟨D, left, hr, hd, hl⟩ := h
  refine wpList_next_ranges w hg it hop 29 law29 (plainElem Try.prog 4) (Value.int .u64) Value.bool (fun key kl hkey => by obtain ⟨x, rfl, _⟩ := Maps.keyOf_int_inv Try.underlying29 hkey; exact ⟨x, rfl⟩) (fun v y hv => by obtain ⟨c, rfl, _⟩ := plainElem_bool_inv Try.underlying4 hv; exact ⟨c, rfl⟩) b r S.length D left cnt hit hr
    (fun _ h0 => hDone fun k => (hl k).symm.trans (h0 _)) ?_
  intro x c kl' y w' cnt' hkey hlk hv hat hrg hlt hgr hsz hen
  obtain ⟨x', ex, rfl, hwx⟩ := Maps.keyOf_int_inv Try.underlying29 hkey
  cases ex
  obtain ⟨l1, u1⟩ := bounds_u64 hwx
  obtain ⟨k, rfl⟩ := Int.eq_ofNat_of_zero_le l1
  have hks : k ∈ S := by
    have h1 : Maps.has D (kl k) = true := has_true_of_atKey hat
    rw [hd.has] at h1
    simpa using h1
  refine hMore k (.bool c) w' cnt' (by rw [← hl]; exact hlk) hks ⟨D, _, hrg, hd, fun j => ?_⟩ hlt ?_ hsz hen
  · show (left (kl j) && !(kl j).sameKey (kl k)) = _
    rw [hl]
    congr 1
    unfold kl Lit.sameKey
    by_cases e : j = k
    · simp [e]
    · have e' : (j : Int) ≠ (k : Int) := by omega
      simp [e, e']
  · exact (Fr.refl _ _).grown hgr (fun j _ e => by injection e with e; exact e.symm)
end
/-- What has been gathered. -/
def GotS (S : List Nat) (lf : Nat → Bool) (V : List Nat) : Prop := V.Nodup ∧ ∀ k, k ∈ V ↔ k ∈ S ∧ lf k = false
theorem GotS.start (S : List Nat) : GotS S (fun k => decide (k ∈ S)) [] := ⟨List.nodup_nil, fun k => by simp⟩
theorem GotS.take {S : List Nat} {lf : Nat → Bool} {V : List Nat} (h : GotS S lf V) {k : Nat} (hl : lf k = true) (hk : k ∈ S) : GotS S (fun z => lf z && !decide (z = k)) (V ++ [k]) := by
  refine ⟨List.nodup_append.2 ⟨h.1, by simp, fun a ha b hb => ?_⟩, fun y => ?_⟩
  · rw [List.mem_singleton.1 hb]
    rintro rfl
    rw [((h.2 a).1 ha).2] at hl
    cases hl
  · rw [List.mem_append, List.mem_singleton, h.2]
    by_cases e : y = k
    · subst e
      simp [hk]
    · simp [e]
theorem GotS.done {S : List Nat} {lf : Nat → Bool} {V : List Nat} (h : GotS S lf V) (h0 : ∀ k, lf k = false) (hS : S.Nodup) : V.Perm S := by
  rw [List.perm_ext_iff_of_nodup h.1 hS]
  intro k
  rw [h.2]
  simp [h0 k]
/-- The values of numbers. -/
def un (V : List Nat) : List Value := ul (V.map fun k : Nat => (k : Int))
theorem un_len (V : List Nat) : (un V).length = V.length := by simp [un, ul]
theorem inf29 : (Try.prog.info? 29).map (fun i => (i.zero, i.size, i.bytes)) = some (some (.int .u64 0), 1, 8) := by kernel_rfl

set_option maxRecDepth 100000 in
set_option maxHeartbeats 4000000 in
theorem all_any (w : World) (pb mb : Nat) (most : Int) (next : Nat) (S : List Nat) (h : Win w pb mb most next S) :
    Calls Try.prog 17 #[.pointer (some ⟨pb, 0, none⟩)] w fun e w' => ∃ ro rc, e = .returned (.slice ro S.length rc) ∧ Row w.heap.size w' 29 1 ro S.length rc (un S) ∧ Below w.heap.size w w' := by
  have c2 := h.c2
  have HSET := Lib.hid h.map
  have hlen : S.length ≤ 64 := by have := h.len; have := h.m2; omega
  have hasc := h.asc
  have hSn : S.Nodup := hasc.imp fun {a b} h => by omega
  have HSORT : Hid (∀ V : List Nat, V.Perm S → (V.map fun k : Nat => (k : Int)).Perm (S.map fun k : Nat => (k : Int)) ∧ V.length = S.length ∧ (S.map fun k : Nat => (k : Int)).Pairwise (· < ·)) := fun V hV =>
    ⟨hV.map _, hV.length_eq, List.pairwise_map.2 (hasc.imp fun {a b} h => by omega)⟩
  have HNOD := Lib.hid hSn
  obtain ⟨i0, hi, hz0, hz1, hz2⟩ := info_parts inf29
  clear h hasc hSn
  go_enter Try.func17, Try.ntmps17
  go_wp2_with fail
  refine (off_any w pb mb c2).mono ?_
  rintro e w1 ⟨rfl, rfl⟩
  go_wp2_with (at_range; refine wpList_range_set _ rfl _ rfl mb _ rfl HSET.out ?_)
  intro w2 hr2 hf2 hs2
  have HRG := Lib.hid hr2
  have HF2 := Lib.hid hf2
  clear hr2 hf2 c2 hs2
  go_wp2_with fail
  generalize hrr : w.heap.size = r at *
  have HRR := Lib.hid hrr
  clear hrr
  go_loopw [3, 4] (fun s3 _ wr => ∃ (lf : Nat → Bool) (cnt : Nat) (V : List Nat) (lo : Option Addr) (lc : Nat), s3 = .slice lo V.length lc ∧ V.length + cnt ≤ S.length ∧ Hid (RangeS wr mb r S lf cnt) ∧ Hid (GotS S lf V) ∧ Hid (Row w.heap.size wr 29 1 lo V.length lc (un V)) ∧ Hid (Fr none0 w wr)) (fun _ _ wr => wr.rangeLeft mb r)
  case atStart => exact ⟨_, _, [], none, 0, rfl, by simp, HRG.out, GotS.start _, Row.nil _ _ _ _, HF2.out⟩
  case round =>
    obtain ⟨lf, cnt, V, lo, lc, rfl, hvc, hrg, hgot, hrow, hf⟩ := hrel
    go_wp2_with (at_next; refine wpList_next_set _ rfl _ rfl mb r S lf cnt rfl hrg.out ?_ ?_)
    · intro hdone
      obtain ⟨hp, hvl, hasc⟩ := HSORT.out V (hgot.out.done hdone HNOD.out)
      have HP := Lib.hid hp
      have HASC := Lib.hid hasc
      have HVL := Lib.hid hvl
      have hv64 : V.length ≤ 200 := by omega
      clear hp hvl hdone hasc
      go_wp2_with fail
      have hr : Row w.heap.size wr 29 1 lo (V.map fun k : Nat => (k : Int)).length lc (ul (V.map fun k : Nat => (k : Int))) := by rw [List.length_map]; exact hrow.out
      have hsrt := srt_any w.heap.size wr lo lc _ _ hr (by rw [List.length_map]; exact hv64) HP.out HASC.out
      rw [List.length_map] at hsrt
      refine hsrt.mono ?_
      rintro e w5 ⟨rfl, hr5, hf5⟩
      have HR5 := Lib.hid hr5
      have HF5 : Hid (Fr none0 w w5) := hf.out.rowed hrow.out (Nat.le_refl _) hf5
      clear hr5 hf5 hr hsrt
      go_wp2_with fail
      go_ret
      refine ⟨lo, lc, ?_, ?_, HF5.out.below (Nat.le_refl _) (fun _ h => h.elim)⟩
      · rw [← HVL.out]; rfl
      · rw [← HVL.out]; exact HR5.out
    · intro k c w3 cnt3 hlk hks hrg3 hcnt hf3 hs3 hen
      have hf3n : Fr none0 w w3 := hf.out.trans (hf3.mono (T' := fun k => w.heap.size ≤ k) (fun k _ e => by have := HRR.out; omega)) (fun k hk h => absurd hk (Nat.not_lt_of_le h))
      have hrow3 : Row w.heap.size w3 29 1 lo V.length lc (un V) := hrow.out.fr hf3 (row_ne_iterS hrow.out hrg.out)
      have HG4 := Lib.hid (hgot.out.take hlk hks)
      have HCNT : Hid (cnt3 < wr.rangeLeft mb r) := by show _ < _; rw [hrg.out.left_eq]; exact hcnt
      have hvb : V.length + 1 + cnt3 ≤ S.length := by omega
      have hal : Below w3.heap.size w3 (w3.alloc (.cells #[.int .u64 (k : Int)] 29)) := (Below.refl _ _).alloc (Nat.le_refl _) _
      have HF5 : Hid (Fr none0 w (w3.alloc (.cells #[.int .u64 (k : Int)] 29))) := hf3n.alloc _
      have HR5 : Hid (Row w.heap.size (w3.alloc (.cells #[.int .u64 (k : Int)] 29)) 29 1 lo V.length lc (un V)) := hrow3.fr (Fr.of_below (T := none0) hal) (fun _ _ h => h)
      have HRG5 : Hid (RangeS (w3.alloc (.cells #[.int .u64 (k : Int)] 29)) mb r S (fun z => lf z && !decide (z = k)) cnt3) := hrg3.fr (Fr.of_below (T := none0) hal) (fun h => h) (fun h => h)
      have HS5 : Hid (Src (w3.alloc (.cells #[.int .u64 (k : Int)] 29)) 1 (some ⟨w3.heap.size, 0, none⟩) 1 [.int .u64 (k : Int)]) := by
        refine ⟨rfl, fun j u hj => ⟨w3.heap.size, 0, rfl, by simp, ?_⟩⟩
        rw [Nat.zero_add, (Blk.new w3 29 #[.int .u64 (k : Int)]).cell j]
        simpa using hj
      have hw5 : w.heap.size ≤ w3.heap.size + 1 := by have := hf3n.size; omega
      clear hf3n hrow3 hlk hks hrg3 hcnt hf3 hs3 hal
      go_wp2_with (at_builtin; refine wpList_append_src _ rfl (.tmp 16) (.tmp 18) 40 rfl w.heap.size 29 i0 _ 1 8 Try.underlying40 hi hz0 hz1 hz2 rfl (by decide) lo V.length lc (un V) rfl HR5.out (some ⟨w3.heap.size, 0, none⟩) 1 1 [.int .u64 (k : Int)] rfl HS5.out (by intro u hu; simp at hu; subst hu; rfl) ?_ ?_ ?_ ?_)
      · unfold maxLen; omega
      · omega
      · exact HF5.out.size
      intro lo' lc' w6 hr6 hf6 _
      have hfl : un V ++ [.int .u64 (k : Int)] = un (V ++ [k]) := by unfold un ul; simp
      rw [hfl] at hr6
      have hvl : (V ++ [k]).length = V.length + 1 := by simp
      have HR6 : Hid (Row w.heap.size w6 29 1 lo' (V ++ [k]).length lc' (un (V ++ [k]))) := by show Row _ _ _ _ _ _ _ _; rw [hvl]; exact hr6
      have HF6 : Hid (Fr none0 w w6) := HF5.out.rowed HR5.out (Nat.le_refl _) hf6
      have hnm : ¬ rowOf lo mb := fun h => row_ne_set HR5.out HRG5.out.set mb h rfl
      have hnr : ¬ rowOf lo r := fun h => row_ne_iterS HR5.out HRG5.out r h rfl
      have HRG6 := Lib.hid (HRG5.out.fr hf6 hnm hnr)
      have HVL := Lib.hid hvl
      clear hr6 hf6 hfl hvl hnm hnr hen
      go_wp2_with fail
      go_roundw
      case rel => exact ⟨_, cnt3, V ++ [k], lo', lc', by rw [HVL.out], by rw [HVL.out]; exact hvb, HRG6.out, HG4.out, HR6.out, HF6.out⟩
      case measure => have := HCNT.out; rw [HRG6.out.left_eq]; exact this
end Go.Proofs.Yteglklcaaicjjaa
