/- Contracts of slices.Sort at a row of numbers, and of Links, by a walk. -/
import Derived.Test.YtmgdbilmfialkaaW8
import Derived.Test.YtmgdbilmfialkaaSrt
import Derived.Sort.OwnSortedInts
namespace Go.Proofs.Ytmgdbilmfialkaa
open Go.RowKit Go.WideShapes Go.Maps

/-- The values of numbers. -/
def ints (zs : List Int) : List Value := zs.map (Value.int .i64)
theorem ints_len (zs : List Int) : (ints zs).length = zs.length := List.length_map _
theorem ints_one (zs : List Int) : ∀ u ∈ ints zs, u.oneCell' = true := fun u hu => by
  obtain ⟨z, _, rfl⟩ := List.mem_map.1 hu
  rfl
/-- Rising. -/
def srtL (zs : List Int) : List Int := zs.mergeSort fun x y => decide (x ≤ y)
theorem srtL_len (zs : List Int) : (srtL zs).length = zs.length := List.length_mergeSort _
theorem srtL_of {zs ts : List Int} (hp : zs.Perm ts) (ht : ts.Pairwise (· < ·)) : srtL zs = ts := by
  have tr : ∀ a b c : Int, decide (a ≤ b) = true → decide (b ≤ c) = true → decide (a ≤ c) = true := fun a b c h1 h2 => by
    simp only [decide_eq_true_eq] at h1 h2 ⊢
    omega
  have to : ∀ a b : Int, (decide (a ≤ b) || decide (b ≤ a)) = true := fun a b => by
    simp only [Bool.or_eq_true, decide_eq_true_eq]
    omega
  exact List.Perm.eq_of_pairwise (le := fun a b => decide (a ≤ b) = true) (fun a b _ _ h1 h2 => by simp only [decide_eq_true_eq] at h1 h2; omega) (List.pairwise_mergeSort tr to zs) (ht.imp fun {a b} h => by simp only [decide_eq_true_eq]; omega) ((List.mergeSort_perm zs _).trans hp)
theorem sort_any (w : World) (B : Nat) (ao : Option Addr) (cap : Nat) (zs : List Int) (hr : Row B w 3 1 ao zs.length cap (ints zs)) (hn : zs.length < 1000000) :
    Calls Try.prog 28 #[.slice ao zs.length cap] w fun e w' => e = .returned (.tuple #[]) ∧ Row B w' 3 1 ao zs.length cap (ints (srtL zs)) ∧ Fr (rowOf ao) w w' := by
  rcases hr.forms with rfl | ⟨g, rfl⟩
  · obtain ⟨h0, hc, _⟩ := hr.of_none
    have hz : zs = [] := List.eq_nil_of_length_eq_zero h0
    subst hz
    have h : Calls Try.prog 28 #[.slice none 0 cap] w fun e w' => e = .returned (.tuple #[]) ∧ w' = w := AnyM.slices_Sort_int_none srt none cap w
    refine h.mono ?_
    rintro e w' ⟨rfl, rfl⟩
    have h1 : srtL [] = [] := by simp [srtL]
    rw [h1]
    exact ⟨rfl, hr, Fr.refl _ _⟩
  · obtain ⟨hB, cur, hblk, hcs, htk⟩ := hr.block
    have hH := holds_of_blockI (ss := zs) hblk (by rw [Nat.mul_one] at htk; exact htk)
    have h : Calls Try.prog 28 #[.slice (some ⟨g, 0, none⟩) zs.length cap] w fun e w' => e = .returned (.tuple #[]) ∧ ∃ n os, w' = Go.Sort.grow (Go.Sort.putRow (Value.int .i64) (Go.Sort.ahead w n) g 0 (srtL zs).toArray) os :=
      AnyM.slices_Sort_int srt g 0 cap zs w hH hblk.lt (by omega)
    refine h.mono ?_
    rintro e w' ⟨rfl, n, os, rfl⟩
    refine ⟨rfl, ownsRow_sortedI (srtL_len zs) hB hblk hr.le hr.capmax hcs, ?_⟩
    exact (Fr.refl _ _).grown (grownBy_sortedI _) (fun k _ e => by injection e with e; exact ⟨_, rfl, e.symm⟩)

theorem inf3 : (Try.prog.info? 3).map (fun i => (i.zero, i.size, i.bytes)) = some (some (.int .i64 0), 1, 8) := by kernel_rfl
def linksR (A : List Ab) : List Int := A.map (·.k)

theorem row_ne_iter {B : Nat} {w : World} {ao : Option Addr} {n c b r : Nat} {e : TypeId} {K : Nat} {xs : List Value} {P : Program} {kt : TypeId} {q : IntKind} {M : List (Int × Value)} {lf : Int → Bool} {cnt : Nat} (h : Row B w e K ao n c xs) (hx : RangeAt P kt q w b r M lf cnt) : ∀ k, rowOf ao k → ¬ k = r := by
  rintro k hk rfl
  obtain ⟨_, o, ho, ht⟩ := h.tag k hx.lt hk
  obtain ⟨_, _, _, he⟩ := hx.iter
  rw [he] at ho
  injection ho with ho
  subst ho
  cases ht

set_option maxHeartbeats 2000000 in
theorem links_any (B : Nat) (w : World) (pb mb : Nat) (last : Int) (A : List Ab) (own : Own) (h : NetA B w pb mb last A own) :
    Calls Try.prog 22 #[.pointer (some ⟨pb, 0, none⟩)] w fun e w' => ∃ ro rc, e = .returned (.slice ro A.length rc) ∧ Row w.heap.size w' 3 1 ro A.length rc (ints (linksR A)) ∧ Below w.heap.size w w' := by
  obtain ⟨L, rfl, h⟩ := h
  have c1 := h.c1
  have HM := Lib.hid h.map
  have hlen := h.len
  have HSORT : Hid (∀ V : List Int, V.Perm (((L.map Ln.kv).filter fun x => (fun _ : Value => true) x.2).map (·.1)) → srtL V = linksR (L.map Ln.ab) ∧ V.length = L.length) := fun V hV => by
    have e1 : (((L.map Ln.kv).filter fun x => (fun _ : Value => true) x.2).map (·.1)) = L.map (·.k) := by
      rw [List.filter_eq_self.2 (fun _ _ => rfl), List.map_map]
      rfl
    rw [e1] at hV
    refine ⟨?_, by rw [hV.length_eq, List.length_map]⟩
    have e2 : linksR (L.map Ln.ab) = L.map (·.k) := by unfold linksR; rw [List.map_map]; rfl
    rw [e2]
    exact srtL_of hV (List.pairwise_map.2 h.asc)
  have hll : (L.map Ln.kv).length = L.length := List.length_map _
  have HLL := Lib.hid hll
  have hmlt := h.map.lt
  obtain ⟨i0, hi, hz0, hz1, hz2⟩ := info_parts inf3
  clear h hll
  go_enter Try.func22, Try.ntmps22
  go_wp2_with fail
  refine (off_any w pb mb c1).mono ?_
  rintro e w1 ⟨rfl, rfl⟩
  go_wp2_with (at_range; refine wpList_range_dict _ rfl _ 44 rfl 3 55 .i64 Try.underlying3 Try.underlying44 mb _ rfl HM.out ?_)
  intro w2 hr2 hf2 hs2
  have HRG := Lib.hid hr2
  have HF2 := Lib.hid hf2
  clear hr2 hf2 c1
  go_wp2_with fail
  generalize hrr : w.heap.size = r at *
  have HRR := Lib.hid hrr
  clear hrr
  go_loopw [3, 4] (fun s3 _ wr => ∃ (lf : Int → Bool) (cnt : Nat) (V : List Int) (lo : Option Addr) (lc : Nat), s3 = .slice lo V.length lc ∧ V.length + cnt ≤ L.length ∧ Hid (RangeAt Try.prog 3 .i64 wr mb r (L.map Ln.kv) lf cnt) ∧ Hid (Got (L.map Ln.kv) (fun _ => true) lf V) ∧ Hid (Row w.heap.size wr 3 1 lo V.length lc (ints V)) ∧ Hid (Fr none0 w wr)) (fun _ _ wr => wr.rangeLeft mb r)
  case atStart => exact ⟨_, _, [], none, 0, rfl, by simp, HRG.out, Got.start _ _, Row.nil _ _ _ _, HF2.out⟩
  case round =>
    obtain ⟨lf, cnt, V, lo, lc, rfl, hvc, hrg, hgot, hrow, hf⟩ := hrel
    go_wp2_with (at_next; refine wpList_next_dict _ rfl _ rfl 3 .i64 Try.underlying3 mb r _ lf cnt rfl hrg.out ?_ ?_)
    · intro hdone
      obtain ⟨hs, hvl⟩ := HSORT.out V (hgot.out.done hdone hrg.out.dict.once)
      have HS := Lib.hid hs
      have HVL := Lib.hid hvl
      have hv64 : V.length < 1000000 := by omega
      clear hs hvl hdone
      go_wp2_with fail
      refine (sort_any wr w.heap.size lo lc V hrow.out hv64).mono ?_
      rintro e w5 ⟨rfl, hr5, hf5⟩
      rw [HS.out] at hr5
      have HR5 := Lib.hid hr5
      have HF5 : Hid (Fr none0 w w5) := hf.out.rowed hrow.out (Nat.le_refl _) hf5
      clear hr5 hf5
      go_wp2_with fail
      go_ret
      refine ⟨lo, lc, ?_, ?_, HF5.out.below (Nat.le_refl _) (fun _ h => h.elim)⟩
      · rw [List.length_map, ← HVL.out]; rfl
      · rw [List.length_map, ← HVL.out]; exact HR5.out
    · intro x v w3 cnt3 hwx hlx hgx hrg3 hcnt hf3 hs3 hen
      have hf3n : Fr none0 w w3 := hf.out.trans (hf3.mono (T' := fun k => w.heap.size ≤ k) (fun k _ e => by have := HRR.out; omega)) (fun k hk h => absurd hk (Nat.not_lt_of_le h))
      have hrow3 : Row w.heap.size w3 3 1 lo V.length lc (ints V) := hrow.out.fr hf3 (row_ne_iter hrow.out hrg.out)
      have hal : Below w3.heap.size w3 (w3.alloc (.cells #[.int .i64 x] 3)) := (Below.refl _ _).alloc (Nat.le_refl _) _
      have HF4 : Hid (Fr none0 w (w3.alloc (.cells #[.int .i64 x] 3))) := hf3n.alloc _
      have HR4 : Hid (Row w.heap.size (w3.alloc (.cells #[.int .i64 x] 3)) 3 1 lo V.length lc (ints V)) := hrow3.fr (Fr.of_below (T := none0) hal) (fun _ _ h => h)
      have HRG4 : Hid (RangeAt Try.prog 3 .i64 (w3.alloc (.cells #[.int .i64 x] 3)) mb r (L.map Ln.kv) (fun z => lf z && !decide (z = x)) cnt3) := hrg3.fr (Fr.of_below (T := none0) hal) (fun h => h) (fun h => h)
      have HS4 : Hid (Src (w3.alloc (.cells #[.int .i64 x] 3)) 1 (some ⟨w3.heap.size, 0, none⟩) 1 [.int .i64 x]) := by
        refine ⟨rfl, fun j u hj => ⟨w3.heap.size, 0, rfl, by simp, ?_⟩⟩
        rw [Nat.zero_add, (Blk.new w3 3 #[.int .i64 x]).cell j]
        simpa using hj
      have HG4 := Lib.hid (hgot.out.take (p := fun _ => true) hlx hgx rfl)
      have hvb : V.length + 1 + cnt3 ≤ L.length := by omega
      have HCNT : Hid (cnt3 < wr.rangeLeft mb r) := by show _ < _; rw [hrg.out.left_eq]; exact hcnt
      have hw3 : w.heap.size ≤ w3.heap.size + 1 := by have := hf3n.size; omega
      clear hf3n hrow3 hal hf3 hlx hgx hrg3 hwx hs3 hs2
      go_wp2_with (at_builtin; refine wpList_append_src _ rfl (.tmp 16) (.tmp 18) 23 rfl w.heap.size 3 i0 _ 1 8 Try.underlying23 hi hz0 hz1 hz2 rfl (by decide) lo V.length lc (ints V) rfl HR4.out (some ⟨w3.heap.size, 0, none⟩) 1 1 [.int .i64 x] rfl HS4.out (by intro u hu; simp at hu; subst hu; rfl) ?_ ?_ ?_ ?_)
      · unfold maxLen; omega
      · omega
      · first | omega | (simp; omega)
      intro lo' lc' w5 hr5 hf5 _
      have hfl : ints V ++ [.int .i64 x] = ints (V ++ [x]) := by unfold ints; simp
      rw [hfl] at hr5
      have hvl : (V ++ [x]).length = V.length + 1 := by simp
      have HR5 : Hid (Row w.heap.size w5 3 1 lo' (V ++ [x]).length lc' (ints (V ++ [x]))) := by show Row _ _ _ _ _ _ _ _; rw [hvl]; exact hr5
      have HF5 : Hid (Fr none0 w w5) := HF4.out.rowed HR4.out (Nat.le_refl _) hf5
      have hnm : ¬ rowOf lo mb := fun h => row_ne_dict HR4.out HRG4.out.dict mb h rfl
      have hnr : ¬ rowOf lo r := fun h => row_ne_iter HR4.out HRG4.out r h rfl
      have HRG5 := Lib.hid (HRG4.out.fr hf5 hnm hnr)
      have HVL := Lib.hid hvl
      clear hr5 hf5 hfl hvl hnm hnr hen
      go_wp2_with fail
      go_roundw
      case rel => exact ⟨_, cnt3, V ++ [x], lo', lc', by rw [HVL.out], by rw [HVL.out]; exact hvb, HRG5.out, HG4.out, HR5.out, HF5.out⟩
      case measure => have := HCNT.out; rw [HRG5.out.left_eq]; exact this
end Go.Proofs.Ytmgdbilmfialkaa
