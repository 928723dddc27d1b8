/- Contract of slices.Sort at a row of numbers. -/
import Derived.Test.YtbgjajhnjkldkaaW6
import Derived.Test.YtbgjajhnjkldkaaSrt
import Derived.Sort.OwnSortedInts
namespace Go.Proofs.Ytbgjajhnjkldkaa
open Go.RowKit Go.WideShapes Go.Maps

/-- The values of numbers. -/
def ints (zs : List Int) : List Value := zs.map (Value.int .i64)
theorem ints_len (zs : List Int) : (ints zs).length = zs.length := List.length_map _
theorem ints_one (zs : List Int) : ∀ u ∈ ints zs, u.oneCell' = true := fun u hu => by
  obtain ⟨z, _, rfl⟩ := List.mem_map.1 hu
  rfl
/-- Rising. -/
def srtL (zs : List Int) : List Int := zs.mergeSort fun x y => decide (x ≤ y)
theorem srtL_len (zs : List Int) : (srtL zs).length = zs.length := List.length_mergeSort _
theorem srtL_of {zs ts : List Int} (hp : zs.Perm ts) (ht : ts.Pairwise (· < ·)) : srtL zs = ts := by
  have tr : ∀ a b c : Int, decide (a ≤ b) = true → decide (b ≤ c) = true → decide (a ≤ c) = true := fun a b c h1 h2 => by
    simp only [decide_eq_true_eq] at h1 h2 ⊢
    omega
  have to : ∀ a b : Int, (decide (a ≤ b) || decide (b ≤ a)) = true := fun a b => by
    simp only [Bool.or_eq_true, decide_eq_true_eq]
    omega
  exact List.Perm.eq_of_pairwise (le := fun a b => decide (a ≤ b) = true) (fun a b _ _ h1 h2 => by simp only [decide_eq_true_eq] at h1 h2; omega) (List.pairwise_mergeSort tr to zs) (ht.imp fun {a b} h => by simp only [decide_eq_true_eq]; omega) ((List.mergeSort_perm zs _).trans hp)
theorem sort_any (w : World) (B : Nat) (ao : Option Addr) (cap : Nat) (zs : List Int) (hr : Row B w 3 1 ao zs.length cap (ints zs)) (hn : zs.length < 1000000) :
    Calls Try.prog 26 #[.slice ao zs.length cap] w fun e w' => e = .returned (.tuple #[]) ∧ Row B w' 3 1 ao zs.length cap (ints (srtL zs)) ∧ Fr (rowOf ao) w w' := by
  rcases hr.forms with rfl | ⟨g, rfl⟩
  · obtain ⟨h0, hc, _⟩ := hr.of_none
    have hz : zs = [] := List.eq_nil_of_length_eq_zero h0
    subst hz
    have h : Calls Try.prog 26 #[.slice none 0 cap] w fun e w' => e = .returned (.tuple #[]) ∧ w' = w := AnyM.slices_Sort_int_none srt none cap w
    refine h.mono ?_
    rintro e w' ⟨rfl, rfl⟩
    have h1 : srtL [] = [] := by simp [srtL]
    rw [h1]
    exact ⟨rfl, hr, Fr.refl _ _⟩
  · obtain ⟨hB, cur, hblk, hcs, htk⟩ := hr.block
    have hH := holds_of_blockI (ss := zs) hblk (by rw [Nat.mul_one] at htk; exact htk)
    have h : Calls Try.prog 26 #[.slice (some ⟨g, 0, none⟩) zs.length cap] w fun e w' => e = .returned (.tuple #[]) ∧ ∃ n os, w' = Go.Sort.grow (Go.Sort.putRow (Value.int .i64) (Go.Sort.ahead w n) g 0 (srtL zs).toArray) os :=
      AnyM.slices_Sort_int srt g 0 cap zs w hH hblk.lt (by omega)
    refine h.mono ?_
    rintro e w' ⟨rfl, n, os, rfl⟩
    refine ⟨rfl, ownsRow_sortedI (srtL_len zs) hB hblk hr.le hr.capmax hcs, ?_⟩
    exact (Fr.refl _ _).grown (grownBy_sortedI _) (fun k _ e => by injection e with e; exact ⟨_, rfl, e.symm⟩)

theorem inf3 : (Try.prog.info? 3).map (fun i => (i.zero, i.size, i.bytes)) = some (some (.int .i64 0), 1, 8) := by kernel_rfl
theorem row_ne_iter {B : Nat} {w : World} {ao : Option Addr} {n c b r : Nat} {e : TypeId} {K : Nat} {xs : List Value} {P : Program} {kt : TypeId} {q : IntKind} {M : List (Int × Value)} {lf : Int → Bool} {cnt : Nat} (h : Row B w e K ao n c xs) (hx : RangeAt P kt q w b r M lf cnt) : ∀ k, rowOf ao k → ¬ k = r := by
  rintro k hk rfl
  obtain ⟨_, o, ho, ht⟩ := h.tag k hx.lt hk
  obtain ⟨_, _, _, he⟩ := hx.iter
  rw [he] at ho
  injection ho with ho
  subst ho
  cases ht

theorem row_ne {B : Nat} {w : World} {ao : Option Addr} {n c x : Nat} {e t : TypeId} {K : Nat} {cs : Array Value} {xs : List Value} (h : Row B w e K ao n c xs) (hx : Blk w x t cs) (h1 : t ≠ e) : ∀ k, rowOf ao k → ¬ k = x := by
  rintro k hk rfl
  obtain ⟨_, o, ho, ht⟩ := h.tag k hx.lt hk
  unfold Blk at hx
  rw [hx] at ho
  injection ho with ho
  subst ho
  injection ht with ht
  exact h1 ht
theorem row_ne_dict {B : Nat} {w : World} {ao : Option Addr} {n c b : Nat} {e : TypeId} {K : Nat} {xs : List Value} {P : Program} {kt : TypeId} {q : IntKind} {M : List (Int × Value)} (h : Row B w e K ao n c xs) (hx : DictAt P kt q w b M) : ∀ k, rowOf ao k → ¬ k = b := by
  rintro k hk rfl
  obtain ⟨_, o, ho, ht⟩ := h.tag k hx.lt hk
  obtain ⟨es, ck, he⟩ := hx.isMap
  rw [he] at ho
  injection ho with ho
  subst ho
  cases ht
end Go.Proofs.Ytbgjajhnjkldkaa
