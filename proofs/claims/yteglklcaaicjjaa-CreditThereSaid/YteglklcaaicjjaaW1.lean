/- Contracts of package credit's methods (but All), by walks. -/
import Derived.Test.YteglklcaaicjjaaM
namespace Go.Proofs.Yteglklcaaicjjaa
open Go.RowKit Go.Maps

/-- A WINDOW: its block pb, its map's block mb. -/
structure Win (w : World) (pb mb : Nat) (most : Int) (next : Nat) (S : List Nat) : Prop where
  blk : Blk w pb 49 #[.int .i64 most, .int .u64 (next : Int), .map (some mb)]
  map : SetAt w mb S
  asc : S.Pairwise (· < ·)
  lt : ∀ k ∈ S, k < next
  m1 : 1 ≤ most
  m2 : most ≤ 64
  len : (S.length : Int) ≤ most

/-- The window's blocks. -/
def Of (pb mb : Nat) : Nat → Prop := fun k => k = pb ∨ k = mb

section
variable {w w' : World} {pb mb : Nat} {most : Int} {next : Nat} {S : List Nat}
theorem Win.fr {T : Nat → Prop} (h : Win w pb mb most next S) (hf : Fr T w w') (h1 : ¬ T pb) (h2 : ¬ T mb) : Win w' pb mb most next S :=
  ⟨h.blk.fr hf h1, h.map.fr hf h2, h.asc, h.lt, h.m1, h.m2, h.len⟩
theorem Win.drew (h : Win w pb mb most next S) : Win w.drew pb mb most next S := ⟨h.blk, h.map, h.asc, h.lt, h.m1, h.m2, h.len⟩
theorem Win.ne (h : Win w pb mb most next S) : pb ≠ mb := by
  obtain ⟨es, ck, he, _⟩ := h.map.isMap
  exact h.blk.ne_map he
theorem Win.c0 (h : Win w pb mb most next S) : w.cell? ⟨pb, 0, none⟩ = some (.int .i64 most) := h.blk.cell 0
theorem Win.c1 (h : Win w pb mb most next S) : w.cell? ⟨pb, 1, none⟩ = some (.int .u64 (next : Int)) := h.blk.cell 1
theorem Win.c2 (h : Win w pb mb most next S) : w.cell? ⟨pb, 2, none⟩ = some (.map (some mb)) := h.blk.cell 2
end

theorem off_any (w : World) (pb mb : Nat) (c2 : w.cell? ⟨pb, 2, none⟩ = some (.map (some mb))) : Calls Try.prog 19 #[.pointer (some ⟨pb, 0, none⟩)] w fun e w' => e = .returned (.bool false) ∧ w = w' := by
  have hm : ∀ (W : World) (r : Option Nat), (binOp .eql 47 (.map r) (.map none)).run Try.prog W = .ok (.bool r.isNone) W := fun W r => run_eql_map_nil W _ _ _ r Try.underlying47
  go_enter Try.func19, Try.ntmps19
  go_wp2
  go_ret
  exact ⟨rfl, rfl⟩
theorem off_nil (w : World) : Calls Try.prog 19 #[.pointer none] w fun e w' => e = .returned (.bool true) ∧ w = w' := by
  go_enter Try.func19, Try.ntmps19
  go_wp2
  go_ret
  exact ⟨rfl, rfl⟩
theorem off_zero (w : World) (pb : Nat) (c2 : w.cell? ⟨pb, 2, none⟩ = some (.map none)) : Calls Try.prog 19 #[.pointer (some ⟨pb, 0, none⟩)] w fun e w' => e = .returned (.bool true) ∧ w = w' := by
  have hm : ∀ (W : World) (r : Option Nat), (binOp .eql 47 (.map r) (.map none)).run Try.prog W = .ok (.bool r.isNone) W := fun W r => run_eql_map_nil W _ _ _ r Try.underlying47
  go_enter Try.func19, Try.ntmps19
  go_wp2
  go_ret
  exact ⟨rfl, rfl⟩

theorem has_any (w : World) (pb mb : Nat) (most : Int) (next : Nat) (S : List Nat) (h : Win w pb mb most next S) :
    Calls Try.prog 12 #[.pointer (some ⟨pb, 0, none⟩)] w fun e w' => e = .returned (.int .i64 (S.length : Int)) ∧ w = w' := by
  have c2 := h.c2
  go_enter Try.func12, Try.ntmps12
  go_wp2_with (first | (go_at_call 19; refine (off_any _ pb mb c2).mono ?_; rintro e w' ⟨rfl, rfl⟩) | (at_len; refine wpList_len_set _ rfl _ rfl mb S rfl h.map ?_))
  go_ret
  exact ⟨rfl, rfl⟩

theorem next_any (w : World) (pb mb : Nat) (most : Int) (next : Nat) (S : List Nat) (h : Win w pb mb most next S) :
    Calls Try.prog 15 #[.pointer (some ⟨pb, 0, none⟩)] w fun e w' => e = .returned (.int .u64 (next : Int)) ∧ w = w' := by
  have c2 := h.c2
  have c1 := h.c1
  go_enter Try.func15, Try.ntmps15
  go_wp2_with (first | (go_at_call 19; refine (off_any _ pb mb c2).mono ?_; rintro e w' ⟨rfl, rfl⟩))
  go_ret
  exact ⟨rfl, rfl⟩

theorem new_bad (m : Int) (w : World) (h : m < 1 ∨ 64 < m) : Calls Try.prog 10 #[.int .i64 m] w fun e w' => e = .returned (.tuple #[.pointer none, .int .i64 2]) ∧ w = w' := by
  by_cases h1 : m < 1
  · go_enter Try.func10, Try.ntmps10
    go_wp2
    go_ret2
    exact ⟨rfl, rfl⟩
  · have h2 : 64 < m := by omega
    clear h
    go_enter Try.func10, Try.ntmps10
    go_wp2
    go_ret2
    exact ⟨rfl, rfl⟩

def NewPost (m : Int) (w : World) (e : Ending) (w' : World) : Prop := ∃ pb mb, e = .returned (.tuple #[.pointer (some ⟨pb, 0, none⟩), .int .i64 0]) ∧ Win w' pb mb m 1 [0] ∧ w.heap.size ≤ pb ∧ w.heap.size ≤ mb ∧ Below w.heap.size w w'

theorem SetAt.made (w : World) : SetAt (w.alloc (.map #[] 0)) w.heap.size [] := ⟨.map [], World.ownsMap_made w _ _ _, IsSet.empty⟩

theorem new_good (m : Int) (w : World) (h1 : 1 ≤ m) (h2 : m ≤ 64) : Calls Try.prog 10 #[.int .i64 m] w (NewPost m w) := by
  have hmm := @run_makeMap Try.prog
  have hs0 := SetAt.made w
  go_enter Try.func10, Try.ntmps10
  go_wp2_with (first | (refine wpList_update_set _ rfl _ _ _ (.inr rfl) w.heap.size [] rfl hs0 0 rfl 0 rfl rfl (by omega) (by simp) (by simp) ?_))
  intro w1 hs1 hf1
  have hz : w.heap.size < w1.heap.size := hs1.lt
  have hb1 : Below w.heap.size w w1 := ((Fr.refl (fun j => j = w.heap.size) w).alloc _ |>.trans hf1 (fun k hk e => e)).below (Nat.le_refl _) (fun k e => by rw [e]; exact Nat.le_refl _)
  go_wp2_with fail
  go_ret2
  exact ⟨w1.heap.size, w.heap.size, rfl, ⟨Blk.new _ _ _, hs1.alloc _, by simp, by simp, h1, h2, by simpa using h1⟩, by omega, Nat.le_refl _, hb1.alloc (by omega) _⟩
end Go.Proofs.Yteglklcaaicjjaa
