/- Contracts of Take and Give, by walks. -/
import Derived.Test.YteglklcaaicjjaaW1
namespace Go.Proofs.Yteglklcaaicjjaa
open Go.RowKit Go.Maps

/-- Above it no number is. -/
def far : Nat := 4611686018427387904
/-- Are all the numbers there, from id on, as many as n? -/
def allIn (S : List Nat) (id n : Nat) : Bool := (List.range n).all fun k => decide (id + k ∈ S)
theorem allIn_iff (S : List Nat) (id n : Nat) : allIn S id n = true ↔ ∀ k, k < n → id + k ∈ S := by
  unfold allIn
  simp [List.all_eq_true]
/-- What Take answers. -/
def takeE (S : List Nat) (id : Nat) (c : Int) : Int := if c < 1 ∨ 64 < c then 2 else if far < id then 17 else if allIn S id c.toNat then 0 else 17
/-- S without the n numbers from id on. -/
def cutS (S : List Nat) (id n : Nat) : List Nat := S.filter fun x => decide (x < id ∨ id + n ≤ x)
/-- What is there behind Take. -/
def takeS (S : List Nat) (id : Nat) (c : Int) : List Nat := if takeE S id c = 0 then cutS S id c.toNat else S

theorem cutS_zero (S : List Nat) (id : Nat) : cutS S id 0 = S := by
  unfold cutS
  exact List.filter_eq_self.2 (fun x _ => by simp; omega)
theorem cutS_step (S : List Nat) (id n : Nat) : dropK (cutS S id n) (id + n) = cutS S id (n + 1) := by
  unfold cutS dropK
  rw [List.filter_filter]
  congr 1
  funext x
  rw [Bool.eq_iff_iff]
  simp
  omega
theorem cutS_asc {S : List Nat} (h : S.Pairwise (· < ·)) (id n : Nat) : (cutS S id n).Pairwise (· < ·) := h.filter _
theorem cutS_mem {S : List Nat} {id n x : Nat} : x ∈ cutS S id n ↔ x ∈ S ∧ (x < id ∨ id + n ≤ x) := by
  unfold cutS
  simp [List.mem_filter]
theorem cutS_le (S : List Nat) (id n : Nat) : (cutS S id n).length ≤ S.length := List.length_filter_le _ _
theorem takeS_asc {S : List Nat} (h : S.Pairwise (· < ·)) (id : Nat) (c : Int) : (takeS S id c).Pairwise (· < ·) := by
  unfold takeS; split
  · exact cutS_asc h _ _
  · exact h
theorem takeS_sub {S : List Nat} {id x : Nat} {c : Int} (h : x ∈ takeS S id c) : x ∈ S := by
  unfold takeS at h; split at h
  · exact (cutS_mem.1 h).1
  · exact h
theorem takeS_le (S : List Nat) (id : Nat) (c : Int) : (takeS S id c).length ≤ S.length := by
  unfold takeS; split
  · exact cutS_le _ _ _
  · exact Nat.le_refl _

def TakePost (pb mb : Nat) (most : Int) (next : Nat) (S : List Nat) (id : Nat) (c : Int) (w : World) (e : Ending) (w' : World) : Prop :=
  e = .returned (.int .i64 (takeE S id c)) ∧ Win w' pb mb most next (takeS S id c) ∧ Fr (Of pb mb) w w'

theorem take_bad {S : List Nat} {id : Nat} {c k : Int} (h : takeE S id c = k) (hk : k ≠ 0) : takeS S id c = S := by
  unfold takeS; rw [if_neg (by rw [h]; exact hk)]

set_option maxHeartbeats 1000000 in
theorem take_any (w : World) (pb mb : Nat) (most : Int) (next : Nat) (S : List Nat) (id : Nat) (c : Int) (h : Win w pb mb most next S) (hid : id < 18446744073709551616) (hc0 : -9223372036854775808 ≤ c) (hc1 : c ≤ 9223372036854775807) :
    Calls Try.prog 14 #[.pointer (some ⟨pb, 0, none⟩), .int .u64 (id : Int), .int .i64 c] w (TakePost pb mb most next S id c w) := by
  have c2 := h.c2
  by_cases h1 : c < 1 ∨ 64 < c
  · have hE : takeE S id c = 2 := by unfold takeE; rw [if_pos h1]
    unfold TakePost
    rw [hE, take_bad hE (by omega)]
    rcases h1 with h1 | h1
    · go_enter Try.func14, Try.ntmps14
      go_wp2_with (first | (go_at_call 19; refine (off_any _ pb mb c2).mono ?_; rintro e w' ⟨rfl, rfl⟩))
      go_ret
      exact ⟨rfl, h, Fr.refl _ _⟩
    · go_enter Try.func14, Try.ntmps14
      go_wp2_with (first | (go_at_call 19; refine (off_any _ pb mb c2).mono ?_; rintro e w' ⟨rfl, rfl⟩))
      go_ret
      exact ⟨rfl, h, Fr.refl _ _⟩
  · have h2 : 1 ≤ c := by omega
    have h3 : c ≤ 64 := by omega
    clear hc0 hc1
    obtain ⟨n, rfl⟩ := Int.eq_ofNat_of_zero_le (show 0 ≤ c by omega)
    by_cases h4 : far < id
    · have hE : takeE S id n = 17 := by unfold takeE; rw [if_neg h1, if_pos h4]
      unfold TakePost
      rw [hE, take_bad hE (by omega)]
      unfold far at h4
      clear h1
      have h5 : (4611686018427387904 : Int) < (id : Int) := by omega
      go_enter Try.func14, Try.ntmps14
      go_wp2_with (first | (go_at_call 19; refine (off_any _ pb mb c2).mono ?_; rintro e w' ⟨rfl, rfl⟩))
      go_ret
      exact ⟨rfl, h, Fr.refl _ _⟩
    · have h4' : id ≤ 4611686018427387904 := by unfold far at h4; omega
      have hE : takeE S id n = if allIn S id n then 0 else 17 := by unfold takeE; rw [if_neg h1, if_neg h4]; rfl
      clear h1 h4 hid
      have hs := h.map
      go_enter Try.func14, Try.ntmps14
      go_wp2_with (first | (go_at_call 19; refine (off_any _ pb mb c2).mono ?_; rintro e w' ⟨rfl, rfl⟩))
      go_loop [6, 7, 23] (fun s6 _ s => ∃ k : Nat, k ≤ n ∧ s6 = .int .i64 0 ∧ s = .int .i64 k ∧ Hid (∀ j, j < k → id + j ∈ S)) (fun _ _ s => n - (intOf s).toNat)
      case atStart => exact ⟨0, Nat.zero_le _, rfl, rfl, fun j hj => absurd hj (Nat.not_lt_zero _)⟩
      case round =>
        obtain ⟨k, hk, rfl, rfl, hf⟩ := hrel
        by_cases hlt : k < n
        · by_cases hin : id + k ∈ S
          · have hin' : decide (id + k ∈ S) = true := decide_eq_true hin
            go_wp2_with (first | (at_lookup; refine wpList_lookup_set _ rfl _ _ rfl mb S rfl hs _ rfl (id + k) (by omega) (by omega) ?_))
            go_round
            case rel => exact ⟨k + 1, by omega, by go_num, by go_num, (show Hid _ from fun j hj => by
              by_cases e : j = k
              · subst e; exact hin
              · exact hf.out j (by omega))⟩
            case measure => simp [intOf]; omega
          · have hin' : decide (id + k ∈ S) = false := decide_eq_false hin
            have hE' : takeE S id n = 17 := by
              rw [hE, if_neg]
              intro hall
              exact hin ((allIn_iff S id n).1 hall k hlt)
            have HE := Lib.hid hE'
            have HIN := Lib.hid hin
            clear hE hE' hin
            go_wp2_with (first | (at_lookup; refine wpList_lookup_set _ rfl _ _ rfl mb S rfl hs _ rfl (id + k) (by omega) (by omega) ?_))
            go_ret
            unfold TakePost
            rw [HE.out, take_bad HE.out (by omega)]
            exact ⟨rfl, h, Fr.refl _ _⟩
        · have hkn : k = n := by omega
          subst hkn
          have hall : allIn S id k = true := (allIn_iff S id k).2 hf.out
          have hE' : takeE S id k = 0 := by rw [hE, if_pos hall]
          have HE := Lib.hid hE'
          have hf' := hf.out
          have HALL := Lib.hid hf'
          clear hE hE' hall hf hf'
          go_wp2_with fail
          go_loopw [8, 38] (fun _ s wr => ∃ j : Nat, j ≤ k ∧ s = .int .i64 j ∧ Hid (SetAt wr mb (cutS S id j)) ∧ Hid (Fr (fun i => i = mb) w wr)) (fun _ s _ => k - (intOf s).toNat)
          case atStart => exact ⟨0, Nat.zero_le _, rfl, by rw [cutS_zero]; exact hs, Fr.refl _ _⟩
          case round =>
            obtain ⟨j, hj, rfl, hsj, hfj⟩ := hrel
            have c2r : wr.cell? ⟨pb, 2, none⟩ = some (.map (some mb)) := (h.blk.fr hfj.out h.ne).cell 2
            by_cases hlt' : j < k
            · have hin : id + j ∈ cutS S id j := cutS_mem.2 ⟨HALL.out j hlt', by omega⟩
              have HIN := Lib.hid hin
              clear hin
              go_wp2_with (first | (at_delete; refine wpList_delete_set _ rfl _ _ rfl mb _ rfl hsj.out _ rfl (id + j) (by omega) (by omega) HIN.out (cutS_asc h.asc id j) ?_))
              intro w1 hs1 hf1
              rw [cutS_step] at hs1
              go_wp2_with fail
              go_roundw
              case rel => exact ⟨j + 1, by omega, by go_num, hs1, hfj.out.step hf1⟩
              case measure => simp [intOf]; omega
            · have hjk : j = k := by omega
              subst hjk
              go_wp2_with fail
              go_ret
              unfold TakePost takeS
              rw [HE.out, if_pos rfl, Int.toNat_natCast]
              have hf2 : Fr (Of pb mb) w wr := hfj.out.mono (fun i _ e => .inr e)
              exact ⟨rfl, ⟨h.blk.fr hfj.out h.ne, hsj.out, cutS_asc h.asc _ _, fun x hx => h.lt x (cutS_mem.1 hx).1, h.m1, h.m2, Int.le_trans (by have := cutS_le S id j; omega) h.len⟩, hf2⟩
end Go.Proofs.Yteglklcaaicjjaa
