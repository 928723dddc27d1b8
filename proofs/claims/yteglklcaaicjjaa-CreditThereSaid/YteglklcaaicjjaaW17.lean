/- Contract of slices.Sort at distinct numbers, by walks. -/
import Derived.Test.YteglklcaaicjjaaW16
namespace Go.Proofs.Yteglklcaaicjjaa
open Go.RowKit Go.WideShapes

theorem ins_nil (w : World) (c : Nat) : Calls Try.prog 27 #[.slice none 0 c, .int .i64 0, .int .i64 0] w fun e w' => e = .returned (.tuple #[]) ∧ w = w' := by
  go_enter Try.func27, Try.ntmps27
  go_wp2_with fail
  go_loop [6, 7] (fun s6 _ => s6 = .int .i64 1) (fun s6 _ => (intOf s6).toNat)
  case atStart => rfl
  case round =>
    have e := hrel
    subst e
    go_wp2_with fail
    go_end0
    exact ⟨rfl, rfl⟩
theorem pdq_nil (w : World) (c : Nat) (l : Int) : Calls Try.prog 25 #[.slice none 0 c, .int .i64 0, .int .i64 0, .int .i64 l] w fun e w' => e = .returned (.tuple #[]) ∧ w = w' := by
  go_enter Try.func25, Try.ntmps25
  go_wp2_with fail
  go_loop [1, 2, 3, 8, 9, 10, 11, 12, 13, 14, 15, 16, 17, 18] (fun s1 s2 _ _ _ _ _ _ _ _ _ _ _ _ => s1 = .int .i64 0 ∧ s2 = .int .i64 0) (fun _ _ _ _ _ _ _ _ _ _ _ _ _ _ => 0)
  case atStart => exact ⟨rfl, rfl⟩
  case round =>
    obtain ⟨rfl, rfl⟩ := hrel
    go_wp2_with fail
    refine (ins_nil w c).mono ?_
    rintro e w5 ⟨rfl, rfl⟩
    go_wp2_with fail
    first | go_end0 | refine bodyPost_ret (results_none rfl _ _ _) rfl ?_
    exact ⟨rfl, rfl⟩
theorem srt_nil (w : World) (c : Nat) : Calls Try.prog 23 #[.slice none 0 c] w fun e w' => e = .returned (.tuple #[]) ∧ w = w' := by
  have h0 : IntKind.u64.wrap 0 = 0 := by decide
  have hl : (0 : Nat) < 256 := by decide
  go_enter Try.func23, Try.ntmps23
  go_wp2_with fail
  refine (len_any w 0 hl).mono ?_
  rintro e w5 ⟨rfl, rfl⟩
  go_wp2_with fail
  refine (pdq_nil w c _).mono ?_
  rintro e w5 ⟨rfl, rfl⟩
  go_wp2_with fail
  go_end0
  exact ⟨rfl, rfl⟩

/-- The values of a list. -/
def ul (zs : List Int) : List Value := zs.map (Value.int .u64)
theorem ul_us (zs : List Int) : ul zs = us zs.toArray := by simp [ul, us]
theorem sorted_eq {U : Array Int} {ts : List Int} (hs : Go.Sort.SortedIn Go.Sort.ltInt 0 U.size U) (hp : U.toList.Perm ts) (ht : ts.Pairwise (· < ·)) : U.toList = ts := by
  have h1 : U.toList.Pairwise (· ≤ ·) := by
    rw [List.pairwise_iff_getElem]
    intro i j hi hj hij
    have hi' : i < U.size := by simpa using hi
    have hj' : j < U.size := by simpa using hj
    have h := hs i j (Nat.zero_le _) hij hj'
    unfold Go.Sort.ltInt at h
    simp only [decide_eq_false_iff_not] at h
    rw [getElem!_pos U i hi', getElem!_pos U j hj'] at h
    simp only [Array.getElem_toList]
    omega
  exact List.Perm.eq_of_pairwise (le := fun a b => a ≤ b) (fun a b _ _ h1 h2 => by omega) h1 (ht.imp fun {a b} h => by omega) hp

set_option maxHeartbeats 2000000 in
theorem srt_any (B : Nat) (w : World) (ao : Option Addr) (cap : Nat) (zs ts : List Int) (hr : Row B w 29 1 ao zs.length cap (ul zs)) (hl : zs.length ≤ 200) (hp : zs.Perm ts) (ht : ts.Pairwise (· < ·)) :
    Calls Try.prog 23 #[.slice ao zs.length cap] w fun e w' => e = .returned (.tuple #[]) ∧ Row B w' 29 1 ao zs.length cap (ul ts) ∧ Fr (rowOf ao) w w' := by
  rcases hr.forms with rfl | ⟨g, rfl⟩
  · obtain ⟨h0, _, _⟩ := hr.of_none
    have hz : zs = [] := List.eq_nil_of_length_eq_zero h0
    subst hz
    have hts : ts = [] := hp.nil_eq.symm
    subst hts
    refine (srt_nil w cap).mono ?_
    rintro e w' ⟨rfl, rfl⟩
    exact ⟨rfl, hr, Fr.refl _ _⟩
  · obtain ⟨n, hn⟩ : ∃ n, zs.length = n := ⟨_, rfl⟩
    rw [hn] at hr hl ⊢
    rw [ul_us] at hr
    have H : Hid (Vec B w g n cap zs.toArray) := hr
    have hnd : Hid (zs.toArray.toList.Nodup) := by
      show List.Nodup _
      have h1 : ts.Nodup := ht.imp fun {a b} h => by omega
      simpa using hp.nodup_iff.2 h1
    have hbl : Go.Sort.bitsLen n ≤ 8 := (Go.Sort.bitsLen_le_iff n 8).2 (by omega)
    have hsz : zs.toArray.size = n := by simpa using hn
    have HFIN : Hid (∀ U, Go.Sort.PermIn 0 n zs.toArray U → Go.Sort.SortedIn Go.Sort.ltInt 0 n U → us U = ul ts) := fun U h1 h2 => by
      have hU : U.size = n := h1.1.trans hsz
      have hpp := perm_all h1 (by omega)
      have h3 := sorted_eq (ts := ts) (by rw [hU]; exact h2) (hpp.trans (by simpa using hp)) ht
      unfold us ul
      rw [h3]
    have i1 : IntKind.u64.wrap (n : Int) = (n : Int) := by simp [IntKind.wrap, IntKind.signed, IntKind.bits]; omega
    have hn256 : n < 256 := by omega
    clear hr hn hp ht hsz
    go_enter Try.func23, Try.ntmps23
    go_wp2_with fail
    refine (len_any w n hn256).mono ?_
    rintro e w5 ⟨rfl, rfl⟩
    go_wp2_with fail
    refine (pdq_at B g n cap hl (n + 1) w zs.toArray 0 n (Go.Sort.bitsLen n : Int) H.out (Nat.zero_le _) (Nat.le_refl _) (by omega) hnd.out (Or.inl rfl) (by omega) (by omega)).mono ?_
    rintro e w6 ⟨rfl, U, ⟨h1, h2⟩, hv6, hf6⟩
    have HR : Hid (Row B w6 29 1 (some ⟨g, 0, none⟩) n cap (ul ts)) := by
      have h3 : Row B w6 29 1 (some ⟨g, 0, none⟩) n cap (us U) := hv6
      rw [HFIN.out U h1 h2] at h3
      exact h3
    have HF : Hid (Fr (rowOf (some ⟨g, 0, none⟩)) w w6) := hf6.mono (fun k _ e => ⟨_, rfl, e⟩)
    clear h1 h2 hv6 hf6
    go_wp2_with fail
    go_end0
    exact ⟨rfl, HR.out, HF.out⟩
end Go.Proofs.Yteglklcaaicjjaa
