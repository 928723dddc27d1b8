/- A row of numbers that is sorted in place: its words; contracts of cmp.Less and of the insertion sort, by walks. -/
import Derived.Test.YteglklcaaicjjaaE
import Derived.Sort.AssemblyPlain
import Derived.BigRegion
namespace Go.Proofs.Yteglklcaaicjjaa
open Go.RowKit Go.WideShapes

/-- The values of numbers. -/
def us (V : Array Int) : List Value := V.toList.map (Value.int .u64)
theorem us_len (V : Array Int) : (us V).length = V.size := by simp [us]
theorem us_get {V : Array Int} {i : Nat} (h : i < V.size) : (us V)[i]? = some (.int .u64 V[i]!) := by
  unfold us
  rw [List.getElem?_map, Array.getElem?_toList, Array.getElem?_eq_getElem h, getElem!_pos V i h]
  rfl
theorem us_set (V : Array Int) (i : Nat) (z : Int) : (us V).set i (.int .u64 z) = us (V.setIfInBounds i z) := by
  unfold us
  rw [Array.toList_setIfInBounds, List.map_set]
theorem us_one (V : Array Int) : ∀ u ∈ us V, u.oneCell' = true := fun u hu => by
  obtain ⟨z, _, rfl⟩ := List.mem_map.1 hu
  rfl
/-- The row at g holds V. -/
def Vec (B : Nat) (w : World) (g n cap : Nat) (V : Array Int) : Prop := Row B w 29 1 (some ⟨g, 0, none⟩) n cap (us V)
section
variable {B : Nat} {w w' : World} {g n cap : Nat} {V : Array Int}
theorem Vec.size (h : Vec B w g n cap V) : V.size = n := by
  have := Row.len h
  rw [us_len] at this
  omega
theorem Vec.cell (h : Vec B w g n cap V) {i : Nat} (hi : i < n) : w.cell? ⟨g, i, none⟩ = some (.int .u64 V[i]!) := (Row.cell h (by omega)).trans (us_get (by rw [h.size]; exact hi))
theorem Vec.frozen (h : Vec B w g n cap V) (i : Nat) : w.frozen? ⟨g, i, none⟩ = false := Row.frozen h i
theorem Vec.lt (h : Vec B w g n cap V) : g < w.heap.size := Row.lt h
theorem Vec.low (h : Vec B w g n cap V) : B ≤ g := (Row.block h).1
theorem Vec.fr {T : Nat → Prop} (h : Vec B w g n cap V) (hf : Fr T w w') (ht : ¬ T g) : Vec B w' g n cap V := Row.fr h hf (fun k hk e => by
  obtain ⟨a, ha, rfl⟩ := hk
  injection ha with ha
  subst ha
  exact ht e)
theorem Vec.set_ (h : Vec B w g n cap V) (i : Nat) (z : Int) : Vec B (w.setCell ⟨g, i, none⟩ (.int .u64 z)) g n cap (V.setIfInBounds i z) := by
  have := Row.stored h i (.int .u64 z)
  rw [us_set] at this
  exact this
theorem Vec.swp (h : Vec B w g n cap V) (i j : Nat) : Vec B ((w.setCell ⟨g, i, none⟩ (.int .u64 V[j]!)).setCell ⟨g, j, none⟩ (.int .u64 V[i]!)) g n cap (Go.Sort.swp V i j) := (h.set_ i _).set_ j _
/-- What an exchange wants, and what it leaves. -/
theorem Vec.swap (h : Vec B w g n cap V) {i j : Nat} (hj : j < n) {x y : Int} (hx : V[i]! = x) (hy : V[j]! = y) :
    w.frozen? ⟨g, i, none⟩ = false ∧ w.frozen? ⟨g, j, none⟩ = false ∧ (∃ z, (w.setCell ⟨g, i, none⟩ (.int .u64 y)).cell? ⟨g, j, none⟩ = some z) ∧ (w.setCell ⟨g, i, none⟩ (.int .u64 y)).frozen? ⟨g, j, none⟩ = false ∧
      Hid (Vec B ((w.setCell ⟨g, i, none⟩ (.int .u64 y)).setCell ⟨g, j, none⟩ (.int .u64 x)) g n cap (Go.Sort.swp V i j)) := by
  refine ⟨h.frozen i, h.frozen j, ⟨_, (h.set_ i y).cell (i := j) hj⟩, (h.set_ i y).frozen j, ?_⟩
  have := h.swp i j
  rw [hx, hy] at this
  exact this
theorem Fr.swp {T : Nat → Prop} {w0 : World} (h : Fr T w0 w) (hT : T g) (i j : Nat) (u v : Value) : Fr T w0 ((w.setCell ⟨g, i, none⟩ u).setCell ⟨g, j, none⟩ v) :=
  (h.setCell (p := ⟨g, i, none⟩) (fun _ => hT) u).setCell (p := ⟨g, j, none⟩) (fun _ => hT) v
end

theorem nan_any (w : World) (x : Int) : Calls Try.prog 43 #[.int .u64 x] w fun e w' => e = .returned (.bool false) ∧ w = w' := by
  go_enter Try.func43, Try.ntmps43
  go_wp2
  go_ret
  exact ⟨by simp, rfl⟩
theorem less_any (w : World) (x y : Int) : Calls Try.prog 33 #[.int .u64 x, .int .u64 y] w fun e w' => e = .returned (.bool (Go.Sort.ltInt x y)) ∧ w = w' := by
  go_enter Try.func33, Try.ntmps33
  go_wp2_with (go_at_call 43; refine (nan_any _ _).mono ?_; rintro e w' ⟨rfl, rfl⟩)
  go_ret
  exact ⟨rfl, rfl⟩

theorem less_is (w : World) (x y : Int) (c : Bool) (h : Go.Sort.ltInt x y = c) : Calls Try.prog 33 #[.int .u64 x, .int .u64 y] w fun e w' => e = .returned (.bool c) ∧ w' = w :=
  (less_any w x y).mono fun _ _ ⟨q1, q2⟩ => ⟨by rw [← h]; exact q1, q2.symm⟩
theorem insInner_go {a j : Nat} {V : Array Int} (h1 : a ≤ j) (h2 : Go.Sort.ltInt V[j + 1]! V[j]! = true) : Go.Sort.insInner Go.Sort.ltInt a (j + 1) V = Go.Sort.insInner Go.Sort.ltInt a j (Go.Sort.swp V (j + 1) j) := by
  rw [Go.Sort.insInner, if_pos (by rw [h2]; simp; omega)]
theorem insInner_stop {a j : Nat} {V : Array Int} (h : j ≤ a ∨ ∃ j', j = j' + 1 ∧ Go.Sort.ltInt V[j' + 1]! V[j']! = false) : Go.Sort.insInner Go.Sort.ltInt a j V = V := by
  cases j with
  | zero => rfl
  | succ j =>
    rw [Go.Sort.insInner, if_neg]
    rcases h with h | ⟨j', e, h⟩
    · simp; omega
    · injection e with e; subst e; rw [h]; simp
theorem insOuter_go {a b i : Nat} (V : Array Int) (h : i < b) : Go.Sort.insOuter Go.Sort.ltInt a b i V = Go.Sort.insOuter Go.Sort.ltInt a b (i + 1) (Go.Sort.insInner Go.Sort.ltInt a i V) := by
  rw [Go.Sort.insOuter, if_pos h]
theorem insOuter_stop {a b i : Nat} (V : Array Int) (h : ¬ i < b) : Go.Sort.insOuter Go.Sort.ltInt a b i V = V := by
  rw [Go.Sort.insOuter, if_neg h]

/-- What a function that sorts in place leaves. -/
def VPost (B g n cap : Nat) (V' : Array Int) (w : World) (e : Ending) (w' : World) : Prop := e = .returned (.tuple #[]) ∧ Vec B w' g n cap V' ∧ Fr (fun j => j = g) w w'

set_option maxRecDepth 100000 in
set_option maxHeartbeats 4000000 in
theorem ins_any (B : Nat) (w : World) (g n cap : Nat) (V : Array Int) (a b : Nat) (h : Vec B w g n cap V) (hab : a ≤ b) (hbn : b ≤ n) (hn : n ≤ 1000000) :
    Calls Try.prog 27 #[.slice (some ⟨g, 0, none⟩) n cap, .int .i64 a, .int .i64 b] w (VPost B g n cap (Go.Sort.insertionSort Go.Sort.ltInt V a b) w) := by
  unfold VPost
  obtain ⟨T, hT⟩ : ∃ T, Go.Sort.insertionSort Go.Sort.ltInt V a b = T := ⟨_, rfl⟩
  rw [hT]
  have HT : Hid (Go.Sort.insOuter Go.Sort.ltInt a b (a + 1) V = T) := hT
  have H := Lib.hid h
  clear h hT
  go_enter Try.func27, Try.ntmps27
  go_wp2_with fail
  go_loopw [6, 7] (fun s6 _ wr => ∃ (i : Nat) (U : Array Int), a + 1 ≤ i ∧ i ≤ n + 1 ∧ s6 = .int .i64 i ∧ Hid (Go.Sort.insOuter Go.Sort.ltInt a b i U = T) ∧ Hid (Vec B wr g n cap U) ∧ Hid (Fr (fun j => j = g) w wr)) (fun s6 _ _ => b - (intOf s6).toNat)
  case atStart => exact ⟨a + 1, V, Nat.le_refl _, by omega, by go_num, HT.out, H.out, Fr.refl _ _⟩
  case round =>
    obtain ⟨i, U, hi1, hi2, rfl, ht, hv, hf⟩ := hrel
    by_cases hib : i < b
    · have HT2 := Lib.hid ((insOuter_go U hib).symm.trans ht.out)
      obtain ⟨T2, hT2⟩ : ∃ T2, Go.Sort.insInner Go.Sort.ltInt a i U = T2 := ⟨_, rfl⟩
      rw [hT2] at HT2
      have HI := Lib.hid hT2
      clear hT2 ht
      have hib2 : (i : Int) < (b : Int) := by omega
      go_wp2_with fail
      go_loopw [7] (fun s7 wr => ∃ (j : Nat) (U : Array Int), a ≤ j ∧ j ≤ i ∧ s7 = .int .i64 j ∧ Hid (Go.Sort.insInner Go.Sort.ltInt a j U = T2) ∧ Hid (Vec B wr g n cap U) ∧ Hid (Fr (fun j => j = g) w wr)) (fun s7 _ => (intOf s7).toNat)
      case atStart => exact ⟨i, U, by omega, Nat.le_refl _, rfl, HI.out, hv.out, hf.out⟩
      case round =>
        obtain ⟨j, U2, hj1, hj2, rfl, ht2, hv2, hf2⟩ := hrel
        by_cases hja : a < j
        · obtain ⟨j', hj'⟩ : ∃ j', j = j' + 1 := ⟨j - 1, by omega⟩
          have d1 := hv2.out.cell (i := j) (by omega)
          have d2 := hv2.out.cell (i := j') (by omega)
          obtain ⟨x, hx⟩ : ∃ x, U2[j]! = x := ⟨_, rfl⟩
          obtain ⟨y, hy⟩ : ∃ x, U2[j']! = x := ⟨_, rfl⟩
          rw [hx] at d1
          rw [hy] at d2
          have HX := Lib.hid hx
          have HY := Lib.hid hy
          have i1 : (j : Int) < (n : Int) := by omega
          have i2 : (0 : Int) ≤ (j : Int) := by omega
          have i3 : (j' : Int) < (n : Int) := by omega
          have i4 : (0 : Int) ≤ (j' : Int) := by omega
          have i5 : IntKind.i64.wrap ((j : Int) - 1) = (j' : Int) := by rw [IntWalk.i64_in _ (by omega)]; omega
          have i6 : (a : Int) < (j : Int) := by omega
          have i6d : decide ((a : Int) < (j : Int)) = true := decide_eq_true i6
          have HJ := Lib.hid hj'
          clear hx hy hj'
          cases hlt : Go.Sort.ltInt x y with
          | true =>
            have HL := Lib.hid hlt
            clear hlt
            go_wp2_with fail
            go_quiet ((go_at_call 33; exact Calls.quiet_of_same (less_is _ x y true HL.out)))
            go_wp2_with fail
            have hv3 : Vec B (wr.drewN nq) g n cap U2 := hv2.out.fr ((Fr.refl none0 wr).drewN nq) (fun h => h)
            have hf3 : Fr (fun j => j = g) w (wr.drewN nq) := hf2.out.drewN nq
            obtain ⟨f1, f2, ⟨z3, d3⟩, f3, HS⟩ := hv3.swap (i := j) (j := j') (by omega) HX.out HY.out
            have d1 : (wr.drewN nq).cell? ⟨g, j, none⟩ = some (.int .u64 x) := d1
            have d2 : (wr.drewN nq).cell? ⟨g, j', none⟩ = some (.int .u64 y) := d2
            have HFS := Lib.hid (hf3.swp (g := g) rfl j j' (.int .u64 y) (.int .u64 x))
            have HT3 : Hid (Go.Sort.insInner Go.Sort.ltInt a j' (Go.Sort.swp U2 j j') = T2) := by
              show _ = _
              rw [← ht2.out, HJ.out]
              exact (insInner_go (by have := HJ.out; omega) (by rw [← HJ.out, HX.out, HY.out]; exact HL.out)).symm
            clear hv3 hf3
            generalize wr.drewN nq = wq at *
            go_region
            go_wp2_with fail
            go_roundw
            case rel => exact ⟨j', Go.Sort.swp U2 j j', by have := HJ.out; omega, by have := HJ.out; omega, by go_num, HT3.out, HS.out, HFS.out.drew⟩
            case measure => simp [intOf]; have := HJ.out; omega
          | false =>
            have HL := Lib.hid hlt
            clear hlt
            have HE : Hid (Go.Sort.insOuter Go.Sort.ltInt a b (i + 1) U2 = T) := by
              show _ = _
              rw [← HT2.out, ← ht2.out]
              rw [insInner_stop (Or.inr ⟨j', HJ.out, by rw [← HJ.out, HX.out, HY.out]; exact HL.out⟩)]
            go_wp2_with fail
            go_quiet ((go_at_call 33; exact Calls.quiet_of_same (less_is _ x y false HL.out)))
            go_wp2_with fail
            go_roundw
            case rel => exact ⟨i + 1, U2, by omega, by omega, by go_num, HE.out, hv2.out.fr ((Fr.refl none0 wr).drewN nq) (fun h => h), hf2.out.drewN nq⟩
            case measure => simp [intOf]; omega
        · have i6d : decide ((a : Int) < (j : Int)) = false := decide_eq_false (by omega)
          have HE : Hid (Go.Sort.insOuter Go.Sort.ltInt a b (i + 1) U2 = T) := by
            show _ = _
            rw [← HT2.out, ← ht2.out]
            rw [insInner_stop (Or.inl (by omega))]
          have i6n : decide (a < j) = false := decide_eq_false hja
          clear hja
          go_wp2_with fail
          go_quiet (fail)
          go_wp2_with fail
          go_roundw
          case rel => exact ⟨i + 1, U2, by omega, by omega, by go_num, HE.out, hv2.out.fr ((Fr.refl none0 wr).drewN nq) (fun h => h), hf2.out.drewN nq⟩
          case measure => simp [intOf]; omega
    · have HE : Hid (U = T) := by
        show _ = _
        rw [← ht.out, insOuter_stop _ hib]
      have hib2 : ¬ (i : Int) < (b : Int) := by omega
      clear hib
      go_wp2_with fail
      go_end0
      rw [← HE.out]
      exact ⟨rfl, hv.out, hf.out⟩
end Go.Proofs.Yteglklcaaicjjaa
