/- Contracts of the closures, IndexFunc, ContainsFunc, had (both), by walks. -/
import Derived.Test.YtgcimkbggnjcdaaW2
namespace Go.Proofs.Ytgcimkbggnjcdaa
open Go.RowKit

/-- A block that is one lock. -/
def LkAt (w : World) (b : Nat) (x : Lk) : Prop := Blk w b 34 (cells x).toArray
section
variable {w w' : World} {b : Nat} {x : Lk}
theorem LkAt.below (h : LkAt w b x) (hb : Below w.heap.size w w') : LkAt w' b x := Blk.below h hb (Blk.lt h)
theorem LkAt.c0 (h : LkAt w b x) : w.cell? ⟨b, 0, none⟩ = some (.int .i64 x.op) := Blk.cell h 0
theorem LkAt.c1 (h : LkAt w b x) : w.cell? ⟨b, 1, none⟩ = some (.int .u64 (x.a : Int)) := Blk.cell h 1
theorem LkAt.c2 (h : LkAt w b x) : w.cell? ⟨b, 2, none⟩ = some (.int .u64 (x.n : Int)) := Blk.cell h 2
theorem LkAt.c3 (h : LkAt w b x) : w.cell? ⟨b, 3, none⟩ = some (.int .u16 (x.mode : Int)) := Blk.cell h 3
theorem LkAt.new (w : World) (o : Int) (a n m : Nat) : LkAt (w.alloc (.cells #[.int .i64 o, .int .u64 (a : Int), .int .u64 (n : Int), .int .u16 (m : Int)] 34)) w.heap.size ⟨o, a, n, m⟩ := Blk.new _ _ _
end
/-- A part that may be. -/
def Fit (x : Lk) : Prop := x.a + x.n ≤ M

theorem mode_beq (m : Nat) : ((m : Int) == 2) = decide (m = 2) := by
  rw [Bool.eq_iff_iff]
  simp only [beq_iff_eq, decide_eq_true_eq]
  omega

theorem hadc_any (w : World) (x y : Lk) (xb : Nat) (hx : LkAt w xb x) (hfx : Fit x) (hfy : Fit y) :
    Calls Try.prog 39 #[val y, .pointer (some ⟨xb, 0, none⟩)] w fun e w' => e = .returned (.bool (clashB x y)) ∧ Below w.heap.size w w' := by
  obtain ⟨xo, xa, xn, xm⟩ := x
  obtain ⟨yo, ya, yn, ym⟩ := y
  obtain ⟨r, hr⟩ : ∃ r, clashB ⟨xo, xa, xn, xm⟩ ⟨yo, ya, yn, ym⟩ = r := ⟨_, rfl⟩
  rw [hr]
  have HR := Lib.hid hr
  have HX := Lib.hid hx
  have hxb := Blk.lt hx
  have HB1 : Hid (Below w.heap.size w (w.alloc (.cells #[.int .i64 yo, .int .u64 (ya : Int), .int .u64 (yn : Int), .int .u16 (ym : Int)] 34))) := (Below.refl _ _).alloc (Nat.le_refl _) _
  have HX1 := Lib.hid (hx.below HB1.out)
  have HY1 := Lib.hid (LkAt.new w yo ya yn ym)
  have c1 := HX1.out.c1
  have c2 := HX1.out.c2
  clear hr hx
  unfold val
  go_enter Try.func39, Try.ntmps39
  go_wp2_with fail
  generalize w.alloc (.cells #[.int .i64 yo, .int .u64 (ya : Int), .int .u64 (yn : Int), .int .u16 (ym : Int)] 34) = w1 at *
  refine (meets_any w1 yo ya yn ym xa xn hfy hfx).mono ?_
  rintro e w2 ⟨rfl, hb2⟩
  have HB2 : Hid (Below w.heap.size w w2) := HB1.out.trans (hb2.mono HB1.out.size)
  have c3 := (HX1.out.below hb2).c3
  have y3 := (HY1.out.below hb2).c3
  clear hb2 c1 c2 HX1 HY1 HB1 hfx hfy
  dsimp only at c3 y3
  have HM := Lib.hid (show clashB ⟨xo, xa, xn, xm⟩ ⟨yo, ya, yn, ym⟩ = (meetB ya yn xa xn && (decide (xm = 2) || decide (ym = 2))) from rfl)
  generalize meetB ya yn xa xn = q at *
  cases q
  · have HR2 : Hid (false = r) := by show _ = _; rw [← HR.out, HM.out]; rfl
    go_wp2
    go_ret
    exact ⟨congrArg (fun q => Ending.returned (.bool q)) HR2.out, HB2.out⟩
  · by_cases h1 : xm = 2
    · have HR2 : Hid (true = r) := by show _ = _; rw [← HR.out, HM.out]; simp [h1]
      clear HR HM
      subst h1
      go_wp2
      go_ret
      exact ⟨congrArg (fun q => Ending.returned (.bool q)) HR2.out, HB2.out⟩
    · have HR2 : Hid (decide (ym = 2) = r) := by show _ = _; rw [← HR.out, HM.out]; simp [h1]
      have e1 : ((xm : Int) == 2) = false := by rw [mode_beq]; simpa using h1
      have e2 := mode_beq ym
      clear h1 HR HM
      go_wp2
      go_ret
      exact ⟨congrArg (fun q => Ending.returned (.bool q)) HR2.out, HB2.out⟩

theorem closec_any (w : World) (o : Int) (y : Lk) (b : Nat) (cb : w.cell? ⟨b, 0, none⟩ = some (.int .i64 o)) :
    Calls Try.prog 35 #[val y, .pointer (some ⟨b, 0, none⟩)] w fun e w' => e = .returned (.bool (decide (y.op = o))) ∧ Below w.heap.size w w' := by
  have hb : b < w.heap.size := World.block_lt_of_cell? w _ cb
  obtain ⟨yo, ya, yn, ym⟩ := y
  have hbe : (yo == o) = decide (yo = o) := by rw [Bool.eq_iff_iff]; simp
  unfold val
  go_enter Try.func35, Try.ntmps35
  go_wp2
  go_ret
  exact ⟨rfl, (Below.refl _ _).alloc (Nat.le_refl _) _⟩

/-- The first place at which p holds; -1: none. -/
def firstAt (p : Lk → Bool) (S : List Lk) : Int := match S.findIdx? p with | some i => (i : Int) | none => -1
theorem firstAt_hit {p : Lk → Bool} {S : List Lk} {k : Nat} {x : Lk} (hk : S[k]? = some x) (hp : p x = true) (hb : ∀ j y, j < k → S[j]? = some y → p y = false) : S.findIdx? p = some k := by
  obtain ⟨hl, he⟩ := List.getElem?_eq_some_iff.1 hk
  rw [List.findIdx?_eq_some_iff_getElem]
  refine ⟨hl, by rw [he]; exact hp, fun j hj => ?_⟩
  have := hb j (S[j]'(by omega)) hj (List.getElem?_eq_getElem (by omega))
  simp [this]
theorem firstAt_miss {p : Lk → Bool} {S : List Lk} (hb : ∀ j y, j < S.length → S[j]? = some y → p y = false) : S.findIdx? p = none := by
  rw [List.findIdx?_eq_none_iff]
  intro x hx
  obtain ⟨j, hj, he⟩ := List.mem_iff_getElem.1 hx
  exact hb j x hj (by rw [← he]; exact List.getElem?_eq_getElem hj)

/-- slices.IndexFunc over a row, with a closure that reads. -/
theorem index_any (w : World) (B : Nat) (ao : Option Addr) (cap : Nat) (S : List Lk) (f b : Nat) (p : Lk → Bool) (hr : Row B w 34 4 ao S.length cap (flat S)) (hS : S.length ≤ 100000) (hf : f = 39 ∨ f = 35)
    (hcl : ∀ W y, Below w.heap.size w W → y ∈ S → Calls Try.prog f #[val y, .pointer (some ⟨b, 0, none⟩)] W fun e W' => e = .returned (.bool (p y)) ∧ Below W.heap.size W W') :
    Calls Try.prog 40 #[.slice ao S.length cap, .func (Fn.func f) #[] #[.pointer (some ⟨b, 0, none⟩)]] w fun e w' => e = .returned (.int .i64 (firstAt p S)) ∧ Below w.heap.size w w' := by
  obtain ⟨r, hr0⟩ : ∃ r, firstAt p S = r := ⟨_, rfl⟩
  rw [hr0]
  have HR0 := Lib.hid hr0
  have HR := Lib.hid hr
  have HC := Lib.hid hcl
  clear hr0 hr hcl
  rcases hf with rfl | rfl
  all_goals
    go_enter Try.func40, Try.ntmps40
    go_wp2_with fail
    go_loopw [4, 5, 8] (fun _ _ s wr => ∃ k : Nat, k ≤ S.length ∧ s = .int .i64 k ∧ Hid (Below w.heap.size w wr) ∧ Hid (∀ j y, j < k → S[j]? = some y → p y = false)) (fun _ _ s _ => S.length - (intOf s).toNat)
    case atStart => exact ⟨0, Nat.zero_le _, rfl, Below.refl _ _, fun j y hj => absurd hj (Nat.not_lt_zero _)⟩
    case round =>
      obtain ⟨k, hk, rfl, hb, hno⟩ := hrel
      by_cases hlt : k < S.length
      · obtain ⟨g, rfl⟩ := HR.out.form (by omega)
        have hk2 : S[k]? = some S[k] := List.getElem?_eq_getElem hlt
        have hmem : S[k] ∈ S := List.getElem_mem hlt
        obtain ⟨d0, d1, d2, d3⟩ := row_cells (HR.out.fr (Fr.of_below (T := none0) hb.out) (fun _ _ h => h)) hk2
        have HK := Lib.hid hk2
        have HCk := Lib.hid (HC.out wr S[k] hb.out hmem)
        clear hk2 hmem
        generalize S[k] = y at *
        obtain ⟨yo, ya, yn, ym⟩ := y
        dsimp only at d0 d1 d2 d3
        go_wp2_with fail
        refine HCk.out.mono ?_
        rintro e w2 ⟨rfl, hb2⟩
        have HB2 : Hid (Below w.heap.size w w2) := hb.out.trans (hb2.mono hb.out.size)
        clear hb2 d0 d1 d2 d3
        cases hq : p ⟨yo, ya, yn, ym⟩
        · have hno2 : Hid (∀ j y, j < k + 1 → S[j]? = some y → p y = false) := fun j y hj hj' => by
            rcases Nat.lt_succ_iff_lt_or_eq.1 hj with h | h
            · exact hno.out j y h hj'
            · subst h; rw [HK.out] at hj'; injection hj' with hj'; subst hj'; exact hq
          clear HK hno hq HCk
          go_wp2_with fail
          go_roundw
          case rel => exact ⟨k + 1, by omega, by go_num, HB2.out, hno2.out⟩
          case measure => simp [intOf]; omega
        · have HK0 : Hid ((k : Int) = r) := by
            show _ = _
            rw [← HR0.out]; unfold firstAt; rw [firstAt_hit HK.out hq hno.out]
          clear HK hno hq HCk
          go_wp2_with fail
          go_ret
          exact ⟨congrArg (fun q => Ending.returned (.int .i64 q)) HK0.out, HB2.out⟩
      · have hke : k = S.length := by omega
        have HK0 : Hid ((-1 : Int) = r) := by
          show _ = _
          rw [← HR0.out]; unfold firstAt; rw [firstAt_miss (fun j y hj => hno.out j y (by omega))]
        clear hno
        go_wp2_with fail
        go_ret
        exact ⟨congrArg (fun q => Ending.returned (.int .i64 q)) HK0.out, hb.out⟩
end Go.Proofs.Ytgcimkbggnjcdaa
