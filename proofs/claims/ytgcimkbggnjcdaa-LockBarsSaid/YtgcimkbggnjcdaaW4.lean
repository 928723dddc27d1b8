/- A table in memory; contracts of New, off, ContainsFunc, had (both), Clone, All, by walks. -/
import Derived.Test.YtgcimkbggnjcdaaW3
namespace Go.Proofs.Ytgcimkbggnjcdaa
open Go.RowKit

/-- What may stand in a table. -/
def Ok (x : Lk) : Prop := Fit x ∧ x.mode < 65536
/-- A TABLE: its block pb, its locks S. -/
structure Tb (B : Nat) (w : World) (pb : Nat) (S : List Lk) (ao : Option Addr) (cap : Nat) : Prop where
  low : B ≤ pb
  blk : Blk w pb 50 #[.bool true, .slice ao S.length cap]
  row : Row B w 34 4 ao S.length cap (flat S)
  ok : ∀ x ∈ S, Fit x
  len : S.length ≤ 64
/-- THE DOCUMENT's TABLE. -/
structure Rt (B : Nat) (w : World) (pb : Nat) (S : List Lk) (ao : Option Addr) (cap : Nat) : Prop where
  low : B ≤ pb
  blk : Blk w pb 44 #[.slice ao S.length cap]
  row : Row B w 34 4 ao S.length cap (flat S)
  ok : ∀ x ∈ S, Fit x
  len : S.length ≤ 64
section
variable {B : Nat} {w w' : World} {pb : Nat} {S : List Lk} {ao : Option Addr} {cap : Nat}
theorem Tb.fr {T : Nat → Prop} (h : Tb B w pb S ao cap) (hf : Fr T w w') (h1 : ¬ T pb) (h2 : ∀ k, rowOf ao k → ¬ T k) : Tb B w' pb S ao cap := ⟨h.low, h.blk.fr hf h1, h.row.fr hf h2, h.ok, h.len⟩
theorem Tb.below (h : Tb B w pb S ao cap) (hf : Below w.heap.size w w') : Tb B w' pb S ao cap := h.fr (Fr.of_below (T := none0) hf) (fun h => h) (fun _ _ h => h)
theorem Tb.c0 (h : Tb B w pb S ao cap) : w.cell? ⟨pb, 0, none⟩ = some (.bool true) := h.blk.cell 0
theorem Tb.c1 (h : Tb B w pb S ao cap) : w.cell? ⟨pb, 1, none⟩ = some (.slice ao S.length cap) := h.blk.cell 1
theorem Rt.fr {T : Nat → Prop} (h : Rt B w pb S ao cap) (hf : Fr T w w') (h1 : ¬ T pb) (h2 : ∀ k, rowOf ao k → ¬ T k) : Rt B w' pb S ao cap := ⟨h.low, h.blk.fr hf h1, h.row.fr hf h2, h.ok, h.len⟩
theorem Rt.below (h : Rt B w pb S ao cap) (hf : Below w.heap.size w w') : Rt B w' pb S ao cap := h.fr (Fr.of_below (T := none0) hf) (fun h => h) (fun _ _ h => h)
theorem Rt.c0 (h : Rt B w pb S ao cap) : w.cell? ⟨pb, 0, none⟩ = some (.slice ao S.length cap) := h.blk.cell 0
end

theorem off_any (w : World) (pb : Nat) (c0 : w.cell? ⟨pb, 0, none⟩ = some (.bool true)) : Calls Try.prog 26 #[.pointer (some ⟨pb, 0, none⟩)] w fun e w' => e = .returned (.bool false) ∧ w = w' := by
  go_enter Try.func26, Try.ntmps26
  go_wp2
  go_ret
  exact ⟨rfl, rfl⟩

theorem new_any (w : World) : Calls Try.prog 24 #[] w fun e w' => ∃ pb, e = .returned (.pointer (some ⟨pb, 0, none⟩)) ∧ Tb w.heap.size w' pb [] none 0 ∧ Below w.heap.size w w' := by
  go_enter Try.func24, Try.ntmps24
  go_wp2
  go_ret
  exact ⟨w.heap.size, rfl, ⟨Nat.le_refl _, Blk.new _ _ _, Row.nil _ _ _ _, by simp, by simp⟩, (Below.refl _ _).alloc (Nat.le_refl _) _⟩

theorem any_first (p : Lk → Bool) (S : List Lk) : decide ((0 : Int) ≤ firstAt p S) = S.any p := by
  unfold firstAt
  rw [Bool.eq_iff_iff, decide_eq_true_eq, List.any_eq_true]
  cases h : S.findIdx? p with
  | none =>
    rw [List.findIdx?_eq_none_iff] at h
    constructor
    · intro h1; change (0 : Int) ≤ -1 at h1; omega
    · rintro ⟨x, hx, hp⟩; rw [h x hx] at hp; cases hp
  | some k =>
    obtain ⟨hl, hp, _⟩ := List.findIdx?_eq_some_iff_getElem.1 h
    exact ⟨fun _ => ⟨S[k], List.getElem_mem hl, hp⟩, fun _ => by show (0 : Int) ≤ (k : Int); omega⟩

theorem contains_any (w : World) (B : Nat) (ao : Option Addr) (cap : Nat) (S : List Lk) (x : Lk) (b : Nat) (hr : Row B w 34 4 ao S.length cap (flat S)) (hS : S.length ≤ 100000) (hb : LkAt w b x) (hfx : Fit x) (hok : ∀ y ∈ S, Fit y) :
    Calls Try.prog 38 #[.slice ao S.length cap, .func (Fn.func 39) #[] #[.pointer (some ⟨b, 0, none⟩)]] w fun e w' => e = .returned (.bool (S.any (clashB x))) ∧ Below w.heap.size w w' := by
  have HI := Lib.hid (index_any w B ao cap S 39 b (clashB x) hr hS (Or.inl rfl) (fun W y hW hy => hadc_any W x y b (hb.below hW) hfx (hok y hy)))
  have HA := Lib.hid (any_first (clashB x) S)
  clear hr hb hfx hok
  generalize firstAt (clashB x) S = r at *
  go_enter Try.func38, Try.ntmps38
  go_wp2_with fail
  refine HI.out.mono ?_
  rintro e w2 ⟨rfl, hb2⟩
  go_wp2
  go_ret
  exact ⟨congrArg (fun q => Ending.returned (.bool q)) HA.out, hb2⟩

/-- Can x be had? -/
def hadB (x : Lk) (S : List Lk) : Bool := !(S.any (clashB x))
theorem had_any (B : Nat) (w : World) (pb : Nat) (S : List Lk) (ao : Option Addr) (cap : Nat) (x : Lk) (h : Tb B w pb S ao cap) (hfx : Fit x) :
    Calls Try.prog 30 #[.pointer (some ⟨pb, 0, none⟩), val x] w fun e w' => e = .returned (.bool (hadB x S)) ∧ Below w.heap.size w w' := by
  obtain ⟨xo, xa, xn, xm⟩ := x
  have HB1 : Hid (Below w.heap.size w (w.alloc (.cells #[.int .i64 xo, .int .u64 (xa : Int), .int .u64 (xn : Int), .int .u16 (xm : Int)] 34))) := (Below.refl _ _).alloc (Nat.le_refl _) _
  have HX1 := Lib.hid (LkAt.new w xo xa xn xm)
  have HT := Lib.hid (h.below HB1.out)
  have hlt := Blk.lt h.blk
  have c1 := HT.out.c1
  have hS := h.len
  unfold val hadB
  clear h
  generalize hq : S.any (clashB ⟨xo, xa, xn, xm⟩) = q
  have HQ := Lib.hid hq
  clear hq
  go_enter Try.func30, Try.ntmps30
  go_wp2_with fail
  generalize w.alloc (.cells #[.int .i64 xo, .int .u64 (xa : Int), .int .u64 (xn : Int), .int .u16 (xm : Int)] 34) = w1 at *
  refine (contains_any w1 B ao cap S ⟨xo, xa, xn, xm⟩ w.heap.size HT.out.row (by omega) HX1.out hfx HT.out.ok).mono ?_
  rw [HQ.out]
  rintro e w2 ⟨rfl, hb2⟩
  have HB2 := Lib.hid (HB1.out.trans (hb2.mono HB1.out.size))
  clear hb2
  go_wp2
  go_ret
  exact ⟨rfl, HB2.out⟩

theorem rhad_any (B : Nat) (w : World) (pb : Nat) (S : List Lk) (ao : Option Addr) (cap : Nat) (x : Lk) (h : Rt B w pb S ao cap) (hfx : Fit x) :
    Calls Try.prog 32 #[.pointer (some ⟨pb, 0, none⟩), val x] w fun e w' => e = .returned (.bool (hadB x S)) ∧ Below w.heap.size w w' := by
  obtain ⟨xo, xa, xn, xm⟩ := x
  have HB1 : Hid (Below w.heap.size w (w.alloc (.cells #[.int .i64 xo, .int .u64 (xa : Int), .int .u64 (xn : Int), .int .u16 (xm : Int)] 34))) := (Below.refl _ _).alloc (Nat.le_refl _) _
  have HX1 := Lib.hid (LkAt.new w xo xa xn xm)
  have HT := Lib.hid (h.below HB1.out)
  have hS := h.len
  unfold val
  clear h
  obtain ⟨r, hr0⟩ : ∃ r, hadB ⟨xo, xa, xn, xm⟩ S = r := ⟨_, rfl⟩
  rw [hr0]
  have HR0 := Lib.hid hr0
  clear hr0
  go_enter Try.func32, Try.ntmps32
  go_wp2_with fail
  generalize w.alloc (.cells #[.int .i64 xo, .int .u64 (xa : Int), .int .u64 (xn : Int), .int .u16 (xm : Int)] 34) = w1 at *
  go_loopw [4, 5, 6] (fun s4 s _ wr => ∃ k : Nat, k ≤ S.length ∧ s4 = .bool false ∧ s = .int .i64 k ∧ Hid (Below w1.heap.size w1 wr) ∧ Hid (∀ j y, j < k → S[j]? = some y → clashB ⟨xo, xa, xn, xm⟩ y = false)) (fun _ s _ _ => S.length - (intOf s).toNat)
  case atStart => exact ⟨0, Nat.zero_le _, rfl, rfl, Below.refl _ _, fun j y hj => absurd hj (Nat.not_lt_zero _)⟩
  case round =>
    obtain ⟨k, hk, rfl, rfl, hb, hno⟩ := hrel
    have HTr := Lib.hid (HT.out.below hb.out)
    have HXr := Lib.hid (HX1.out.below hb.out)
    have c0 := HTr.out.c0
    by_cases hlt : k < S.length
    · obtain ⟨g, rfl⟩ := HT.out.row.form (by omega)
      have hk2 : S[k]? = some S[k] := List.getElem?_eq_getElem hlt
      have hfy : Fit S[k] := HT.out.ok _ (List.getElem_mem hlt)
      obtain ⟨d0, d1, d2, d3⟩ := row_cells HTr.out.row hk2
      have HK := Lib.hid hk2
      clear hk2
      generalize S[k] = y at *
      obtain ⟨yo, ya, yn, ym⟩ := y
      dsimp only at d0 d1 d2 d3
      have hgs : g < wr.heap.size := World.block_lt_of_cell? wr _ d0
      have hxs : w.heap.size < wr.heap.size := Blk.lt HXr.out
      have x1 := HXr.out.c1
      have x2 := HXr.out.c2
      have HB2 : Hid (Below w1.heap.size w1 (wr.alloc (.cells #[.int .i64 yo, .int .u64 (ya : Int), .int .u64 (yn : Int), .int .u16 (ym : Int)] 34))) := hb.out.alloc hb.out.size _
      have HX2 := Lib.hid (HXr.out.below ((Below.refl _ _).alloc (Nat.le_refl _) (.cells #[.int .i64 yo, .int .u64 (ya : Int), .int .u64 (yn : Int), .int .u16 (ym : Int)] 34)))
      have HY2 := Lib.hid (LkAt.new wr yo ya yn ym)
      dsimp only at x1 x2
      go_wp2_with fail
      generalize wr.alloc (.cells #[.int .i64 yo, .int .u64 (ya : Int), .int .u64 (yn : Int), .int .u16 (ym : Int)] 34) = w2 at *
      refine (meet_any w2 xa xn ya yn hfx hfy).mono ?_
      rintro e w3 ⟨rfl, rfl⟩
      have m3 := HX2.out.c3
      have n3 := HY2.out.c3
      dsimp only at m3 n3
      have HM := Lib.hid (show clashB ⟨xo, xa, xn, xm⟩ ⟨yo, ya, yn, ym⟩ = (meetB xa xn ya yn && (decide (xm = 2) || decide (ym = 2))) from by unfold clashB; rw [meetB_comm])
      clear d0 d1 d2 d3 x1 x2 c0
      generalize meetB xa xn ya yn = q at *
      have next : clashB ⟨xo, xa, xn, xm⟩ ⟨yo, ya, yn, ym⟩ = false → ∀ j y, j < k + 1 → S[j]? = some y → clashB ⟨xo, xa, xn, xm⟩ y = false := fun hq j y hj hj' => by
        rcases Nat.lt_succ_iff_lt_or_eq.1 hj with h | h
        · exact hno.out j y h hj'
        · subst h; rw [HK.out] at hj'; injection hj' with hj'; subst hj'; exact hq
      have hit : clashB ⟨xo, xa, xn, xm⟩ ⟨yo, ya, yn, ym⟩ = true → false = r := fun hq => by
        rw [← HR0.out]; unfold hadB
        have : S.any (clashB ⟨xo, xa, xn, xm⟩) = true := List.any_eq_true.2 ⟨_, List.mem_of_getElem? HK.out, hq⟩
        rw [this]; rfl
      have HN := Lib.hid next
      have HH := Lib.hid hit
      clear next hit
      cases q
      · have HN2 := Lib.hid (HN.out (by rw [HM.out]; rfl))
        clear HN HH HM hno HK
        go_wp2_with fail
        go_roundw
        case rel => exact ⟨k + 1, by omega, rfl, by go_num, HB2.out, HN2.out⟩
        case measure => simp [intOf]; omega
      · by_cases h1 : xm = 2
        · have HH2 := Lib.hid (HH.out (by rw [HM.out]; simp [h1]))
          clear HN HH HM hno HK
          subst h1
          go_wp2_with fail
          go_ret
          exact ⟨congrArg (fun q => Ending.returned (.bool q)) HH2.out, HB1.out.trans (HB2.out.mono HB1.out.size)⟩
        · have e1 : ((xm : Int) == 2) = false := by rw [mode_beq]; simpa using h1
          by_cases h2 : ym = 2
          · have HH2 := Lib.hid (HH.out (by rw [HM.out]; simp [h2]))
            clear HN HH HM hno HK h1
            subst h2
            go_wp2_with fail
            go_ret
            exact ⟨congrArg (fun q => Ending.returned (.bool q)) HH2.out, HB1.out.trans (HB2.out.mono HB1.out.size)⟩
          · have e2 : ((ym : Int) == 2) = false := by rw [mode_beq]; simpa using h2
            have HN2 := Lib.hid (HN.out (by rw [HM.out]; simp [h1, h2]))
            clear HN HH HM hno HK h1 h2
            go_wp2_with fail
            go_roundw
            case rel => exact ⟨k + 1, by omega, rfl, by go_num, HB2.out, HN2.out⟩
            case measure => simp [intOf]; omega
    · have hke : k = S.length := by omega
      have HH2 : Hid (true = r) := by
        show _ = _
        rw [← HR0.out]; unfold hadB
        have : S.any (clashB ⟨xo, xa, xn, xm⟩) = false := by
          rw [List.any_eq_false]
          intro y hy
          obtain ⟨j, hj⟩ := List.mem_iff_getElem?.1 hy
          have hjl := (List.getElem?_eq_some_iff.1 hj).1
          simp [hno.out j y (by omega) hj]
        rw [this]; rfl
      clear hno
      go_wp2_with fail
      go_ret
      exact ⟨congrArg (fun q => Ending.returned (.bool q)) HH2.out, HB1.out.trans (hb.out.mono HB1.out.size)⟩
end Go.Proofs.Ytgcimkbggnjcdaa
