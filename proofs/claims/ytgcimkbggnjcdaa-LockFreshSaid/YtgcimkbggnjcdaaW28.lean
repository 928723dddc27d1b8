/- LockFresh, by a walk over the contracts. -/
import Derived.Test.YtgcimkbggnjcdaaW27
namespace Go.Proofs.Ytgcimkbggnjcdaa
open Go.RowKit Go.WideShapes

theorem Row.frFy {B C : Nat} {w w' : World} {ro : Option Addr} {n c : Nat} {xs : List Value} (h : Row B w 34 4 ro n c xs) (hC : C ≤ B) (hw : C ≤ w.heap.size) (hf : Fr (rowOf ro) w w') : Below C w w' := by
  refine ⟨hf.os, hf.tape, hf.output, hf.size, fun k hk => hf.block k (Nat.lt_of_lt_of_le hk hw) ?_⟩
  intro hk2
  have := (h.tag k (Nat.lt_of_lt_of_le hk hw) hk2).1
  omega

set_option maxHeartbeats 4000000 in
theorem LockFresh_walk (ao : Option Addr) (n c : Nat) (A : Nat → ActV) (op : Int) (mo : Option Addr) (mn mc : Nat) (L : Nat → Lk) (w : World) (hA : Acts w ao n A) (hn : n ≤ 9223372036854775807) (_ : -9223372036854775808 ≤ op) (_ : op ≤ 9223372036854775807) (hL : Lks w mo mn L) (_ : mn ≤ 9223372036854775807) (hmn : mn * 32 ≤ 140737488351232) (h0 : mo = none → mn = 0 ∧ mc = 0) :
    Calls Try.prog 7 #[.slice ao n c, .int .i64 op, .slice mo mn mc] w fun e w' => e = .returned (.bool true) ∧ Below w.heap.size w w' := by
  have HL := Lib.hid hL
  have H0 := Lib.hid h0
  clear hL h0
  go_enter Try.func7, Try.ntmps7
  go_wp2_with fail
  refine (played_any w ao n c A hA hn).mono ?_
  rintro e w1 ⟨pb, rb, S, qo, qc, bo, d, rfl, hh, hi, hb⟩
  have HB1 := Lib.hid hb
  have HH1 := Lib.hid hh
  clear hb hh hA hi
  go_wp2_with fail
  refine (copy_in w1 mo mn mc L (HL.out.below (Nat.le_refl _) HB1.out) (by omega) H0.out).mono ?_
  rintro e w2 ⟨ro, rc, rfl, hr2, hb2⟩
  have HB2 : Hid (Below w.heap.size w w2) := HB1.out.trans (hb2.mono HB1.out.size)
  have HH2 := Lib.hid (HH1.out.below hb2)
  have HR2 := Lib.hid hr2
  have HA2 := Lib.hid (ap_first HH1.out.t hr2)
  have HE2 : Hid (∀ k, rowOf ro k → ¬ (k = rb ∨ rowOf bo k)) := by
    rintro k hk (e | e)
    · have h1 := HH1.out.r.blk.lt
      have := (hr2.tag k (by obtain ⟨a, rfl, rfl⟩ := hk; exact hr2.lt) hk).1
      omega
    · have h1 : k < w1.heap.size := by obtain ⟨a, rfl, rfl⟩ := e; exact HH1.out.r.row.lt
      have := (hr2.tag k (by obtain ⟨a, rfl, rfl⟩ := hk; exact hr2.lt) hk).1
      omega
  clear hr2 hb2
  obtain ⟨z, hz⟩ : ∃ z : Int, (takeR S op L mn).1 = z := ⟨_, rfl⟩
  obtain ⟨S2, hS2⟩ : ∃ S2, (takeR S op L mn).2 = S2 := ⟨_, rfl⟩
  have HZ := Lib.hid hz
  have HS2 := Lib.hid hS2
  clear hz hS2
  go_wp2_with fail
  refine (take_any w.heap.size w2 pb S qo qc op ro mn rc L HH2.out.t HB2.out.size (fun W hf => lks_row (HR2.out.fr hf HA2.out)) (by omega)).mono ?_
  unfold TakePost
  rw [HZ.out, HS2.out]
  rintro e w3 ⟨rfl, hnow⟩
  obtain ⟨qo3, qc3, ht3, hf3, hs3⟩ := hnow
  have HR3 : Hid (Row w1.heap.size w3 34 4 ro mn rc (flat (listOf L mn))) := HR2.out.fr hf3 HA2.out
  have HA3 := Lib.hid (HA2.out.next HR2.out hs3)
  have HB3 : Hid (Below w.heap.size w w3) := HB2.out.trans (HH2.out.t.frB hf3 HB2.out.size)
  obtain ⟨qx, qy, hbo3, _⟩ := HH2.out.t_step ⟨qo3, qc3, ht3, hf3, hs3⟩
  have HR3r := Lib.hid hbo3.r
  have HT3 := Lib.hid ht3
  have HAP3 : Hid (∀ k, rowOf qo3 k → ¬ rowOf bo k) := by
    intro k hk hk2
    rcases hs3 k hk with e | e
    · exact HH2.out.ap k e hk2
    · have : k < w2.heap.size := by obtain ⟨a, rfl, rfl⟩ := hk2; exact HH2.out.r.row.lt
      omega
  clear ht3 hf3 hs3 hbo3
  have HBo3 : Hid (Bo w.heap.size w3 pb S2 qo3 qc3 rb S bo d) := ⟨HT3.out, HR3r.out, HAP3.out⟩
  go_wp2_with fail
  refine (rtake_any w.heap.size w3 rb S bo d op mo mn mc L HBo3.out.r HB3.out.size (fun W hf => HL.out.below (Nat.le_refl _) (HB3.out.trans (HBo3.out.r.frB hf HB3.out.size))) (by omega)).mono ?_
  rw [HZ.out, HS2.out]
  rintro e w4 ⟨rfl, bo4, d4, hr4, hf4, hs4⟩
  have HR4 : Hid (Row w1.heap.size w4 34 4 ro mn rc (flat (listOf L mn))) := HR3.out.fr hf4 (fun k hk e => HE2.out k hk (Or.inl e))
  have HE4 : Hid (∀ k, rowOf ro k → ¬ (k = rb ∨ rowOf bo4 k)) := by
    rintro k hk (e | e)
    · exact HE2.out k hk (Or.inl e)
    · rcases hs4 k e with e | e
      · exact HE2.out k hk (Or.inr e)
      · obtain ⟨a, rfl, rfl⟩ := hk
        have := HR3.out.lt
        omega
  have HB4 : Hid (Below w.heap.size w w4) := HB3.out.trans (HBo3.out.r.frB hf4 HB3.out.size)
  have HBo4 : Hid (Bo w.heap.size w4 pb S2 qo3 qc3 rb S2 bo4 d4) := by
    refine ⟨HT3.out.fr hf4 (Blk.ne_ HT3.out.blk HR3r.out.blk (by decide)) (row_ne HT3.out.row HR3r.out.blk (by decide)), hr4, ?_⟩
    intro k hk hk2
    rcases hs4 k hk2 with e | e
    · exact HAP3.out k hk e
    · obtain ⟨a, rfl, rfl⟩ := hk
      have := HT3.out.row.lt
      omega
  clear hr4 hf4 hs4 HR2 HR3 HA2 HE2 HR3r HAP3 HT3 HBo3
  go_wp2_with fail
  refine (locks_in _ w4 ro mo mn rc mc L HR4.out (HL.out.below (Nat.le_refl _) HB4.out) (by omega)).mono ?_
  rintro e w5 ⟨rfl, hb5⟩
  have HB5 : Hid (Below w.heap.size w w5) := HB4.out.trans (hb5.mono HB4.out.size)
  have HBo5 := Lib.hid (HBo4.out.below hb5)
  have HR5 : Hid (Row w1.heap.size w5 34 4 ro mn rc (flat (listOf L mn))) := HR4.out.fr (Fr.of_below (T := none0) hb5) (fun _ _ h => h)
  have hBw1 : w.heap.size ≤ w1.heap.size := HB1.out.size
  have hrc := HR5.out.le
  clear hb5
  go_wp2_with fail
  go_loopw [13] (fun s13 wr => ∃ (k : Nat) (xs : List Value), k ≤ mn ∧ s13 = .int .i64 k ∧ Hid (Fr (rowOf ro) w5 wr) ∧ Hid (Row w1.heap.size wr 34 4 ro mn rc xs)) (fun s _ => mn - (intOf s).toNat)
  case atStart => exact ⟨0, _, Nat.zero_le _, rfl, Fr.refl _ _, HR5.out⟩
  case round =>
    obtain ⟨k, xs, hk, rfl, hf, hr⟩ := hrel
    by_cases hlt : k < mn
    · obtain ⟨g, rfl⟩ := HR5.out.form (by omega)
      have hxl := hr.out.len
      have d0 : wr.cell? ⟨g, k * 4 + 3, none⟩ = some (xs[k * 4 + 3]'(by omega)) := (hr.out.cell (by omega)).trans (List.getElem?_eq_getElem _)
      have f0 := hr.out.frozen (k * 4 + 3)
      have HR6 := Lib.hid (hr.out.stored (k * 4 + 3) (.int .u16 9))
      have HF6 : Hid (Fr (rowOf (some ⟨g, 0, none⟩)) w5 (wr.setCell ⟨g, k * 4 + 3, none⟩ (.int .u16 9))) := hf.out.setCell (p := ⟨g, k * 4 + 3, none⟩) (fun _ => ⟨_, rfl, rfl⟩) _
      have i1 : (0 : Int) ≤ (k : Int) := by omega
      have i2 : (k : Int) < (mn : Int) := by omega
      go_wp2_with fail
      go_roundw
      case rel => exact ⟨k + 1, _, by omega, by go_num, HF6.out, HR6.out⟩
      case measure => simp [intOf]; omega
    · have HBo6 : Hid (Bo w.heap.size wr pb S2 qo3 qc3 rb S2 bo4 d4) :=
        ⟨HBo5.out.t.fr hf.out (fun h => HA3.out pb h (Or.inl rfl)) (fun k hk hk2 => HA3.out k hk2 (Or.inr hk)),
         HBo5.out.r.fr hf.out (fun h => HE4.out rb h (Or.inl rfl)) (fun k hk hk2 => HE4.out k hk2 (Or.inr hk)), HBo5.out.ap⟩
      have HB6 : Hid (Below w.heap.size w wr) := HB5.out.trans (HR5.out.frFy hBw1 HB5.out.size hf.out)
      have hS2 := HBo6.out.t.len
      clear hf hr
      go_wp2_with fail
      refine (all_any w.heap.size wr pb S2 qo3 qc3 HBo6.out.t).mono ?_
      rintro e w7 ⟨uo, uc, rfl, hr7, hb7⟩
      have HR7 := Lib.hid hr7
      have hrc7 := hr7.le
      have HBo7 := Lib.hid (HBo6.out.below hb7)
      have HB7 : Hid (Below w.heap.size w w7) := HB6.out.trans (hb7.mono HB6.out.size)
      have hsz7 := hb7.size
      have HUT : Hid (∀ k, rowOf uo k → wr.heap.size ≤ k) := fun k hk => (hr7.tag k (by obtain ⟨a, rfl, rfl⟩ := hk; exact hr7.lt) hk).1
      have HTT : Hid (∀ k, k = pb ∨ rowOf qo3 k ∨ k = rb ∨ rowOf bo4 k → k < wr.heap.size) := by
        rintro k (rfl | ⟨a, rfl, rfl⟩ | rfl | ⟨a, rfl, rfl⟩)
        · exact HBo6.out.t.blk.lt
        · exact HBo6.out.t.row.lt
        · exact HBo6.out.r.blk.lt
        · exact HBo6.out.r.row.lt
      clear hr7 hb7
      go_wp2_with fail
      generalize hwr : wr.heap.size = sz at *
      clear hwr
      go_loopw [15] (fun s15 wr => ∃ (k : Nat) (xs : List Value), k ≤ S2.length ∧ s15 = .int .i64 k ∧ Hid (Fr (rowOf uo) w7 wr) ∧ Hid (Row sz wr 34 4 uo S2.length uc xs)) (fun s _ => S2.length - (intOf s).toNat)
      case atStart => exact ⟨0, _, Nat.zero_le _, rfl, Fr.refl _ _, HR7.out⟩
      case round =>
        obtain ⟨k, xs, hk, rfl, hf, hr⟩ := hrel
        by_cases hlt : k < S2.length
        · obtain ⟨g, rfl⟩ := HR7.out.form (by omega)
          have hxl := hr.out.len
          have d0 : wr.cell? ⟨g, k * 4 + 3, none⟩ = some (xs[k * 4 + 3]'(by omega)) := (hr.out.cell (by omega)).trans (List.getElem?_eq_getElem _)
          have f0 := hr.out.frozen (k * 4 + 3)
          have HR8 := Lib.hid (hr.out.stored (k * 4 + 3) (.int .u16 9))
          have HF8 : Hid (Fr (rowOf (some ⟨g, 0, none⟩)) w7 (wr.setCell ⟨g, k * 4 + 3, none⟩ (.int .u16 9))) := hf.out.setCell (p := ⟨g, k * 4 + 3, none⟩) (fun _ => ⟨_, rfl, rfl⟩) _
          have i1 : (0 : Int) ≤ (k : Int) := by omega
          have i2 : (k : Int) < (S2.length : Int) := by omega
          go_wp2_with fail
          go_roundw
          case rel => exact ⟨k + 1, _, by omega, by go_num, HF8.out, HR8.out⟩
          case measure => simp [intOf]; omega
        · have HBo8 : Hid (Bo w.heap.size wr pb S2 qo3 qc3 rb S2 bo4 d4) := by
            have hno : ∀ k, (k = pb ∨ rowOf qo3 k ∨ k = rb ∨ rowOf bo4 k) → ¬ rowOf uo k := fun k h1 h2 => by
              have := HUT.out k h2
              have := HTT.out k h1
              omega
            exact ⟨HBo7.out.t.fr hf.out (hno pb (Or.inl rfl)) (fun k hk => hno k (Or.inr (Or.inl hk))),
              HBo7.out.r.fr hf.out (hno rb (Or.inr (Or.inr (Or.inl rfl)))) (fun k hk => hno k (Or.inr (Or.inr (Or.inr hk)))), HBo7.out.ap⟩
          have HB8 : Hid (Below w.heap.size w wr) := by
            refine HB7.out.trans (HR7.out.frFy ?_ HB7.out.size hf.out)
            have h1 := HTT.out pb (Or.inl rfl)
            have h2 := HBo7.out.t.low
            omega
          have HBd : Hid (Bo w.heap.size wr.drew pb S2 qo3 qc3 rb S2 bo4 d4) := HBo8.out.below (Below.refl _ _).drew
          have r0 := HBo8.out.r.c0
          clear hf hr
          go_wp2_with fail
          first
          | (go_region_held3 (fun w' => w'.cell? ⟨rb, 0, none⟩ = some (.slice bo4 S2.length d4)) (go_keep) (first
              | (go_at_call 13
                 refine (all_any w.heap.size wr.drew pb S2 qo3 qc3 HBd.out.t).mono ?_
                 rintro e w9 ⟨vo, vc, rfl, hr9, hb9⟩
                 have HR9 := Lib.hid hr9
                 have HBo9 := Lib.hid (HBd.out.below hb9)
                 have HB9 : Hid (Below w.heap.size w w9) := HB8.out.drew.trans (hb9.mono HB8.out.size)
                 have r1 := HBo9.out.r.c0
                 clear hr9 hb9)
              | (go_at_call 17
                 refine (locks_same _ _ w9 vo bo4 vc d4 S2 HR9.out HBo9.out.r.row (by omega)).mono ?_
                 rintro e w10 ⟨rfl, hb10⟩
                 have HBo10 := Lib.hid (HBo9.out.below hb10)
                 have HB10 : Hid (Below w.heap.size w w10) := HB9.out.trans (hb10.mono HB9.out.size)
                 have r2 := HBo10.out.r.c0
                 clear hb10)
              | (go_at_call 12
                 refine (works_any w10).mono ?_
                 rintro e w11 ⟨rfl, hb11⟩
                 have HBo11 := Lib.hid (HBo10.out.below hb11)
                 have HB11 : Hid (Below w.heap.size w w11) := HB10.out.trans (hb11.mono HB10.out.size)
                 have r3 := HBo11.out.r.c0
                 clear hb11)))
          | (fail "x")
          all_goals
            go_wp2_with fail
            go_ret
            exact ⟨rfl, HB11.out⟩

open Go.ChangeShapes Go.Deep in
theorem slice_none {H : Type} {enc : TypeId × Value → H} {P : Program} {w : World} {t e : TypeId} {n c : Nat} {d : DataW H} {p : List MemPlace} {ao : Option Addr} (ht : P.underlying t = some (.slice e)) (h : DataW.Trod enc P w 0 (fun _ => true) true t (.slice ao n c) d p) : ao = none → n = 0 ∧ c = 0 := by
  rintro rfl
  obtain ⟨fuel, hf⟩ := h
  rcases open_slice ht hf with ⟨h1, _⟩ | ⟨a, len, cap, m, k, D, Pl, hcs, _⟩
  · simpa [Value.cells] using h1
  · simp [Value.cells] at hcs
end Go.Proofs.Ytgcimkbggnjcdaa
