/- Contracts of the document's Links, Link and Cut, by walks. -/
import Derived.Test.YtmgdbilmfialkaaW14
import Derived.StillTailTactics
namespace Go.Proofs.Ytmgdbilmfialkaa
open Go.RowKit Go.WideShapes Go.Maps
attribute [local go_sem ↓] Go.wp_at_zero Go.wp_at_succ

theorem inf74 : (Try.prog.info? 74).map (fun i => (i.zero, i.size, i.bytes)) = some (some (.agg #[.int .i64 0, .slice none 0 0, .slice none 0 0]), 3, 56) := by kernel_rfl
theorem zero74 (w : World) : (zeroValue 74).run Try.prog w = .ok (.agg #[.int .i64 0, .slice none 0 0, .slice none 0 0]) w := by kernel_rfl

set_option maxHeartbeats 2000000 in
theorem rlinks_any (B : Nat) (w : World) (rb : Nat) (last : Int) (A : List Ab) (own : Own) (h : RefA B w rb last A own) :
    Calls Try.prog 33 #[.pointer (some ⟨rb, 0, none⟩)] w fun e w' => ∃ ro rc, e = .returned (.slice ro A.length rc) ∧ Row w.heap.size w' 3 1 ro A.length rc (ints (linksR A)) ∧ Below w.heap.size w w' := by
  obtain ⟨M, lo, lc, rfl, h⟩ := h
  have HROW := Lib.hid h.row
  have c1 := h.c1
  have hlen := h.len
  have hrl := h.blk.lt
  have HLK : Hid (linksR (M.map Ln.ab) = M.map (·.k)) := by show _ = _; unfold linksR; rw [List.map_map]; rfl
  obtain ⟨i0, hi, hz0, hz1, hz2⟩ := info_parts inf3
  rw [List.length_map]
  clear h
  go_enter Try.func33, Try.ntmps33
  go_wp2_with fail
  go_loopw [3, 4] (fun s3 s4 wr => ∃ (i : Nat) (qo : Option Addr) (qc : Nat), i ≤ M.length ∧ s4 = .int .i64 i ∧ s3 = .slice qo i qc ∧ Hid (Row w.heap.size wr 3 1 qo i qc (ints ((M.map (·.k)).take i))) ∧ Hid (Below w.heap.size w wr)) (fun _ s4 _ => M.length - (intOf s4).toNat)
  case atStart => exact ⟨0, none, 0, Nat.zero_le _, rfl, rfl, Row.nil _ _ _ _, Below.refl _ _⟩
  case round =>
    obtain ⟨i, qo, qc, hi1, rfl, rfl, hrow, hbl⟩ := hrel
    have c1' : wr.cell? ⟨rb, 1, none⟩ = some (.slice lo M.length lc) := (hbl.out.cell (p := ⟨rb, 1, none⟩) hrl).trans c1
    by_cases hlt : i < M.length
    · obtain ⟨g, rfl⟩ := HROW.out.form (by omega)
      have hgl : g < w.heap.size := HROW.out.lt
      have hi2 : M[i]? = some M[i] := List.getElem?_eq_getElem hlt
      obtain ⟨d0, _, _⟩ := row3_cells HROW.out hi2
      have d0' : wr.cell? ⟨g, i * 3, none⟩ = some (.int .i64 M[i].k) := (hbl.out.cell (p := ⟨g, i * 3, none⟩) hgl).trans d0
      have HTK : Hid (ints ((M.map (·.k)).take i) ++ [.int .i64 M[i].k] = ints ((M.map (·.k)).take (i + 1))) := by
        show _ = _
        rw [List.take_add_one, List.getElem?_map, hi2]; unfold ints; rw [List.map_append]; rfl
      clear hi2 d0
      generalize M[i] = y at *
      obtain ⟨z, hz⟩ : ∃ z, y.k = z := ⟨_, rfl⟩
      rw [hz] at d0' HTK
      clear hz
      have hal : Below w.heap.size wr (wr.alloc (.cells #[.int .i64 z] 3)) := (Below.refl _ _).alloc hbl.out.size _
      have HB4 : Hid (Below w.heap.size w (wr.alloc (.cells #[.int .i64 z] 3))) := hbl.out.trans hal
      have HR4 : Hid (Row w.heap.size (wr.alloc (.cells #[.int .i64 z] 3)) 3 1 qo i qc (ints ((M.map (·.k)).take i))) := hrow.out.fr ((Fr.refl none0 wr).alloc _) (fun _ _ h => h)
      have HS4 : Hid (Src (wr.alloc (.cells #[.int .i64 z] 3)) 1 (some ⟨wr.heap.size, 0, none⟩) 1 [.int .i64 z]) := by
        refine ⟨rfl, fun j u hj => ⟨wr.heap.size, 0, rfl, by simp, ?_⟩⟩
        rw [Nat.zero_add, (Blk.new wr 3 #[.int .i64 z]).cell j]
        simpa using hj
      have hws : w.heap.size ≤ wr.heap.size + 1 := by have := hbl.out.size; omega
      clear hal
      go_wp2_with (at_builtin; refine wpList_append_src _ rfl (.tmp 14) (.tmp 23) 23 rfl w.heap.size 3 i0 _ 1 8 Try.underlying23 hi hz0 hz1 hz2 rfl (by decide) qo i qc (ints ((M.map (·.k)).take i)) rfl HR4.out (some ⟨wr.heap.size, 0, none⟩) 1 1 [.int .i64 z] rfl HS4.out (by intro u hu; simp at hu; subst hu; rfl) ?_ ?_ ?_ ?_)
      · unfold maxLen; omega
      · omega
      intro lo' lc' w5 hr5 hf5 _
      rw [HTK.out] at hr5
      have HR5 := Lib.hid hr5
      have HB5 : Hid (Below w.heap.size w w5) := ((Fr.of_below (T := none0) HB4.out).rowed HR4.out (Nat.le_refl _) hf5).below (Nat.le_refl _) (fun _ h => h.elim)
      clear hr5 hf5
      go_wp2_with fail
      go_roundw
      case rel => exact ⟨i + 1, lo', lc', by omega, by go_num, by go_num, HR5.out, HB5.out⟩
      case measure => simp [intOf]; omega
    · have e : i = M.length := by omega
      subst e
      have HF : Hid (Row w.heap.size wr 3 1 qo M.length qc (ints (linksR (M.map Ln.ab)))) := by rw [HLK.out]; have := hrow.out; rw [List.take_of_length_le (by simp)] at this; exact this
      clear hrow
      go_wp2_with fail
      go_ret
      exact ⟨qo, qc, rfl, HF.out, hbl.out⟩

theorem flat3_append (M N : List Ln) : flat3 (M ++ N) = flat3 M ++ flat3 N := List.flatMap_append
theorem RefAt.add {B : Nat} {w w1 w2 : World} {rb : Nat} {last : Int} {M : List Ln} {lo : Option Addr} {lc : Nat} {own : Own} {qo : Option Addr} {qc : Nat} (h : RefAt B w rb last M lo lc own) (hl : M.length < 64) (hlast : last < 1000000)
    (h1 : Fr none0 (w.setCell ⟨rb, 0, none⟩ (.int .i64 (last + 1))) w1) (hf : Fr (rowOf lo) w1 w2) (hr : Row B w2 74 3 qo (M.length + 1) qc (flat3 M ++ [.int .i64 (last + 1), .slice none 0 0, .slice none 0 0])) (hlies : ∀ k, rowOf qo k → rowOf lo k ∨ w.heap.size ≤ k) :
    RefAt B (w2.setCell ⟨rb, 1, none⟩ (.slice qo (M.length + 1) qc)) rb (last + 1) (M ++ [⟨last + 1, 0, none, 0, [], none, 0, []⟩]) qo qc (mark own w.heap.size (0, 4)) ∧ Fr (FR own) w (w2.setCell ⟨rb, 1, none⟩ (.slice qo (M.length + 1) qc)) := by
  have hset : Fr (fun j => j = rb) w (w.setCell ⟨rb, 0, none⟩ (.int .i64 (last + 1))) := (Fr.refl (fun j => j = rb) w).setCell (p := ⟨rb, 0, none⟩) (fun _ => rfl) _
  have hf1 : Fr (fun j => j = rb) w w1 := hset.trans h1 (fun _ _ h => h.elim)
  have hset2 : Fr (fun j => j = rb) w2 (w2.setCell ⟨rb, 1, none⟩ (.slice qo (M.length + 1) qc)) := (Fr.refl (fun j => j = rb) w2).setCell (p := ⟨rb, 1, none⟩) (fun _ => rfl) _
  have hall : Fr (fun j => j = rb ∨ rowOf lo j) w (w2.setCell ⟨rb, 1, none⟩ (.slice qo (M.length + 1) qc)) := ((hf1.mono (fun _ _ e => Or.inl e)).trans hf (fun _ _ e => Or.inr e)).trans hset2 (fun _ _ e => Or.inl e)
  have hmk : ∀ i, i < w.heap.size → mark own w.heap.size (0, 4) i = own i := mark_old _ _ _
  have hrl := h.blk.lt
  have hnr : ¬ rowOf lo rb := fun e => row_ne h.row h.blk (by decide) rb e rfl
  have hb1 : Blk w1 rb 63 #[.int .i64 (last + 1), .slice lo M.length lc] := (h.blk.set_ 0 _).fr h1 (fun h => h)
  have hb2 := (hb1.fr hf hnr).set_ 1 (.slice qo (M.length + 1) qc)
  have hlen1 : (M ++ [(⟨last + 1, 0, none, 0, [], none, 0, []⟩ : Ln)]).length = M.length + 1 := by simp
  have hnq : ∀ k, rowOf qo k → ¬ k = rb := by
    intro k hk e
    rcases hlies k hk with h2 | h2
    · subst e; exact hnr h2
    · omega
  refine ⟨⟨h.low, ?_, ?_, ?_, ?_, ?_, by rw [hlen1]; omega, by have := h.last0; omega, by omega, (hmk _ hrl).trans h.orb, ?_⟩, ?_⟩
  · rw [hlen1]; exact hb2
  · rw [hlen1, flat3_append]
    exact hr.fr hset2 (fun k hk => hnq k hk)
  · intro x hx
    rcases List.mem_append.1 hx with hx | hx
    · have hr := h.rng x hx
      refine ((h.each x hx).relabel hmk).fr hall ?_
      rintro i hi hq hz
      have e : own i = (0, 3) ∨ own i = (0, 4) := by
        rcases hq with rfl | hq
        · exact Or.inl h.orb
        · exact Or.inr (h.orow i hq)
      rw [hmk _ hi] at hz
      rcases e with e | e <;> rw [e] at hz <;> rcases hz with hz | hz <;> (injection hz with hz _; omega)
    · rw [List.mem_singleton.1 hx]
      exact ⟨Row.nil _ _ _ _, Row.nil _ _ _ _, AllB.nil, AllB.nil, by simp, by simp, (fun i hi => by obtain ⟨a, ha, _⟩ := hi; cases ha), (fun i hi => by obtain ⟨a, ha, _⟩ := hi; cases ha)⟩
  · refine List.pairwise_append.2 ⟨h.asc, List.pairwise_singleton _ _, fun a ha b hb => ?_⟩
    rw [List.mem_singleton.1 hb]
    have := (h.rng a ha).2
    show a.k < last + 1
    omega
  · intro x hx
    rcases List.mem_append.1 hx with hx | hx
    · have := h.rng x hx; omega
    · rw [List.mem_singleton.1 hx]
      have := h.last0
      exact ⟨by show 1 ≤ last + 1; omega, Int.le_refl _⟩
  · intro k hk
    rcases hlies k hk with h2 | h2
    · rw [hmk k (row_lt h.row k h2)]; exact h.orow k h2
    · exact mark_new _ _ _ h2
  · refine hall.mono ?_
    rintro i hi hq
    have e : own i = (0, 3) ∨ own i = (0, 4) := by
      rcases hq with rfl | hq
      · exact Or.inl h.orb
      · exact Or.inr (h.orow i hq)
    show 3 ≤ (own i).2 ∧ (own i).2 ≤ 4
    rcases e with e | e <;> rw [e] <;> simp

set_option maxRecDepth 100000 in
set_option maxHeartbeats 8000000 in
theorem rlink_any (B : Nat) (w : World) (rb : Nat) (last : Int) (A : List Ab) (own : Own) (h : RefA B w rb last A own) (hB : B ≤ w.heap.size) (hlast : last < 1000000) :
    Calls Try.prog 29 #[.pointer (some ⟨rb, 0, none⟩)] w fun e w' => e = .returned (.tuple #[.int .i64 (linkR A last).1, .int .i64 (linkR A last).2.1]) ∧ AftR B rb (linkR A last).2.2.1 (linkR A last).2.2.2 own w w' := by
  have HA : Hid (AftR B rb last A own w w) := h.aft (Below.refl _ _)
  obtain ⟨M, lo, lc, rfl, h⟩ := h
  have H := Lib.hid h
  have c0 := h.c0
  have c1 := h.c1
  have l0 := h.last0
  unfold linkR
  rw [List.length_map]
  by_cases hful : 64 ≤ M.length
  · rw [if_pos hful]
    clear h
    go_enter Try.func29, Try.ntmps29
    go_wp2_with fail
    go_ret2
    exact ⟨rfl, HA.out⟩
  · rw [if_neg hful]
    have hful2 : M.length < 64 := by omega
    have HFUL := Lib.hid hful2
    have f0 := h.blk.frozen 0
    have hrl := h.blk.lt
    have g0 : (w.setCell ⟨rb, 0, none⟩ (.int .i64 (last + 1))).cell? ⟨rb, 0, none⟩ = some (.int .i64 (last + 1)) := (H.out.blk.set_ 0 _).cell 0
    have g1 : (w.setCell ⟨rb, 0, none⟩ (.int .i64 (last + 1))).cell? ⟨rb, 1, none⟩ = some (.slice lo M.length lc) := (H.out.blk.set_ 0 _).cell 1
    have hs1 : (w.setCell ⟨rb, 0, none⟩ (.int .i64 (last + 1))).heap.size = w.heap.size := by simp [World.setCell]
    have HROW3 : Hid (Row B (w.setCell ⟨rb, 0, none⟩ (.int .i64 (last + 1))) 74 3 lo M.length lc (flat3 M)) := h.row.fr ((Fr.refl (fun j => j = rb) w).setCell (p := ⟨rb, 0, none⟩) (fun _ => rfl) _) (fun k hk e => row_ne h.row h.blk (by decide) k hk e)
    obtain ⟨i0, hi0, hz0, hz1, hz2⟩ := info_parts inf74
    have hz74 := zero74
    have HADD : Hid (∀ w1 w2 qo qc, Fr none0 (w.setCell ⟨rb, 0, none⟩ (.int .i64 (last + 1))) w1 → Fr (rowOf lo) w1 w2 → Row B w2 74 3 qo (M.length + 1) qc (flat3 M ++ [.int .i64 (last + 1), .slice none 0 0, .slice none 0 0]) → (∀ k, rowOf qo k → rowOf lo k ∨ w.heap.size ≤ k) →
        w2.cell? ⟨rb, 1, none⟩ = some (.slice lo M.length lc) ∧ w2.frozen? ⟨rb, 1, none⟩ = false ∧ w2.cell? ⟨rb, 0, none⟩ = some (.int .i64 (last + 1)) ∧ (w2.setCell ⟨rb, 1, none⟩ (.slice qo (M.length + 1) qc)).cell? ⟨rb, 0, none⟩ = some (.int .i64 (last + 1)) ∧
        AftR B rb (last + 1) (M.map Ln.ab ++ [⟨last + 1, [], []⟩]) own w (w2.setCell ⟨rb, 1, none⟩ (.slice qo (M.length + 1) qc))) := by
      intro w1 w2 qo qc h1 hf hr hlies
      obtain ⟨p1, p2⟩ := H.out.add HFUL.out hlast h1 hf hr hlies
      have hnr : ¬ rowOf lo rb := fun e => row_ne H.out.row H.out.blk (by decide) rb e rfl
      have hb : Blk w2 rb 63 #[.int .i64 (last + 1), .slice lo M.length lc] := ((H.out.blk.set_ 0 _).fr h1 (fun h => h)).fr hf hnr
      exact ⟨hb.cell 1, hb.frozen 1, hb.cell 0, p1.c0, _, ⟨_, _, _, by rw [List.map_append]; rfl, p1⟩, p2, mark_old _ _ _⟩
    go_enter Try.func29, Try.ntmps29
    clear h
    go_wp2_with fail
    generalize hw3 : w.setCell ⟨rb, 0, none⟩ (.int .i64 (last + 1)) = w3 at *
    have HW3 : Hid (w3.heap.size = w.heap.size) := hs1
    have hB3 : B ≤ w3.heap.size := by omega
    clear hw3 hs1
    have HRW : Hid (Row B (w3.drew.alloc (.cells #[.int .i64 (last + 1), .slice none 0 0, .slice none 0 0] 74)) 74 3 lo M.length lc (flat3 M)) := HROW3.out.fr (((Fr.refl none0 w3).drew).alloc _) (fun _ _ h => h)
    have HFW : Hid (Fr none0 w3 (w3.drew.alloc (.cells #[.int .i64 (last + 1), .slice none 0 0, .slice none 0 0] 74))) := ((Fr.refl none0 w3).drew).alloc _
    have HS4 : Hid (Src (w3.drew.alloc (.cells #[.int .i64 (last + 1), .slice none 0 0, .slice none 0 0] 74)) 3 (some ⟨w3.heap.size, 0, none⟩) 1 [.int .i64 (last + 1), .slice none 0 0, .slice none 0 0]) := by
      refine ⟨rfl, fun j u hj => ⟨w3.heap.size, 0, rfl, by simp, ?_⟩⟩
      rw [Nat.zero_add]
      refine ((Blk.new w3.drew 74 #[.int .i64 (last + 1), .slice none 0 0, .slice none 0 0]).cell j).trans ?_
      simpa using hj
    have k1 : (w3.alloc (.cells #[.int .i64 (last + 1), .slice none 0 0, .slice none 0 0] 74)).cell? ⟨rb, 1, none⟩ = some (.slice lo M.length lc) := (((Below.refl w3.heap.size w3).alloc (Nat.le_refl _) _).cell (p := ⟨rb, 1, none⟩) (by have := HW3.out; show rb < _; omega)).trans g1
    have k0 : (w3.alloc (.cells #[.int .i64 (last + 1), .slice none 0 0, .slice none 0 0] 74)).cell? ⟨rb, 0, none⟩ = some (.int .i64 (last + 1)) := (((Below.refl w3.heap.size w3).alloc (Nat.le_refl _) _).cell (p := ⟨rb, 0, none⟩) (by have := HW3.out; show rb < _; omega)).trans g0
    have HB4 : Hid (B ≤ (w3.drew.alloc (.cells #[.int .i64 (last + 1), .slice none 0 0, .slice none 0 0] 74)).heap.size) := by
      show _ ≤ _
      simp; omega
    have HSZ : Hid ((w3.drew.alloc (.cells #[.int .i64 (last + 1), .slice none 0 0, .slice none 0 0] 74)).heap.size = w.heap.size + 1) := by
      show _ = _
      have := HW3.out
      simp; omega
    go_region_law (
      (refine step_append_src _ (by rfl) (.tmp 21) (.tmp 27) 61 (by rfl) B 74 i0 _ 3 56 Try.underlying61 hi0 hz0 hz1 hz2 rfl (by decide) lo M.length lc (flat3 M) (by rfl) ?_ (some ⟨w3.heap.size, 0, none⟩) 1 1 [.int .i64 (last + 1), .slice none 0 0, .slice none 0 0] (by rfl) HS4.out ?_ ?_ ?_ ?_ ?_
       · exact HRW.out
       · intro u hu; simp at hu; rcases hu with rfl | rfl | rfl <;> rfl
       · have := HFUL.out; unfold maxLen; omega
       · have := HFUL.out; omega
       · exact HB4.out
       intro qo qc w2 hr2 hf2 hl2
       obtain ⟨e1, e2, e3, e4, hp⟩ := HADD.out _ w2 qo qc HFW.out hf2 hr2 (fun k hk => (hl2 k hk).elim Or.inl (fun e => Or.inr (by have e2 : k = w.heap.size + 1 := e.trans HSZ.out; omega)))
       have HP := Lib.hid hp
       clear hr2 hf2 hl2 hp))
    all_goals
      go_wp2_with fail
      go_ret2
      exact ⟨rfl, HP.out⟩
end Go.Proofs.Ytmgdbilmfialkaa
