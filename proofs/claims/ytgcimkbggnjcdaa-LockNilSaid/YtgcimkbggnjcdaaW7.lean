/- Contract of the document's Take, by a walk. -/
import Derived.Test.YtgcimkbggnjcdaaW6
import Derived.Deep.RegionHeld3
namespace Go.Proofs.Ytgcimkbggnjcdaa
open Go.RowKit

theorem quiet_left {P : Program} {f : FuncId} {args : Array Value} {w : World} {n : Nat} {v : Value}
    (h : Calls P f args (w.drewN n) fun e w' => e = .returned v ∧ w.drewN n = w') : Calls P f args (w.drewN n) fun e w'' => e = .returned v ∧ ∃ m, w'' = w.drewN m :=
  h.mono fun _ _ ⟨he, hm⟩ => ⟨he, n, hm.symm⟩
theorem part_any (w : World) (a n : Nat) (r : Bool) (hr : mayB a n = r) : Calls Try.prog 31 #[.int .u64 (a : Int), .int .u64 (n : Int)] w fun e w' => e = .returned (.bool r) ∧ w = w' := by
  by_cases h1 : a ≤ M
  · have e1 : (a : Int) ≤ 4611686018427387904 := by unfold M at h1; omega
    have e1' : a ≤ 4611686018427387904 := h1
    have hw : IntKind.u64.wrap (4611686018427387904 - (a : Int)) = 4611686018427387904 - (a : Int) := by rw [IntWalk.u64_in _ (by omega)]
    by_cases h2 : n ≤ M - a
    · have e2 : (n : Int) ≤ 4611686018427387904 - (a : Int) := by unfold M at h2; omega
      have HR : Hid (true = r) := by show _ = _; rw [← hr]; unfold mayB; simp [h1, h2]
      clear hr h1 h2
      go_enter Try.func31, Try.ntmps31
      go_wp2
      go_ret
      exact ⟨congrArg (fun q => Ending.returned (.bool q)) HR.out, rfl⟩
    · have e2 : ¬ (n : Int) ≤ 4611686018427387904 - (a : Int) := by unfold M at h2; omega
      have HR : Hid (false = r) := by show _ = _; rw [← hr]; unfold mayB; simp [h1, h2]
      clear hr h1 h2
      go_enter Try.func31, Try.ntmps31
      go_wp2
      go_ret
      exact ⟨congrArg (fun q => Ending.returned (.bool q)) HR.out, rfl⟩
  · have e1 : ¬ (a : Int) ≤ 4611686018427387904 := by unfold M at h1; omega
    have HR : Hid (false = r) := by show _ = _; rw [← hr]; unfold mayB; simp [h1]
    clear hr h1
    go_enter Try.func31, Try.ntmps31
    go_wp2
    go_ret
    exact ⟨congrArg (fun q => Ending.returned (.bool q)) HR.out, rfl⟩

/-- The document's table's slice is stored anew. -/
theorem rput {B : Nat} {w : World} {pb : Nat} {S' : List Lk} {ao' : Option Addr} {cap' n : Nat} {v : Value} (hlow : B ≤ pb) (h : Blk w pb 44 #[v]) (hn : n = S'.length) (hr : Row B w 34 4 ao' S'.length cap' (flat S')) (hx : ∀ x ∈ S', Fit x) (hl : S'.length ≤ 64) :
    Fr (fun k => k = pb) w (w.setCell ⟨pb, 0, none⟩ (.slice ao' n cap')) ∧ Rt B (w.setCell ⟨pb, 0, none⟩ (.slice ao' n cap')) pb S' ao' cap' := by
  subst hn
  have hf : Fr (fun k => k = pb) w (w.setCell ⟨pb, 0, none⟩ (.slice ao' S'.length cap')) := (Fr.refl (fun k => k = pb) w).setCell (p := ⟨pb, 0, none⟩) (fun _ => rfl) _
  refine ⟨hf, hlow, h.set_ 0 _, hr.fr hf ?_, hx, hl⟩
  rintro k hk rfl
  obtain ⟨_, o, ho, ht⟩ := hr.tag k h.lt hk
  unfold Blk at h
  rw [h] at ho
  injection ho with ho
  subst ho
  cases ht
theorem Rt.apart {B : Nat} {w : World} {pb : Nat} {S : List Lk} {ao : Option Addr} {cap : Nat} (h : Rt B w pb S ao cap) : ¬ rowOf ao pb := by
  intro hk
  obtain ⟨_, o, ho, ht⟩ := h.row.tag pb h.blk.lt hk
  have := h.blk
  unfold Blk at this
  rw [this] at ho
  injection ho with ho
  subst ho
  cases ht
def RNow (B pb : Nat) (ao : Option Addr) (S' : List Lk) (w w' : World) : Prop := ∃ ao' cap', Rt B w' pb S' ao' cap' ∧ Fr (fun k => k = pb) w w' ∧ Sub ao' ao w.heap.size

set_option maxRecDepth 100000 in
set_option maxHeartbeats 4000000 in
theorem rtake_any (B : Nat) (w : World) (pb : Nat) (S : List Lk) (ao : Option Addr) (cap : Nat) (op : Int) (lo : Option Addr) (n lc : Nat) (L : Nat → Lk) (h : Rt B w pb S ao cap) (hB : B ≤ w.heap.size)
    (hL : ∀ W, Fr (fun k => k = pb) w W → Lks W lo n L) (hn : n ≤ 9223372036854775807) :
    Calls Try.prog 19 #[.pointer (some ⟨pb, 0, none⟩), .int .i64 op, .slice lo n lc] w fun e w' => e = .returned (.int .i64 (takeR S op L n).1) ∧ RNow B pb ao (takeR S op L n).2 w w' := by
  obtain ⟨r, hr0⟩ : ∃ r, takeR S op L n = r := ⟨_, rfl⟩
  rw [hr0]
  have HR0 := Lib.hid hr0
  have HT := Lib.hid h
  have HL := Lib.hid hL
  clear hr0 h hL
  go_enter Try.func19, Try.ntmps19
  go_wp2_with fail
  go_loopw [6, 7] (fun _ s wr => ∃ k : Nat, k ≤ n ∧ s = .int .i64 k ∧ Hid (Below w.heap.size w wr) ∧ Hid (∀ j, j < k → Good (L j))) (fun _ s _ => n - (intOf s).toNat)
  case atStart => exact ⟨0, Nat.zero_le _, rfl, Below.refl _ _, fun j hj => absurd hj (Nat.not_lt_zero _)⟩
  case round =>
    obtain ⟨k, hk, rfl, hb, hgd⟩ := hrel
    by_cases hlt : k < n
    · obtain ⟨b, o, rfl, hbl, d0, d1, d2, d3⟩ := HL.out wr (Fr.of_below hb.out) k hlt
      have HG : Hid (¬ Good (L k) → r = (2, S)) := fun hng => by
        rw [← HR0.out]; unfold takeR; rw [if_neg (fun hall => hng (hall k hlt))]
      have HN : Hid (Good (L k) → ∀ j, j < k + 1 → Good (L j)) := fun hg j hj => by
        rcases Nat.lt_succ_iff_lt_or_eq.1 hj with h | h
        · exact hgd.out j h
        · subst h; exact hg
      clear hgd
      generalize hLk : L k = x at *
      clear hLk
      obtain ⟨xo, xa, xn, xm⟩ := x
      dsimp only at d0 d1 d2 d3
      have HF : Hid (r = (2, S) → ∀ W, Below w.heap.size w W → Ending.returned (.int .i64 2) = Ending.returned (.int .i64 r.1) ∧ RNow B pb ao r.2 w W) := fun e W hW => by
        subst e
        exact ⟨rfl, ao, cap, HT.out.below hW, Fr.of_below hW, Sub.refl _ _⟩
      by_cases hm : xm = 1 ∨ xm = 2
      · by_cases hmay : mayB xa xn = true
        · have hg : Good ⟨xo, xa, xn, xm⟩ := ⟨hm, by unfold mayB at hmay; simpa using hmay⟩
          have HN2 := Lib.hid (HN.out hg)
          have HMAY := Lib.hid hmay
          clear HG HN HF hmay hg
          rcases hm with rfl | rfl
          all_goals
            go_wp2_with fail
            refine wp_region_quiet_lit (by kernel_rfl) (by kernel_rfl) ?_
            repeat (go_big_quiet_step ((go_at_call 31; exact quiet_left (part_any _ xa xn true HMAY.out))))
            refine wpQuiet_nil ?_
            intro w3 hw3
            obtain ⟨nq, rfl⟩ := hw3
            go_wp2_with fail
            go_roundw
            case rel => exact ⟨k + 1, by omega, by go_num, below_drewN hb.out _, HN2.out⟩
            case measure => simp [intOf]; omega
        · have hng : ¬ Good ⟨xo, xa, xn, xm⟩ := fun hg => hmay (by unfold mayB; simpa using hg.2)
          have HF2 := Lib.hid (HF.out (HG.out hng))
          have hmay2 : mayB xa xn = false := by simpa using hmay
          have HMAY := Lib.hid hmay2
          clear HG HN HF hmay hmay2 hng
          rcases hm with rfl | rfl
          all_goals
            go_wp2_with fail
            refine wp_region_quiet_lit (by kernel_rfl) (by kernel_rfl) ?_
            repeat (go_big_quiet_step ((go_at_call 31; exact quiet_left (part_any _ xa xn false HMAY.out))))
            refine wpQuiet_nil ?_
            intro w3 hw3
            obtain ⟨nq, rfl⟩ := hw3
            go_wp2_with fail
            go_ret
            exact HF2.out _ (below_drewN hb.out _)
      · have hng : ¬ Good ⟨xo, xa, xn, xm⟩ := fun hg => hm hg.1
        have HF2 := Lib.hid (HF.out (HG.out hng))
        have e1 : ((xm : Int) != 1) = true := by simp only [bne_iff_ne, ne_eq]; omega
        have e2 : ((xm : Int) != 2) = true := by simp only [bne_iff_ne, ne_eq]; omega
        have e3 : ¬ xm = 1 := by omega
        have e4 : ¬ xm = 2 := by omega
        clear HG HN HF hm hng
        go_wp2_with fail
        go_quiet (fail)
        go_wp2_with fail
        go_ret
        exact HF2.out _ (below_drewN hb.out _)
    · have HALL : Hid (∀ j, j < n → Good (L j)) := fun j hj => hgd.out j (by omega)
      have HR1 : Hid (addFrom op L S n 0 S = r) := by
        show _ = _
        rw [← HR0.out]; unfold takeR; rw [if_pos HALL.out]
      have HTr := Lib.hid (HT.out.below hb.out)
      have c1 := HTr.out.c0
      clear hgd
      go_wp2_with fail
      go_loopw [6, 9, 10, 11, 12, 74, 79] (fun _ s _ _ _ _ _ w2 => ∃ (i : Nat) (cur : List Lk) (bo : Option Addr) (bc : Nat), i ≤ n ∧ s = .int .i64 i ∧ Hid (Rt B w2 pb cur bo bc) ∧ Hid (Fr (fun k => k = pb) w w2) ∧ Hid (Sub bo ao w.heap.size) ∧ Hid (Row B w2 34 4 ao S.length cap (flat S)) ∧ Hid (addFrom op L S (n - i) i cur = r)) (fun _ s _ _ _ _ _ _ => n - (intOf s).toNat)
      case atStart => exact ⟨0, S, ao, cap, Nat.zero_le _, rfl, HTr.out, Fr.of_below hb.out, Sub.refl _ _, HTr.out.row, HR1.out⟩
      case round =>
        obtain ⟨i, cur, bo, bc, hi, rfl, ht, hf, hsub, hwas, hrun⟩ := hrel
        by_cases hlt2 : i < n
        · obtain ⟨b, o, rfl, hbl, d0, d1, d2, d3⟩ := HL.out _ hf.out i hlt2
          have hgood := HALL.out i hlt2
          have hrun' := hrun.out
          rw [show n - i = (n - (i + 1)) + 1 by omega] at hrun'
          unfold addFrom at hrun'
          have HRUN := Lib.hid hrun'
          have HFit : Hid (Fit ⟨op, (L i).a, (L i).n, (L i).mode⟩) := hgood.fit
          clear hrun hrun' hgood
          generalize L i = x at *
          obtain ⟨xo, xa, xn, xm⟩ := x
          dsimp only at d0 d1 d2 d3
          have hcl := ht.out.len
          go_wp2_with fail
          go_region_held3 (fun w' => w'.cell? ⟨b, o + i * 4 + 1, none⟩ = some (.int .u64 (xa : Int)) ∧ w'.cell? ⟨b, o + i * 4 + 2, none⟩ = some (.int .u64 (xn : Int)) ∧ w'.cell? ⟨b, o + i * 4 + 3, none⟩ = some (.int .u16 (xm : Int))) (go_keep) ((fail))
          have HA1 : Hid (Below wr.heap.size wr (wr.alloc (.cells #[.int .i64 op, .int .u64 (xa : Int), .int .u64 (xn : Int), .int .u16 (xm : Int)] 34)).drew) := ((Below.refl _ _).alloc (Nat.le_refl _) _).drew
          have HA2 := Lib.hid (ht.out.below HA1.out)
          have HA3 : Hid (LkAt (wr.alloc (.cells #[.int .i64 op, .int .u64 (xa : Int), .int .u64 (xn : Int), .int .u16 (xm : Int)] 34)).drew wr.heap.size ⟨op, xa, xn, xm⟩) := LkAt.new wr op xa xn xm
          clear d0 d1 d2 d3
          generalize (wr.alloc (.cells #[.int .i64 op, .int .u64 (xa : Int), .int .u64 (xn : Int), .int .u16 (xm : Int)] 34)).drew = w3 at *
          have x0 := HA3.out.c0
          have x1 := HA3.out.c1
          have x2 := HA3.out.c2
          have x3 := HA3.out.c3
          dsimp only at x0 x1 x2 x3
          go_wp2_with fail
          refine (rhad_any B w3 pb cur bo bc ⟨op, xa, xn, xm⟩ HA2.out HFit.out).mono ?_
          rintro e w4 ⟨rfl, hb4⟩
          have HB4 : Hid (Below wr.heap.size wr w4) := HA1.out.trans (hb4.mono HA1.out.size)
          have HT4 := Lib.hid (HA2.out.below hb4)
          have HX4 := Lib.hid (HA3.out.below hb4)
          have HW4 : Hid (Row B w4 34 4 ao S.length cap (flat S)) := hwas.out.fr (Fr.of_below (T := none0) HB4.out) (fun _ _ h => h)
          have HF4 : Hid (Fr (fun k => k = pb) w w4) := hf.out.trans (Fr.of_below (T := none0) HB4.out) (fun _ _ h => h.elim)
          have hB4 : B ≤ w4.heap.size := Nat.le_trans hB HF4.out.size
          clear hb4 x0 x1 x2 x3 HA1 HA2 HA3 ht hf hwas
          have c1 := HT4.out.c0
          have f1 := HT4.out.blk.frozen 0
          have back : ∀ (er : Int), r = (er, S) → Ending.returned (.int .i64 er) = Ending.returned (.int .i64 r.1) ∧ RNow B pb ao r.2 w (w4.setCell ⟨pb, 0, none⟩ (.slice ao S.length cap)) := fun er e => by
            subst e
            obtain ⟨p1, p2⟩ := rput HT4.out.low HT4.out.blk rfl HW4.out HT.out.ok HT.out.len
            exact ⟨rfl, ao, cap, p2, HF4.out.trans p1 (fun _ _ h => h), Sub.refl _ _⟩
          have HBACK := Lib.hid back
          clear back
          cases hq : hadB ⟨op, xa, xn, xm⟩ cur
          · have hr2 := HRUN.out
            rw [hq, if_pos rfl] at hr2
            have HBK := Lib.hid (HBACK.out 12 hr2.symm)
            clear hr2 HBACK HRUN hq
            go_wp2_with fail
            go_ret
            exact HBK.out
          · by_cases h64 : 64 ≤ cur.length
            · have hr2 := HRUN.out
              rw [hq, if_neg (by simp), if_pos h64] at hr2
              have HBK := Lib.hid (HBACK.out 3 hr2.symm)
              clear hr2 HBACK HRUN hq
              go_wp2_with fail
              go_ret
              exact HBK.out
            · have hr2 := HRUN.out
              rw [hq, if_neg (by simp), if_neg h64] at hr2
              have HR2 := Lib.hid hr2
              clear hr2 HBACK HRUN hq
              have hlc := flat_length cur
              obtain ⟨i0, gi, gz0, gz1, gz2⟩ := info_parts inf34
              have HK : Hid (∀ (ro : Option Addr) (rc : Nat) (w5 : World), Row w4.heap.size w5 34 4 ro cur.length rc (flat cur) → Fr none0 w4 w5 → LkAt w5 wr.heap.size ⟨op, xa, xn, xm⟩ ∧ Hid (Row w4.heap.size (w5.alloc (.cells #[.int .i64 op, .int .u64 (xa : Int), .int .u64 (xn : Int), .int .u16 (xm : Int)] 34)) 34 4 ro cur.length rc (flat cur)) ∧ w4.heap.size ≤ w5.heap.size ∧ Hid (Blk (w5.alloc (.cells #[.int .i64 op, .int .u64 (xa : Int), .int .u64 (xn : Int), .int .u16 (xm : Int)] 34)) pb 44 #[.slice bo cur.length bc]) ∧ Hid (Fr none0 w4 (w5.alloc (.cells #[.int .i64 op, .int .u64 (xa : Int), .int .u64 (xn : Int), .int .u16 (xm : Int)] 34)))) := fun ro rc w5 hr hf => by
                refine ⟨Blk.fr HX4.out hf (fun h => h), hr.fr ((Fr.refl none0 _).alloc _) (fun _ _ h => h), hf.size, (HT4.out.blk.fr hf (fun h => h)).alloc _, hf.alloc _⟩
              rcases HT4.out.row.forms with rfl | ⟨g, rfl⟩
              · obtain ⟨h0, h0', h0''⟩ := HT4.out.row.of_none
                have hce : cur = [] := List.eq_nil_of_length_eq_zero h0
                subst hce
                subst h0'
                clear hlc h0 h0''
                obtain ⟨k1, k2, k3, k4, k5⟩ := HK.out none 0 w4 (Row.nil _ _ _ _) (Fr.refl _ _)
                clear c1 f1
                have c1 : w4.cell? ⟨pb, 0, none⟩ = some (.slice none 0 0) := HT4.out.c0
                have x0 := k1.c0
                have x1 := k1.c1
                have x2 := k1.c2
                have x3 := k1.c3
                dsimp only at x0 x1 x2 x3
                have HN := Lib.hid (news_new w4 #[.int .i64 op, .int .u64 (xa : Int), .int .u64 (xn : Int), .int .u16 (xm : Int)] 34 (cells ⟨op, xa, xn, xm⟩) rfl)
                clear k1 HK
                go_wp2_with (at_builtin; refine wpList_append_row rfl (.tmp 100) (.tmp 102) 30 rfl 34 i0 _ 4 32 Try.underlying30 gi gz0 gz1 gz2 rfl (by decide) (by decide) w4.heap.size none 0 0 [] rfl k2.out w4.heap.size 0 1 1 (cells ⟨op, xa, xn, xm⟩) rfl rfl HN.out ?_ ?_ ?_ ?_)
                · first | (intro u hu; simp [cells] at hu; rcases hu with rfl | rfl | rfl | rfl <;> rfl) | (simp [cells]; done) | (refine ⟨rfl, rfl, rfl, rfl⟩)
                · omega
                · first | omega | (simp; done) | (simp; omega)
                intro bo' bc' w7 hr7 hf7 _
                have hfl : cells ⟨op, xa, xn, xm⟩ = flat [⟨op, xa, xn, xm⟩] := by simp [flat]
                have hlen2 : ([(⟨op, xa, xn, xm⟩ : Lk)]).length = 1 := rfl
                rw [hfl, ← hlen2] at hr7
                have HF7 : Hid (Fr none0 w4 w7) := k5.out.rowed k2.out (Nat.le_refl _) hf7
                have hb7 : Blk w7 pb 44 #[.slice none 0 0] := HT4.out.blk.fr HF7.out (fun h => h)
                obtain ⟨hp1, hp2⟩ := rput (n := 1) HT4.out.low hb7 hlen2.symm (hr7.base hB4) (fun y hy => by
                  rw [List.mem_singleton.1 hy]; exact HFit.out) (by rw [hlen2]; omega)
                have HP2 := Lib.hid hp2
                have HF8 : Hid (Fr (fun k => k = pb) w (w7.setCell ⟨pb, 0, none⟩ (.slice bo' 1 bc'))) := (HF4.out.trans HF7.out (fun _ _ h => h.elim)).trans hp1 (fun _ _ h => h)
                have HS8 : Hid (Sub bo' ao w.heap.size) := fun k hk => Or.inr (by
                  have h1 := (hr7.tag k (by obtain ⟨ad, rfl, rfl⟩ := hk; exact hr7.lt) hk).1
                  have := HF4.out.size
                  omega)
                have HW8 : Hid (Row B (w7.setCell ⟨pb, 0, none⟩ (.slice bo' 1 bc')) 34 4 ao S.length cap (flat S)) := (HW4.out.fr HF7.out (fun _ _ h => h)).fr hp1 (fun k hk e => by
                  subst e
                  obtain ⟨_, o', ho', ht'⟩ := HW4.out.tag k HT4.out.blk.lt hk
                  have := HT4.out.blk
                  unfold Blk at this
                  rw [this] at ho'
                  injection ho' with ho'
                  subst ho'
                  cases ht')
                have f7 := hb7.frozen 0
                have d7 : w7.cell? ⟨pb, 0, none⟩ = some (.slice none 0 0) := hb7.cell 0
                clear hp1 hp2 hr7 hf7 hb7 hfl hlen2 x0 x1 x2 x3
                go_wp2_with fail
                go_roundw
                case rel => exact ⟨i + 1, _, bo', bc', by omega, by go_num, HP2.out, HF8.out, HS8.out, HW8.out, HR2.out⟩
                case measure => simp [intOf]; omega
              · go_wp2_with (at_builtin; refine wpList_append_row rfl (.tmp 93) (.tmp 97) 30 rfl 34 i0 _ 4 32 Try.underlying30 gi gz0 gz1 gz2 rfl (by decide) (by decide) w4.heap.size none 0 0 [] rfl (Row.nil _ _ _ _) g 0 cur.length bc (flat cur) rfl hlc ?_ ?_ ?_ ?_ ?_)
                · intro j u hj
                  have hjl : j < cur.length * 4 := by rw [← hlc]; exact (List.getElem?_eq_some_iff.1 hj).1
                  rw [Nat.zero_add, HT4.out.row.cell hjl, hj]
                · exact flat_one cur
                · omega
                · first | omega | (simp; done) | (simp; omega)
                intro ro rc w5 hr5 hf5 _
                have hr5' : Row w4.heap.size w5 34 4 ro cur.length rc (flat cur) := by simpa using hr5
                have hf5' : Fr none0 w4 w5 := hf5.mono (fun _ _ h => by obtain ⟨_, h, _⟩ := h; cases h)
                obtain ⟨k1, k2, k3, k4, k5⟩ := HK.out ro rc w5 hr5' hf5'
                have x0 := k1.c0
                have x1 := k1.c1
                have x2 := k1.c2
                have x3 := k1.c3
                dsimp only at x0 x1 x2 x3
                have HN := Lib.hid (news_new w5 #[.int .i64 op, .int .u64 (xa : Int), .int .u64 (xn : Int), .int .u16 (xm : Int)] 34 (cells ⟨op, xa, xn, xm⟩) rfl)
                clear hr5 hf5 hr5' hf5' k1 c1 f1 HK
                go_wp2_with (at_builtin; refine wpList_append_row rfl (.tmp 100) (.tmp 102) 30 rfl 34 i0 _ 4 32 Try.underlying30 gi gz0 gz1 gz2 rfl (by decide) (by decide) w4.heap.size ro cur.length rc (flat cur) rfl k2.out w5.heap.size 0 1 1 (cells ⟨op, xa, xn, xm⟩) rfl rfl HN.out ?_ ?_ ?_ ?_)
                · first | (intro u hu; simp [cells] at hu; rcases hu with rfl | rfl | rfl | rfl <;> rfl) | (simp [cells]; done) | (refine ⟨rfl, rfl, rfl, rfl⟩)
                · omega
                · first | omega | (simp; omega)
                intro bo' bc' w7 hr7 hf7 _
                have hfl : flat cur ++ cells ⟨op, xa, xn, xm⟩ = flat (cur ++ [⟨op, xa, xn, xm⟩]) := by simp [flat]
                have hlen2 : (cur ++ [(⟨op, xa, xn, xm⟩ : Lk)]).length = cur.length + 1 := by simp
                rw [hfl, ← hlen2] at hr7
                have HF7 : Hid (Fr none0 w4 w7) := k5.out.rowed k2.out (Nat.le_refl _) hf7
                have hb7 : Blk w7 pb 44 #[.slice (some ⟨g, 0, none⟩) cur.length bc] := HT4.out.blk.fr HF7.out (fun h => h)
                obtain ⟨hp1, hp2⟩ := rput (n := cur.length + 1) HT4.out.low hb7 hlen2.symm (hr7.base hB4) (fun y hy => by
                  rcases List.mem_append.1 hy with h | h
                  · exact HT4.out.ok y h
                  · rw [List.mem_singleton.1 h]; exact HFit.out) (by rw [hlen2]; omega)
                have HP2 := Lib.hid hp2
                have HF8 : Hid (Fr (fun k => k = pb) w (w7.setCell ⟨pb, 0, none⟩ (.slice bo' (cur.length + 1) bc'))) := (HF4.out.trans HF7.out (fun _ _ h => h.elim)).trans hp1 (fun _ _ h => h)
                have HS8 : Hid (Sub bo' ao w.heap.size) := fun k hk => Or.inr (by
                  have h1 := (hr7.tag k (by obtain ⟨ad, rfl, rfl⟩ := hk; exact hr7.lt) hk).1
                  have := HF4.out.size
                  omega)
                have HW8 : Hid (Row B (w7.setCell ⟨pb, 0, none⟩ (.slice bo' (cur.length + 1) bc')) 34 4 ao S.length cap (flat S)) := (HW4.out.fr HF7.out (fun _ _ h => h)).fr hp1 (fun k hk e => by
                  subst e
                  obtain ⟨_, o', ho', ht'⟩ := HW4.out.tag k HT4.out.blk.lt hk
                  have := HT4.out.blk
                  unfold Blk at this
                  rw [this] at ho'
                  injection ho' with ho'
                  subst ho'
                  cases ht')
                have f7 := hb7.frozen 0
                have d7 : w7.cell? ⟨pb, 0, none⟩ = some (.slice (some ⟨g, 0, none⟩) cur.length bc) := hb7.cell 0
                clear hp1 hp2 hr7 hf7 hb7 hfl hlen2 x0 x1 x2 x3 hlc
                go_wp2_with fail
                go_roundw
                case rel => exact ⟨i + 1, _, bo', bc', by omega, by go_num, HP2.out, HF8.out, HS8.out, HW8.out, HR2.out⟩
                case measure => simp [intOf]; omega
        · have hie : n - i = 0 := by omega
          have hr2 := hrun.out
          rw [hie] at hr2
          have hr3 : (0, cur) = r := hr2
          have HD : Hid (Ending.returned (.int .i64 0) = Ending.returned (.int .i64 r.1) ∧ RNow B pb ao r.2 w wr) := by
            subst hr3
            exact ⟨rfl, bo, bc, ht.out, hf.out, hsub.out⟩
          clear hr2 hr3 hie hrun
          go_wp2_with fail
          go_ret
          exact HD.out
end Go.Proofs.Ytgcimkbggnjcdaa
