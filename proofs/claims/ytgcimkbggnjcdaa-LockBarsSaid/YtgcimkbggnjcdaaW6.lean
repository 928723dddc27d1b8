/- Contract of the table's Take, by a walk. -/
import Derived.Test.YtgcimkbggnjcdaaW5
namespace Go.Proofs.Ytgcimkbggnjcdaa
open Go.RowKit

/-- append, and where the row then lies. -/
theorem step_append_row_at {P : Program} {w : World} {ops : Array Oper} {o : Oper} {a : Act} {K' : Act → World → Prop} {Q : Exit → Act → World → Prop} {E : Prop} (hgd : o.guard = none) (s x : Operand) (t : TypeId)
    (ho : o.op = .call { callee := .builtin .append, args := #[s, x], argTypes := #[t, t] })
    (e : TypeId) (i : TypeInfo) (z : Value) (K bytes : Nat) (ht : P.underlying t = some (.slice e)) (hi : P.info? e = some i) (hz : i.zero = some z)
    (hsize : i.size = K) (hby : i.bytes = bytes) (hzs : z.cells.size = K) (hsz : 0 < K) (hb32 : bytes ≤ 4096)
    (B : Nat) (ao : Option Addr) (n cap : Nat) (xs : List Value) (hs : a.eval s = .slice ao n cap) (hown : Row B w e K ao n cap xs)
    (b off m c : Nat) (news : List Value) (hx : a.eval x = .slice (some ⟨b, off, none⟩) m c) (hl : news.length = m * K) (hnews : ∀ j u, news[j]? = some u → w.cell? ⟨b, off + j, none⟩ = some u) (h1 : ∀ u ∈ news, u.oneCell' = true)
    (hsm : n + m ≤ 1073741824) (hbase : B ≤ w.heap.size)
    (h : ∀ ao' cap' w', Row B w' e K ao' (n + m) cap' (xs ++ news) → Fr (rowOf ao) w w' → (∀ k, rowOf ao' k → rowOf ao k ∨ w.heap.size ≤ k) → K' (a.put o.dst (.slice ao' (n + m) cap')) w') :
    if Region.wanted o (yielded ops a.tmps) = true then Oper.wp P o a w K' Q else E := by
  have hw : Region.wanted o (yielded ops a.tmps) = true := by simp [Region.wanted, hgd]
  rw [if_pos hw]
  obtain ⟨v', w', hr, h2, h3, _, h5⟩ := run_append_own_at (P := P) w B t o.type e i z K bytes ht hi hz hsize hby hzs hsz (.slice ao n cap) n xs hown ⟨b, off, none⟩ m c news hl (fun j u hj => by rw [Addr.add_lit]; exact hnews j u hj) h1 (by unfold maxLen; omega) (Nat.le_trans (Nat.mul_le_mul hsm hb32) (by decide)) hbase
  have hfr : Fr (rowOf ao) w w' := (Fr.refl _ w).grown h3 (fun k _ hk => by
    cases ao with
    | none => cases hk
    | some ad => injection hk with hk; exact ⟨ad, rfl, hk.symm⟩)
  unfold Oper.wp execOp
  simp only [ho, resolve, invoke, builtin, Sem.run_bind, Sem.run_pure, Result.andThen_ok, List.map_toArray, List.map_cons, List.map_nil, hs, hx, hr]
  rcases h2.2 with ⟨rfl, h0⟩ | ⟨g, cap', cur, rfl, _⟩
  · have hn0 : n = 0 := by omega
    have hm0 : m = 0 := by omega
    subst hn0 hm0
    exact h none 0 w' h2 hfr (fun k hk => by obtain ⟨_, hk, _⟩ := hk; cases hk)
  · refine h (some ⟨g, 0, none⟩) cap' w' h2 hfr (fun k hk => ?_)
    obtain ⟨ad, hk, rfl⟩ := hk
    injection hk with hk
    subst hk
    rcases h5 with h5 | h5
    · left
      cases ao with
      | none => cases h5
      | some ad => injection h5 with h5; exact ⟨ad, rfl, h5⟩
    · right
      injection h5 with h5
      exact Nat.le_of_eq h5.symm

/-- Locks that are handed in: the k-th is L k. -/
def Lks (w : World) (lo : Option Addr) (n : Nat) (L : Nat → Lk) : Prop :=
  ∀ k, k < n → ∃ b o, lo = some ⟨b, o, none⟩ ∧ b < w.heap.size ∧ w.cell? ⟨b, o + k * 4, none⟩ = some (.int .i64 (L k).op) ∧ w.cell? ⟨b, o + k * 4 + 1, none⟩ = some (.int .u64 ((L k).a : Int)) ∧ w.cell? ⟨b, o + k * 4 + 2, none⟩ = some (.int .u64 ((L k).n : Int)) ∧ w.cell? ⟨b, o + k * 4 + 3, none⟩ = some (.int .u16 ((L k).mode : Int))
/-- May such a lock be? -/
def Good (x : Lk) : Prop := (x.mode = 1 ∨ x.mode = 2) ∧ x.a ≤ M ∧ x.n ≤ M - x.a
instance (x : Lk) : Decidable (Good x) := by unfold Good; exact inferInstance
theorem Good.fit {x : Lk} (h : Good x) : Fit x := by unfold Good at h; unfold Fit; omega
/-- One lock behind the other, from number k on, m of them. -/
def addFrom (o : Int) (L : Nat → Lk) (S : List Lk) : Nat → Nat → List Lk → Int × List Lk
  | 0, _, cur => (0, cur)
  | m + 1, k, cur =>
    if hadB ⟨o, (L k).a, (L k).n, (L k).mode⟩ cur = false then (12, S)
    else if 64 ≤ cur.length then (3, S)
    else addFrom o L S m (k + 1) (cur ++ [⟨o, (L k).a, (L k).n, (L k).mode⟩])
/-- What Take answers, and what is there then. -/
def takeR (S : List Lk) (o : Int) (L : Nat → Lk) (n : Nat) : Int × List Lk := if ∀ k, k < n → Good (L k) then addFrom o L S n 0 S else (2, S)

section
variable {B : Nat} {w w' : World} {pb : Nat} {S : List Lk} {ao : Option Addr} {cap : Nat}
theorem Tb.apart (h : Tb B w pb S ao cap) : ¬ rowOf ao pb := by
  intro hk
  obtain ⟨_, o, ho, ht⟩ := h.row.tag pb h.blk.lt hk
  have := h.blk
  unfold Blk at this
  rw [this] at ho
  injection ho with ho
  subst ho
  cases ht
end
/-- The table's slice is stored anew. -/
theorem put {B : Nat} {w : World} {pb : Nat} {S' : List Lk} {ao' : Option Addr} {cap' n : Nat} {v : Value} (hlow : B ≤ pb) (h : Blk w pb 50 #[.bool true, v]) (hn : n = S'.length) (hr : Row B w 34 4 ao' S'.length cap' (flat S')) (hx : ∀ x ∈ S', Fit x) (hl : S'.length ≤ 64) :
    Fr (fun k => k = pb) w (w.setCell ⟨pb, 1, none⟩ (.slice ao' n cap')) ∧ Tb B (w.setCell ⟨pb, 1, none⟩ (.slice ao' n cap')) pb S' ao' cap' := by
  subst hn
  have hf : Fr (fun k => k = pb) w (w.setCell ⟨pb, 1, none⟩ (.slice ao' S'.length cap')) := (Fr.refl (fun k => k = pb) w).setCell (p := ⟨pb, 1, none⟩) (fun _ => rfl) _
  refine ⟨hf, hlow, h.set_ 1 _, hr.fr hf ?_, hx, hl⟩
  rintro k hk rfl
  obtain ⟨_, o, ho, ht⟩ := hr.tag k h.lt hk
  unfold Blk at h
  rw [h] at ho
  injection ho with ho
  subst ho
  cases ht
/-- What a call may turn: the table's block and its row; and where its row then lies. -/
def Tof (pb : Nat) (ao : Option Addr) : Nat → Prop := fun k => k = pb ∨ rowOf ao k
def Sub (ao' ao : Option Addr) (size : Nat) : Prop := ∀ k, rowOf ao' k → rowOf ao k ∨ size ≤ k
theorem Sub.refl (ao : Option Addr) (s : Nat) : Sub ao ao s := fun _ h => Or.inl h

/-- What the table is behind a call: of the locks S'. -/
def Now (B pb : Nat) (ao : Option Addr) (S' : List Lk) (w w' : World) : Prop := ∃ ao' cap', Tb B w' pb S' ao' cap' ∧ Fr (Tof pb ao) w w' ∧ Sub ao' ao w.heap.size
def TakePost (B pb : Nat) (ao : Option Addr) (r : Int × List Lk) (w : World) (e : Ending) (w' : World) : Prop :=
  e = .returned (.int .i64 r.1) ∧ Now B pb ao r.2 w w'

set_option maxRecDepth 100000 in
set_option maxHeartbeats 4000000 in
theorem take_any (B : Nat) (w : World) (pb : Nat) (S : List Lk) (ao : Option Addr) (cap : Nat) (op : Int) (lo : Option Addr) (n lc : Nat) (L : Nat → Lk) (h : Tb B w pb S ao cap) (hB : B ≤ w.heap.size)
    (hL : ∀ W, Fr (Tof pb ao) w W → Lks W lo n L) (hn : n ≤ 9223372036854775807) :
    Calls Try.prog 15 #[.pointer (some ⟨pb, 0, none⟩), .int .i64 op, .slice lo n lc] w (TakePost B pb ao (takeR S op L n) w) := by
  obtain ⟨r, hr0⟩ : ∃ r, takeR S op L n = r := ⟨_, rfl⟩
  rw [hr0]
  have HR0 := Lib.hid hr0
  have HT := Lib.hid h
  have HL := Lib.hid hL
  have c0 := h.c0
  clear hr0 h hL
  unfold TakePost
  go_enter Try.func15, Try.ntmps15
  go_wp2_with fail
  refine (off_any w pb c0).mono ?_
  rintro e w1 ⟨rfl, rfl⟩
  go_wp2_with fail
  clear c0
  go_loopw [6, 8, 16] (fun _ _ s wr => ∃ k : Nat, k ≤ n ∧ s = .int .i64 k ∧ Hid (Below w.heap.size w wr) ∧ Hid (∀ j, j < k → Good (L j))) (fun _ _ s _ => n - (intOf s).toNat)
  case atStart => exact ⟨0, Nat.zero_le _, rfl, Below.refl _ _, fun j hj => absurd hj (Nat.not_lt_zero _)⟩
  case round =>
    obtain ⟨k, hk, rfl, hb, hgd⟩ := hrel
    by_cases hlt : k < n
    · obtain ⟨b, o, rfl, hbl, d0, d1, d2, d3⟩ := HL.out wr (Fr.of_below hb.out) k hlt
      have HG : Hid (¬ Good (L k) → r = (2, S)) := fun hng => by
        rw [← HR0.out]; unfold takeR; rw [if_neg (fun hall => hng (hall k hlt))]
      have HN : Hid (Good (L k) → ∀ j, j < k + 1 → Good (L j)) := fun hg j hj => by
        rcases Nat.lt_succ_iff_lt_or_eq.1 hj with h | h
        · exact hgd.out j h
        · subst h; exact hg
      have hbad : Hid (Tb B (wr.alloc (.cells #[.int .i64 (L k).op, .int .u64 ((L k).a : Int), .int .u64 ((L k).n : Int), .int .u16 ((L k).mode : Int)] 34)) pb S ao cap ∧ Below w.heap.size w (wr.alloc (.cells #[.int .i64 (L k).op, .int .u64 ((L k).a : Int), .int .u64 ((L k).n : Int), .int .u16 ((L k).mode : Int)] 34))) :=
        ⟨HT.out.below (hb.out.alloc hb.out.size _), hb.out.alloc hb.out.size _⟩
      clear hgd
      generalize hLk : L k = x at *
      clear hLk
      obtain ⟨xo, xa, xn, xm⟩ := x
      dsimp only at d0 d1 d2 d3
      have finish : r = (2, S) → Hid (Ending.returned (.int .i64 2) = Ending.returned (.int .i64 r.1) ∧ Now B pb ao r.2 w (wr.alloc (.cells #[.int .i64 xo, .int .u64 (xa : Int), .int .u64 (xn : Int), .int .u16 (xm : Int)] 34))) := fun e => by
        subst e
        exact ⟨rfl, ao, cap, hbad.out.1, Fr.of_below hbad.out.2, Sub.refl _ _⟩
      have HF := Lib.hid finish
      clear finish
      by_cases hm : xm = 1 ∨ xm = 2
      · by_cases hmay : mayB xa xn = true
        · have hg : Good ⟨xo, xa, xn, xm⟩ := ⟨hm, by unfold mayB at hmay; simpa using hmay⟩
          have HN2 := Lib.hid (HN.out hg)
          have HMAY := Lib.hid hmay
          clear HG HN HF hmay hg
          rcases hm with rfl | rfl
          all_goals
            go_wp2_with fail
            refine (may_any _ xa xn).mono ?_
            rw [HMAY.out]
            rintro e w2 ⟨rfl, rfl⟩
            go_wp2_with fail
            go_roundw
            case rel => exact ⟨k + 1, by omega, by go_num, hbad.out.2, HN2.out⟩
            case measure => simp [intOf]; omega
        · have hng : ¬ Good ⟨xo, xa, xn, xm⟩ := fun hg => hmay (by unfold mayB; simpa using hg.2)
          have HF2 := Lib.hid (HF.out (HG.out hng)).out
          have hmay2 : mayB xa xn = false := by simpa using hmay
          have HMAY := Lib.hid hmay2
          clear HG HN HF hmay hmay2 hng
          rcases hm with rfl | rfl
          all_goals
            go_wp2_with fail
            refine (may_any _ xa xn).mono ?_
            rw [HMAY.out]
            rintro e w2 ⟨rfl, rfl⟩
            go_wp2_with fail
            go_ret
            exact HF2.out
      · have hng : ¬ Good ⟨xo, xa, xn, xm⟩ := fun hg => hm hg.1
        have HF2 := Lib.hid (HF.out (HG.out hng)).out
        have e1 : ((xm : Int) != 1) = true := by simp only [bne_iff_ne, ne_eq]; omega
        have e2 : ((xm : Int) != 2) = true := by simp only [bne_iff_ne, ne_eq]; omega
        have e3 : ¬ xm = 1 := by omega
        have e4 : ¬ xm = 2 := by omega
        clear HG HN HF hm hng
        go_wp2_with fail
        go_ret
        exact HF2.out
    · have hke : k = n := by omega
      have HALL : Hid (∀ j, j < n → Good (L j)) := fun j hj => hgd.out j (by omega)
      have hr1 : addFrom op L S n 0 S = r := by
        rw [← HR0.out]; unfold takeR; rw [if_pos HALL.out]
      have HR1 := Lib.hid hr1
      have HTr := Lib.hid (HT.out.below hb.out)
      have c1 := HTr.out.c1
      clear hr1 hgd hke
      go_wp2_with fail
      go_loopw [6, 11, 44, 50] (fun _ _ s _ w2 => ∃ (i : Nat) (cur : List Lk) (bo : Option Addr) (bc : Nat), i ≤ n ∧ s = .int .i64 i ∧ Hid (Tb B w2 pb cur bo bc) ∧ Hid (Fr (Tof pb ao) w w2) ∧ Hid (Sub bo ao w.heap.size) ∧ Hid (cur.take S.length = S) ∧ Hid (addFrom op L S (n - i) i cur = r)) (fun _ _ s _ _ => n - (intOf s).toNat)
      case atStart => exact ⟨0, S, ao, cap, Nat.zero_le _, rfl, HTr.out, Fr.of_below hb.out, Sub.refl _ _, List.take_length, HR1.out⟩
      case round =>
        obtain ⟨i, cur, bo, bc, hi, rfl, ht, hf, hsub, hpre, hrun⟩ := hrel
        by_cases hlt : i < n
        · obtain ⟨b, o, rfl, hbl, d0, d1, d2, d3⟩ := HL.out _ hf.out i hlt
          have hgood := HALL.out i hlt
          have hrun' := hrun.out
          rw [show n - i = (n - (i + 1)) + 1 by omega] at hrun'
          unfold addFrom at hrun'
          have HRUN := Lib.hid hrun'
          have HFit : Hid (Fit ⟨op, (L i).a, (L i).n, (L i).mode⟩) := hgood.fit
          clear hrun hrun' hgood
          generalize L i = x at *
          obtain ⟨xo, xa, xn, xm⟩ := x
          dsimp only at d0 d1 d2 d3
          have hlen : S.length ≤ cur.length := by have := congrArg List.length hpre.out; rw [List.length_take] at this; omega
          have hcb := ht.out.row.le
          have hcl := ht.out.len
          have HA1 : Hid (Below wr.heap.size wr (wr.alloc (.cells #[.int .i64 op, .int .u64 (xa : Int), .int .u64 (xn : Int), .int .u16 (xm : Int)] 34))) := (Below.refl _ _).alloc (Nat.le_refl _) _
          have HA2 := Lib.hid (ht.out.below HA1.out)
          have HA3 := Lib.hid (LkAt.new wr op xa xn xm)
          go_wp2_with fail
          generalize wr.alloc (.cells #[.int .i64 op, .int .u64 (xa : Int), .int .u64 (xn : Int), .int .u16 (xm : Int)] 34) = w3 at *
          refine (had_any B w3 pb cur bo bc ⟨op, xa, xn, xm⟩ HA2.out HFit.out).mono ?_
          rintro e w4 ⟨rfl, hb4⟩
          have HB4 : Hid (Below wr.heap.size wr w4) := HA1.out.trans (hb4.mono HA1.out.size)
          have HT4 := Lib.hid (HA2.out.below hb4)
          have HX4 := Lib.hid (HA3.out.below hb4)
          have HF4 : Hid (Fr (Tof pb ao) w w4) := hf.out.trans (Fr.of_below (T := none0) HB4.out) (fun _ _ h => h.elim)
          have hB4 : B ≤ w4.heap.size := Nat.le_trans hB HF4.out.size
          clear hb4 d0 d1 d2 d3 HA1 HA2 HA3 ht hf
          have back : ∀ (er : Int), r = (er, S) → ∀ m, m = S.length → Hid (Ending.returned (.int .i64 er) = Ending.returned (.int .i64 r.1) ∧ Now B pb ao r.2 w (w4.setCell ⟨pb, 1, none⟩ (.slice bo m (if bo = none then 0 else bc)))) := fun er e m hm => by
            subst e
            subst hm
            have hrow : Row B w4 34 4 bo S.length (if bo = none then 0 else bc) (flat S) := by
              have h4 := HT4.out.row
              rcases h4.forms with rfl | ⟨g, rfl⟩
              · obtain ⟨h0, _, _⟩ := h4.of_none
                have : S = [] := List.eq_nil_of_length_eq_zero (by omega)
                subst this
                exact Row.nil _ _ _ _
              · have h5 := h4.cut hlen (by simp)
                have h6 : (flat cur).take (S.length * 4) = flat S := (flat_take cells 4 cells_len cur S.length).trans (by rw [hpre.out]; rfl)
                rw [h6] at h5
                simpa using h5
            obtain ⟨p1, p2⟩ := put HT4.out.low HT4.out.blk rfl hrow (fun x hx => HT4.out.ok x (by rw [← hpre.out] at hx; exact List.mem_of_mem_take hx)) (by omega)
            exact ⟨rfl, bo, _, p2, HF4.out.trans p1 (fun _ _ h => Or.inl h), hsub.out⟩
          have HBACK := Lib.hid back
          clear back
          have c1 := HT4.out.c1
          have f1 := HT4.out.blk.frozen 1
          cases hq : hadB ⟨op, xa, xn, xm⟩ cur
          · have hr2 := HRUN.out
            rw [hq, if_pos rfl] at hr2
            have HBK := HBACK.out 12 hr2.symm
            clear hr2 HBACK HRUN
            rcases HT4.out.row.forms with rfl | ⟨g, rfl⟩
            · obtain ⟨h0, h0', _⟩ := HT4.out.row.of_none
              have hS0 : S.length = 0 := by omega
              have HBK2 := HBK 0 hS0.symm
              subst h0'
              rw [h0] at c1
              clear HBK
              go_wp2_with fail
              go_ret
              exact HBK2.out
            · have HBK2 := HBK S.length rfl
              have hSb : S.length ≤ bc := by omega
              clear HBK
              go_wp2_with fail
              go_ret
              exact HBK2.out
          · by_cases h64 : 64 ≤ cur.length
            · have hr2 := HRUN.out
              rw [hq, if_neg (by simp), if_pos h64] at hr2
              have HBK := HBACK.out 3 hr2.symm
              clear hr2 HBACK HRUN
              rcases HT4.out.row.forms with rfl | ⟨g, rfl⟩
              · obtain ⟨h0, h0', _⟩ := HT4.out.row.of_none
                omega
              · have HBK2 := HBK S.length rfl
                have hSb : S.length ≤ bc := by omega
                clear HBK
                go_wp2_with fail
                go_ret
                exact HBK2.out
            · have hr2 := HRUN.out
              rw [hq, if_neg (by simp), if_neg h64] at hr2
              have HR2 := Lib.hid hr2
              clear hr2 HBACK HRUN
              have x0 := HX4.out.c0
              have x1 := HX4.out.c1
              have x2 := HX4.out.c2
              have x3 := HX4.out.c3
              dsimp only at x0 x1 x2 x3
              obtain ⟨i0, gi, gz0, gz1, gz2⟩ := info_parts inf34
              have hpl : pb < w4.heap.size := HT4.out.blk.lt
              have hxl : wr.heap.size < w4.heap.size := Blk.lt HX4.out
              go_wp2_with fail
              go_region_law (
                (refine step_append_row_at rfl (.tmp 84) (.tmp 86) 30 rfl 34 i0 _ 4 32 Try.underlying30 gi gz0 gz1 gz2 rfl (by decide) (by decide) B bo cur.length bc (flat cur) rfl ?_ w4.heap.size 0 1 1 (cells ⟨op, xa, xn, xm⟩) rfl rfl ?_ ?_ ?_ ?_ ?_
                 · exact HT4.out.row.fr (((Fr.refl none0 _).drew).alloc _) (fun _ _ h => h)
                 · exact news_new _ _ _ _ rfl
                 · intro u hu; simp [cells] at hu; rcases hu with rfl | rfl | rfl | rfl <;> rfl
                 · omega
                 · simp; omega
                 intro bo' bc' w5 hr5 hf5 hat
                 have hblk5 : Blk w5 pb 50 #[.bool true, .slice bo cur.length bc] := (HT4.out.blk.fr (((Fr.refl none0 _).drew).alloc _) (fun h => h)).fr hf5 HT4.out.apart
                 have HQ := Lib.hid hblk5
                 have HR := Lib.hid hr5
                 have HF5 : Hid (Fr (Tof pb ao) w w5) := (HF4.out.trans ((((Fr.refl none0 _).drew).alloc _)) (fun _ _ h => h.elim)).trans hf5 (fun k hk h => by
                   rcases hsub.out k h with h | h
                   · exact Or.inr h
                   · omega)
                 have HS5 : Hid (Sub bo' ao w.heap.size) := fun k hk => by
                   rcases hat k hk with h | h
                   · exact hsub.out k h
                   · right; have := HF4.out.size; simp at h; omega
                 clear hr5 hf5 hat
                 have e2 : w5.cell? ⟨pb, 1, none⟩ = some (.slice bo cur.length bc) := hblk5.cell 1
                 have e3 : w5.frozen? ⟨pb, 1, none⟩ = false := hblk5.frozen 1
                 clear hblk5))
              all_goals
                have hfl : flat cur ++ cells ⟨op, xa, xn, xm⟩ = flat (cur ++ [⟨op, xa, xn, xm⟩]) := by simp [flat]
                have hlen2 : (cur ++ [(⟨op, xa, xn, xm⟩ : Lk)]).length = cur.length + 1 := by simp
                have hrow := HR.out
                rw [hfl, ← hlen2] at hrow
                obtain ⟨hp1, hp2⟩ := put (n := cur.length + 1) HT4.out.low HQ.out hlen2.symm hrow (fun y hy => by
                  rcases List.mem_append.1 hy with h | h
                  · exact HT4.out.ok y h
                  · rw [List.mem_singleton.1 h]; exact HFit.out) (by rw [hlen2]; omega)
                have HP2 := Lib.hid hp2
                have HF6 : Hid (Fr (Tof pb ao) w (w5.setCell ⟨pb, 1, none⟩ (.slice bo' (cur.length + 1) bc'))) := HF5.out.trans hp1 (fun _ _ h => Or.inl h)
                have HPRE : Hid ((cur ++ [(⟨op, xa, xn, xm⟩ : Lk)]).take S.length = S) := by
                  show _ = _
                  rw [List.take_append_of_le_length hlen]; exact hpre.out
                clear hfl hlen2 hrow hp1 hp2 HR HQ HF5 e2 e3
                generalize w5.setCell ⟨pb, 1, none⟩ (.slice bo' (cur.length + 1) bc') = w6 at *
                go_wp2_with fail
                go_roundw
                case rel => exact ⟨i + 1, _, bo', bc', by omega, by go_num, HP2.out, HF6.out, HS5.out, HPRE.out, HR2.out⟩
                case measure => simp [intOf]; omega
        · have hie : n - i = 0 := by omega
          have hr2 := hrun.out
          rw [hie] at hr2
          have hr3 : (0, cur) = r := hr2
          have HD : Hid (Ending.returned (.int .i64 0) = Ending.returned (.int .i64 r.1) ∧ Now B pb ao r.2 w wr) := by
            subst hr3
            exact ⟨rfl, bo, bc, ht.out, hf.out, hsub.out⟩
          clear hr2 hr3 hie hrun
          go_wp2_with fail
          go_ret
          exact HD.out
end Go.Proofs.Ytgcimkbggnjcdaa
