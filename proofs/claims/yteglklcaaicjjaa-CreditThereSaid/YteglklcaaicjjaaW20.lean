/- Contracts of the document's Take and Give, by walks. -/
import Derived.Test.YteglklcaaicjjaaW19
namespace Go.Proofs.Yteglklcaaicjjaa
open Go.RowKit Go.Maps

/-- append, and where the row then lies. -/
theorem step_append_row_at {P : Program} {w : World} {ops : Array Oper} {o : Oper} {a : Act} {K' : Act → World → Prop} {Q : Exit → Act → World → Prop} {E : Prop} (hgd : o.guard = none) (s x : Operand) (t : TypeId)
    (ho : o.op = .call { callee := .builtin .append, args := #[s, x], argTypes := #[t, t] })
    (e : TypeId) (i : TypeInfo) (z : Value) (K bytes : Nat) (ht : P.underlying t = some (.slice e)) (hi : P.info? e = some i) (hz : i.zero = some z)
    (hsize : i.size = K) (hby : i.bytes = bytes) (hzs : z.cells.size = K) (hsz : 0 < K) (hb32 : bytes ≤ 4096)
    (B : Nat) (ao : Option Addr) (n cap : Nat) (xs : List Value) (hs : a.eval s = .slice ao n cap) (hown : Row B w e K ao n cap xs)
    (b off m c : Nat) (news : List Value) (hx : a.eval x = .slice (some ⟨b, off, none⟩) m c) (hl : news.length = m * K) (hnews : ∀ j u, news[j]? = some u → w.cell? ⟨b, off + j, none⟩ = some u) (h1 : ∀ u ∈ news, u.oneCell' = true)
    (hsm : n + m ≤ 1073741824) (hbase : B ≤ w.heap.size)
    (h : ∀ ao' cap' w', Row B w' e K ao' (n + m) cap' (xs ++ news) → Fr (rowOf ao) w w' → (∀ k, rowOf ao' k → rowOf ao k ∨ w.heap.size ≤ k) → K' (a.put o.dst (.slice ao' (n + m) cap')) w') :
    if Region.wanted o (yielded ops a.tmps) = true then Oper.wp P o a w K' Q else E := by
  have hw : Region.wanted o (yielded ops a.tmps) = true := by simp [Region.wanted, hgd]
  rw [if_pos hw]
  obtain ⟨v', w', hr, h2, h3, _, h5⟩ := run_append_own_at (P := P) w B t o.type e i z K bytes ht hi hz hsize hby hzs hsz (.slice ao n cap) n xs hown ⟨b, off, none⟩ m c news hl (fun j u hj => by rw [Addr.add_lit]; exact hnews j u hj) h1 (by unfold maxLen; omega) (Nat.le_trans (Nat.mul_le_mul hsm hb32) (by decide)) hbase
  have hfr : Fr (rowOf ao) w w' := (Fr.refl _ w).grown h3 (fun k _ hk => by
    cases ao with
    | none => cases hk
    | some ad => injection hk with hk; exact ⟨ad, rfl, hk.symm⟩)
  unfold Oper.wp execOp
  simp only [ho, resolve, invoke, builtin, Sem.run_bind, Sem.run_pure, Result.andThen_ok, List.map_toArray, List.map_cons, List.map_nil, hs, hx, hr]
  rcases h2.2 with ⟨rfl, h0⟩ | ⟨g, cap', cur, rfl, _⟩
  · have hn0 : n = 0 := by omega
    have hm0 : m = 0 := by omega
    subst hn0 hm0
    exact h none 0 w' h2 hfr (fun k hk => by obtain ⟨_, hk, _⟩ := hk; cases hk)
  · refine h (some ⟨g, 0, none⟩) cap' w' h2 hfr (fun k hk => ?_)
    obtain ⟨ad, hk, rfl⟩ := hk
    injection hk with hk
    subst hk
    rcases h5 with h5 | h5
    · left
      cases ao with
      | none => cases h5
      | some ad => injection h5 with h5; exact ⟨ad, rfl, h5⟩
    · right
      injection h5 with h5
      exact Nat.le_of_eq h5.symm


/-- The document's step: the window's own blocks, no window of the package. -/
structure DStep (B rb : Nat) (most : Int) (next : Nat) (S : List Nat) (w w' : World) : Prop where
  ref : RfA B w' rb most next S
  win : ∀ pb mb m n s, Win w pb mb m n s → Win w' pb mb m n s
  bel : Below B w w'
theorem RfA.here {B : Nat} {w : World} {rb : Nat} {most : Int} {next : Nat} {S : List Nat} (h : RfA B w rb most next S) : DStep B rb most next S w w := ⟨h, fun _ _ _ _ _ h => h, Below.refl _ _⟩
/-- A frame that keeps package windows. -/
theorem RfAt.keeps {B : Nat} {w w' : World} {rb : Nat} {most : Int} {next : Nat} {S : List Nat} {lo : Option Addr} {lc : Nat} (h : RfAt B w rb most next S lo lc) (hf : Fr (fun k => k = rb ∨ rowOf lo k) w w') : ∀ pb mb m n s, Win w pb mb m n s → Win w' pb mb m n s := by
  intro pb mb m n s hw
  refine hw.fr hf (fun e => ?_) (fun e => ?_)
  · rcases e with e | e
    · subst e
      have h1 := h.blk
      have h2 := hw.blk
      unfold Blk at h1 h2
      rw [h1] at h2
      injection h2 with h2
      injection h2 with h3 h4
      cases h4
    · exact row_ne_blk h.row hw.blk (by decide) _ e rfl
  · rcases e with e | e
    · subst e
      obtain ⟨es, ck, he, _⟩ := hw.map.isMap
      exact h.blk.ne_map he rfl
    · exact row_ne_set h.row hw.map _ e rfl
theorem RfAt.belowB {B : Nat} {w w' : World} {rb : Nat} {most : Int} {next : Nat} {S : List Nat} {lo : Option Addr} {lc : Nat} (h : RfAt B w rb most next S lo lc) (hB : B ≤ w.heap.size) (hf : Fr (fun k => k = rb ∨ rowOf lo k) w w') : Below B w w' :=
  hf.below hB (fun k e => by
    rcases e with rfl | ⟨a, rfl, rfl⟩
    · exact h.low
    · exact h.row.block.1)
/-- The package's step leaves the document's. -/
theorem RfA.step {B : Nat} {w w' : World} {rb : Nat} {most : Int} {next : Nat} {S : List Nat} (h : RfA B w rb most next S) {pb mb : Nat} {m : Int} {n : Nat} {s : List Nat} (hw : Win w pb mb m n s) (hf : Fr (Of pb mb) w w') : RfA B w' rb most next S := by
  obtain ⟨lo, lc, h⟩ := h
  refine ⟨lo, lc, h.fr hf (fun e => ?_) (fun k hk e => ?_)⟩
  · rcases e with e | e
    · subst e
      have h1 := h.blk
      have h2 := hw.blk
      unfold Blk at h1 h2
      rw [h1] at h2
      injection h2 with h2
      injection h2 with h3 h4
      cases h4
    · subst e
      obtain ⟨es, ck, he, _⟩ := hw.map.isMap
      exact h.blk.ne_map he rfl
  · rcases e with e | e
    · exact row_ne_blk h.row hw.blk (by decide) k hk e
    · exact row_ne_set h.row hw.map k hk e

theorem cut_step {S : List Nat} {i x : Nat} (id n : Nat) (h : S[i]? = some x) : cutS (S.take (i + 1)) id n = if x < id ∨ id + n ≤ x then cutS (S.take i) id n ++ [x] else cutS (S.take i) id n := by
  unfold cutS
  rw [List.take_add_one, h, Option.toList_some, List.filter_append]
  by_cases hc : x < id ∨ id + n ≤ x
  · rw [if_pos hc, List.filter_cons_of_pos (by simpa using hc)]; rfl
  · rw [if_neg hc, List.filter_cons_of_neg (by simpa using hc)]; simp
/-- The new row is the window's. -/
theorem RfAt.turn {B : Nat} {w w2 : World} {rb : Nat} {most : Int} {next : Nat} {S T : List Nat} {lo : Option Addr} {lc : Nat} {qo : Option Addr} {qc n : Nat} (h : RfAt B w rb most next S lo lc) (hB : B ≤ w.heap.size) (hb : Below w.heap.size w w2)
    (hn : n = T.length) (hr : Row w.heap.size w2 29 1 qo n qc (un T)) : DStep B rb most next T w (w2.setCell ⟨rb, 1, none⟩ (.slice qo n qc)) := by
  subst hn
  have hset2 : Fr (fun j => j = rb) w2 (w2.setCell ⟨rb, 1, none⟩ (.slice qo T.length qc)) := (Fr.refl (fun j => j = rb) w2).setCell (p := ⟨rb, 1, none⟩) (fun _ => rfl) _
  have hall : Fr (fun j => j = rb) w (w2.setCell ⟨rb, 1, none⟩ (.slice qo T.length qc)) := (Fr.of_below (T := fun j => j = rb) hb).trans hset2 (fun _ _ e => e)
  have hrl := h.blk.lt
  have hnew : ∀ j, rowOf qo j → w.heap.size ≤ j := fun j hj => by
    obtain ⟨a, rfl, rfl⟩ := hj
    exact hr.block.1
  have hall2 : Fr (fun k => k = rb ∨ rowOf lo k) w (w2.setCell ⟨rb, 1, none⟩ (.slice qo T.length qc)) := hall.mono (fun _ _ e => Or.inl e)
  exact ⟨⟨qo, qc, h.low, (h.blk.below hb hrl).set_ 1 _, (hr.base hB).fr hset2 (fun j hj e => by have := hnew j hj; omega)⟩, h.keeps hall2, h.belowB hB hall2⟩

set_option maxRecDepth 100000 in
set_option maxHeartbeats 4000000 in
theorem rtake_any (B : Nat) (w : World) (rb : Nat) (most : Int) (next : Nat) (S : List Nat) (id : Nat) (c : Int) (h : RfA B w rb most next S) (hB : B ≤ w.heap.size) (hlen : S.length ≤ 64) (hid : id < 18446744073709551616) (hc0 : -9223372036854775808 ≤ c) (hc1 : c ≤ 9223372036854775807) :
    Calls Try.prog 22 #[.pointer (some ⟨rb, 0, none⟩), .int .u64 (id : Int), .int .i64 c] w fun e w' => e = .returned (.int .i64 (takeE S id c)) ∧ DStep B rb most next (takeS S id c) w w' := by
  by_cases h1 : c < 1 ∨ 64 < c
  · have hE : takeE S id c = 2 := by unfold takeE; rw [if_pos h1]
    rw [hE, take_bad hE (by omega)]
    rcases h1 with h1 | h1
    · go_enter Try.func22, Try.ntmps22
      go_wp2_with fail
      go_ret
      exact ⟨rfl, h.here⟩
    · go_enter Try.func22, Try.ntmps22
      go_wp2_with fail
      go_ret
      exact ⟨rfl, h.here⟩
  · have h2 : 1 ≤ c := by omega
    have h3 : c ≤ 64 := by omega
    clear hc0 hc1
    obtain ⟨n, rfl⟩ := Int.eq_ofNat_of_zero_le (show 0 ≤ c by omega)
    by_cases h4 : far < id
    · have hE : takeE S id n = 17 := by unfold takeE; rw [if_neg h1, if_pos h4]
      rw [hE, take_bad hE (by omega)]
      unfold far at h4
      clear h1
      have h5 : (4611686018427387904 : Int) < (id : Int) := by omega
      go_enter Try.func22, Try.ntmps22
      go_wp2_with fail
      go_ret
      exact ⟨rfl, h.here⟩
    · have h4' : id ≤ 4611686018427387904 := by unfold far at h4; omega
      have hE : takeE S id n = if allIn S id n then 0 else 17 := by unfold takeE; rw [if_neg h1, if_neg h4]; rfl
      clear h1 h4 hid
      have HA := Lib.hid h
      have HE0 := Lib.hid hE
      clear h hE
      go_enter Try.func22, Try.ntmps22
      go_wp2_with fail
      go_loop [7] (fun s => ∃ k : Nat, k ≤ n ∧ s = .int .i64 k ∧ Hid (∀ j, j < k → id + j ∈ S)) (fun s => n - (intOf s).toNat)
      case atStart => exact ⟨0, Nat.zero_le _, rfl, fun j hj => absurd hj (Nat.not_lt_zero _)⟩
      case round =>
        obtain ⟨k, hk, rfl, hf⟩ := hrel
        by_cases hlt : k < n
        · have hcv : (id : Int) + (k : Int) = ((id + k : Nat) : Int) := by omega
          have HAS := Lib.hid (rhas_any B w rb most next S (id + k) HA.out hlen)
          rw [← hcv] at HAS
          by_cases hin : id + k ∈ S
          · have hin' : decide (id + k ∈ S) = true := decide_eq_true hin
            rw [hin'] at HAS
            have HF2 : Hid (∀ j, j < k + 1 → id + j ∈ S) := fun j hj => by
              by_cases e : j = k
              · subst e; exact hin
              · exact hf.out j (by omega)
            clear hin hin' hf hcv
            go_wp2_with (first | (go_at_call 24; refine HAS.out.mono ?_; rintro e w' ⟨rfl, rfl⟩))
            go_round
            case rel => exact ⟨k + 1, by omega, by go_num, HF2.out⟩
            case measure => simp [intOf]; omega
          · have hin' : decide (id + k ∈ S) = false := decide_eq_false hin
            rw [hin'] at HAS
            have hE' : takeE S id n = 17 := by
              rw [HE0.out, if_neg]
              intro hall
              exact hin ((allIn_iff S id n).1 hall k hlt)
            have HE := Lib.hid hE'
            clear hE' hin hin' hf HE0 hcv
            go_wp2_with (first | (go_at_call 24; refine HAS.out.mono ?_; rintro e w' ⟨rfl, rfl⟩))
            go_ret
            rw [HE.out, take_bad HE.out (by omega)]
            exact ⟨rfl, HA.out.here⟩
        · have hkn : k = n := by omega
          subst hkn
          have hall : allIn S id k = true := (allIn_iff S id k).2 hf.out
          have hE' : takeE S id k = 0 := by rw [HE0.out, if_pos hall]
          have HE := Lib.hid hE'
          have HT : Hid (takeS S id k = cutS S id k) := by show _ = _; unfold takeS; rw [if_pos hE']; rfl
          obtain ⟨lo, lc, hra⟩ := HA.out
          have HR := Lib.hid hra
          have c1 := hra.c1
          have hrl := hra.blk.lt
          obtain ⟨i0, hi0, hz0, hz1, hz2⟩ := info_parts inf29
          clear HE0 hE' hall hf hra
          go_wp2_with fail
          go_loopw [8, 9] (fun s8 s9 wr => ∃ (i m : Nat) (qo : Option Addr) (qc : Nat), i ≤ S.length ∧ m ≤ i ∧ Hid (m = (cutS (S.take i) id k).length) ∧ s9 = .int .i64 i ∧ s8 = .slice qo m qc ∧ Hid (Row w.heap.size wr 29 1 qo m qc (un (cutS (S.take i) id k))) ∧ Hid (Below w.heap.size w wr)) (fun _ s9 _ => S.length - (intOf s9).toNat)
          case atStart => exact ⟨0, 0, none, 0, Nat.zero_le _, Nat.zero_le _, rfl, rfl, rfl, Row.nil _ _ _ _, Below.refl _ _⟩
          case round =>
            obtain ⟨i, m, qo, qc, hi1, hmi, hm, rfl, rfl, hrow, hbl⟩ := hrel
            have c1' : wr.cell? ⟨rb, 1, none⟩ = some (.slice lo S.length lc) := (hbl.out.cell (p := ⟨rb, 1, none⟩) hrl).trans c1
            by_cases hlt : i < S.length
            · have hi2 : S[i]? = some S[i] := List.getElem?_eq_getElem hlt
              obtain ⟨g, rfl, hgl, d0⟩ := HR.out.elem hi2
              have d0' : wr.cell? ⟨g, i, none⟩ = some (.int .u64 (S[i] : Int)) := (hbl.out.cell (p := ⟨g, i, none⟩) hgl).trans d0
              have HTK := Lib.hid (cut_step id k hi2)
              have hi3 : (i : Int) < (S.length : Int) := by omega
              clear hi2 d0
              generalize S[i] = y at *
              have i4 : IntKind.u64.wrap ((id : Int) + (k : Int)) = (id : Int) + (k : Int) := IntWalk.u64_in _ (by omega)
              by_cases hc : y < id ∨ id + k ≤ y
              · rw [if_pos hc] at HTK
                by_cases hc1 : y < id
                · have q1 : (y : Int) < (id : Int) := by omega
                  clear hc hc1
                  have hal : Below w.heap.size wr (wr.alloc (.cells #[.int .u64 (y : Int)] 29)) := (Below.refl _ _).alloc hbl.out.size _
                  have HB4 : Hid (Below w.heap.size w (wr.alloc (.cells #[.int .u64 (y : Int)] 29))) := hbl.out.trans hal
                  have HR4 : Hid (Row w.heap.size (wr.alloc (.cells #[.int .u64 (y : Int)] 29)) 29 1 qo m qc (un (cutS (S.take i) id k))) := hrow.out.fr ((Fr.refl none0 wr).alloc _) (fun _ _ h => h)
                  have HS4 : Hid (Src (wr.alloc (.cells #[.int .u64 (y : Int)] 29)) 1 (some ⟨wr.heap.size, 0, none⟩) 1 [.int .u64 (y : Int)]) := by
                    refine ⟨rfl, fun j u hj => ⟨wr.heap.size, 0, rfl, by simp, ?_⟩⟩
                    rw [Nat.zero_add, (Blk.new wr 29 #[.int .u64 (y : Int)]).cell j]
                    simpa using hj
                  have HNM : Hid (m + 1 = (cutS (S.take (i + 1)) id k).length) := by
                    show _ = _
                    rw [HTK.out, List.length_append, ← hm.out]; rfl
                  have HVL : Hid (un (cutS (S.take i) id k) ++ [.int .u64 (y : Int)] = un (cutS (S.take (i + 1)) id k)) := by
                    show _ = _
                    rw [HTK.out, un_append]; rfl
                  clear hal
                  go_wp2_with (at_builtin; refine wpList_append_src _ rfl (.tmp 62) (.tmp 70) 40 rfl w.heap.size 29 i0 _ 1 8 Try.underlying40 hi0 hz0 hz1 hz2 rfl (by decide) qo m qc (un (cutS (S.take i) id k)) rfl HR4.out (some ⟨wr.heap.size, 0, none⟩) 1 1 [.int .u64 (y : Int)] rfl HS4.out (by intro u hu; simp at hu; subst hu; rfl) ?_ ?_ ?_ ?_)
                  · unfold maxLen; omega
                  · omega
                  · first | exact HB4.out.size | (have := hbl.out.size; omega)
                  intro lo' lc' w5 hr5 hf5 _
                  rw [HVL.out] at hr5
                  have HR5 := Lib.hid hr5
                  have HB5 : Hid (Below w.heap.size w w5) := ((Fr.of_below (T := none0) HB4.out).rowed HR4.out (Nat.le_refl _) hf5).below (Nat.le_refl _) (fun _ h => h.elim)
                  clear hr5 hf5
                  go_wp2_with fail
                  go_roundw
                  case rel => exact ⟨i + 1, m + 1, lo', lc', by omega, by omega, HNM.out, by go_num, by go_num, HR5.out, HB5.out⟩
                  case measure => simp [intOf]; omega
                · have q1 : ¬ (y : Int) < (id : Int) := by omega
                  have q2 : (id : Int) + (k : Int) ≤ (y : Int) := by omega
                  clear hc hc1
                  have hal : Below w.heap.size wr (wr.alloc (.cells #[.int .u64 (y : Int)] 29)) := (Below.refl _ _).alloc hbl.out.size _
                  have HB4 : Hid (Below w.heap.size w (wr.alloc (.cells #[.int .u64 (y : Int)] 29))) := hbl.out.trans hal
                  have HR4 : Hid (Row w.heap.size (wr.alloc (.cells #[.int .u64 (y : Int)] 29)) 29 1 qo m qc (un (cutS (S.take i) id k))) := hrow.out.fr ((Fr.refl none0 wr).alloc _) (fun _ _ h => h)
                  have HS4 : Hid (Src (wr.alloc (.cells #[.int .u64 (y : Int)] 29)) 1 (some ⟨wr.heap.size, 0, none⟩) 1 [.int .u64 (y : Int)]) := by
                    refine ⟨rfl, fun j u hj => ⟨wr.heap.size, 0, rfl, by simp, ?_⟩⟩
                    rw [Nat.zero_add, (Blk.new wr 29 #[.int .u64 (y : Int)]).cell j]
                    simpa using hj
                  have HNM : Hid (m + 1 = (cutS (S.take (i + 1)) id k).length) := by
                    show _ = _
                    rw [HTK.out, List.length_append, ← hm.out]; rfl
                  have HVL : Hid (un (cutS (S.take i) id k) ++ [.int .u64 (y : Int)] = un (cutS (S.take (i + 1)) id k)) := by
                    show _ = _
                    rw [HTK.out, un_append]; rfl
                  clear hal
                  go_wp2_with (at_builtin; refine wpList_append_src _ rfl (.tmp 62) (.tmp 70) 40 rfl w.heap.size 29 i0 _ 1 8 Try.underlying40 hi0 hz0 hz1 hz2 rfl (by decide) qo m qc (un (cutS (S.take i) id k)) rfl HR4.out (some ⟨wr.heap.size, 0, none⟩) 1 1 [.int .u64 (y : Int)] rfl HS4.out (by intro u hu; simp at hu; subst hu; rfl) ?_ ?_ ?_ ?_)
                  · unfold maxLen; omega
                  · omega
                  · first | exact HB4.out.size | (have := hbl.out.size; omega)
                  intro lo' lc' w5 hr5 hf5 _
                  rw [HVL.out] at hr5
                  have HR5 := Lib.hid hr5
                  have HB5 : Hid (Below w.heap.size w w5) := ((Fr.of_below (T := none0) HB4.out).rowed HR4.out (Nat.le_refl _) hf5).below (Nat.le_refl _) (fun _ h => h.elim)
                  clear hr5 hf5
                  go_wp2_with fail
                  go_roundw
                  case rel => exact ⟨i + 1, m + 1, lo', lc', by omega, by omega, HNM.out, by go_num, by go_num, HR5.out, HB5.out⟩
                  case measure => simp [intOf]; omega
              · rw [if_neg hc] at HTK
                have q1 : ¬ (y : Int) < (id : Int) := by omega
                have q2 : ¬ (id : Int) + (k : Int) ≤ (y : Int) := by omega
                have HM2 : Hid (m = (cutS (S.take (i + 1)) id k).length) := by show _ = _; rw [HTK.out]; exact hm.out
                have HRW2 : Hid (Row w.heap.size wr 29 1 qo m qc (un (cutS (S.take (i + 1)) id k))) := by show Row _ _ _ _ _ _ _ _; rw [HTK.out]; exact hrow.out
                clear hc
                go_wp2_with fail
                go_roundw
                case rel => exact ⟨i + 1, m, qo, qc, by omega, by omega, HM2.out, by go_num, by go_num, HRW2.out, hbl.out⟩
                case measure => simp [intOf]; omega
            · have hie : i = S.length := by omega
              have hi3 : ¬ (i : Int) < (S.length : Int) := by omega
              have hm2 : m = (cutS S id k).length := by have := hm.out; rw [hie, List.take_length] at this; exact this
              have hrow2 : Row w.heap.size wr 29 1 qo m qc (un (cutS S id k)) := by have := hrow.out; rw [hie, List.take_length] at this; exact this
              have HP := Lib.hid (HR.out.turn hB hbl.out hm2 hrow2)
              have f1 := (HR.out.blk.below hbl.out hrl).frozen 1
              have hwl : rb < wr.heap.size := (HR.out.blk.below hbl.out hrl).lt
              clear hie hm2 hrow2
              go_wp2_with fail
              go_ret
              rw [HE.out, HT.out]
              exact ⟨rfl, HP.out⟩
end Go.Proofs.Yteglklcaaicjjaa
