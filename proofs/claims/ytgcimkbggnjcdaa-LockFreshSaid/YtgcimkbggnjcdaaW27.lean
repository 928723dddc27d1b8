/- LockFresh, by a walk over the contracts. -/
import Derived.Test.YtgcimkbggnjcdaaW26
import Derived.SizedLaws
namespace Go.Proofs.Ytgcimkbggnjcdaa
open Go.RowKit Go.WideShapes

open Go.ChangeShapes Go.Deep in
/-- How long a slice that came in can be. -/
theorem sized_len {H : Type} {enc : TypeId × Value → H} {P : Program} {w : World} {t e : TypeId} {ao : Option Addr} {n c : Nat} {d : DataW H} {p : List MemPlace} (ht : P.underlying t = some (.slice e)) (h : DataW.Trod enc P w 0 (fun _ => true) true t (.slice ao n c) d p)
    {ts : List TypeId} {ds : List (DataW H)} (hs : (DataW.weightsEach P ts ds).all (· ≤ reachBytes) = true) {j : Nat} (hj : ts[j]? = some t) (hd : ds[j]? = some d) : n * P.bytesOf e ≤ reachBytes := by
  obtain ⟨fuel, hf⟩ := h
  rcases open_slice ht hf with ⟨h1, _⟩ | ⟨a, len, cap, m, k, D, Pl, hcs, _, _, _, _, hx, _⟩
  · simp [Value.cells] at h1
    obtain ⟨_, rfl, _⟩ := h1
    rw [Nat.zero_mul]; exact Nat.zero_le _
  · simp [Value.cells] at hcs
    obtain ⟨_, rfl, _⟩ := hcs
    injection hx with hx _
    subst hx
    have := sized_slice hs hj hd ht
    refine Nat.le_trans (Nat.mul_le_mul_right _ ?_) this
    simp

theorem wpList_append_wide {P : Program} {w : World} {ops : Array Oper} {rest : List Oper} {o : Oper} {a : Act} {Q : Exit → Act → World → Prop} (hgd : o.guard = none) (s x : Operand) (t : TypeId)
    (ho : o.op = .call { callee := .builtin .append, args := #[s, x], argTypes := #[t, t] })
    (e : TypeId) (i : TypeInfo) (z : Value) (K bytes : Nat) (ht : P.underlying t = some (.slice e)) (hi : P.info? e = some i) (hz : i.zero = some z)
    (hsize : i.size = K) (hby : i.bytes = bytes) (hzs : z.cells.size = K) (hsz : 0 < K)
    (B : Nat) (ao : Option Addr) (n cap : Nat) (xs : List Value) (hs : a.eval s = .slice ao n cap) (hown : Row B w e K ao n cap xs)
    (ad : Addr) (m c : Nat) (news : List Value) (hx : a.eval x = .slice (some ad) m c) (hl : news.length = m * K) (hnews : ∀ j u, news[j]? = some u → w.cell? (ad.add j) = some u) (h1 : ∀ u ∈ news, u.oneCell' = true)
    (hsm : n + m ≤ maxLen) (hby2 : (n + m) * bytes ≤ 140737488355328) (hbase : B ≤ w.heap.size)
    (h : ∀ ao' cap' w', Row B w' e K ao' (n + m) cap' (xs ++ news) → Fr (rowOf ao) w w' → wpList P ops Q rest (a.put o.dst (.slice ao' (n + m) cap')) w') : wpList P ops Q (o :: rest) a w := by
  refine wpList_append_own w hgd s x t ho B e i z K bytes ht hi hz hsize hby hzs hsz (.slice ao n cap) n xs hs hown ad m c news hx hl hnews h1 hsm hby2 hbase ?_
  intro v' w' hr hg hnil
  have hr2 := hr.2
  have hfr : Fr (rowOf ao) w w' := (Fr.refl _ w).grown hg (fun k _ hk => by
    cases ao with
    | none => cases hk
    | some ad => injection hk with hk; exact ⟨ad, rfl, hk.symm⟩)
  rcases hr2 with ⟨rfl, h0⟩ | ⟨g, cap', cur, rfl, _⟩
  · have hn0 : n = 0 := by omega
    have hm0 : m = 0 := by omega
    subst hn0 hm0
    exact h none 0 w' hr hfr
  · exact h (some ⟨g, 0, none⟩) cap' w' hr hfr

/-- The locks that a slice holds. -/
def listOf (L : Nat → Lk) (n : Nat) : List Lk := (List.range n).map L
theorem listOf_length (L : Nat → Lk) (n : Nat) : (listOf L n).length = n := by unfold listOf; simp
theorem listOf_at (L : Nat → Lk) {n k : Nat} (h : k < n) : (listOf L n)[k]? = some (L k) := by unfold listOf; simp [h]
theorem lks_flat {w : World} {b o n : Nat} {L : Nat → Lk} (h : Lks w (some ⟨b, o, none⟩) n L) : ∀ j u, (flat (listOf L n))[j]? = some u → w.cell? ⟨b, o + j, none⟩ = some u := by
  intro j u hj
  have hjl : j < n * 4 := by
    have := (List.getElem?_eq_some_iff.1 hj).1
    rw [flat_length, listOf_length] at this
    exact this
  obtain ⟨k, r, hr, rfl⟩ : ∃ k r, r < 4 ∧ j = k * 4 + r := ⟨j / 4, j % 4, Nat.mod_lt _ (by omega), by omega⟩
  have hk : k < n := by omega
  obtain ⟨b', o', e, _, c0, c1, c2, c3⟩ := h k hk
  injection e with e
  injection e with e1 e2
  subst e1 e2
  rw [flat_at (listOf_at L hk) hr] at hj
  rcases (show r = 0 ∨ r = 1 ∨ r = 2 ∨ r = 3 by omega) with rfl | rfl | rfl | rfl
  · injection hj with hj; subst hj; exact c0
  · injection hj with hj; subst hj; rw [← Nat.add_assoc]; exact c1
  · injection hj with hj; subst hj; rw [← Nat.add_assoc]; exact c2
  · injection hj with hj; subst hj; rw [← Nat.add_assoc]; exact c3
theorem lks_row {B : Nat} {w : World} {ro : Option Addr} {n rc : Nat} {L : Nat → Lk} (h : Row B w 34 4 ro n rc (flat (listOf L n))) : Lks w ro n L := by
  intro k hk
  obtain ⟨g, rfl⟩ := h.form (by omega)
  obtain ⟨d0, d1, d2, d3⟩ := row_cells (S := listOf L n) h (listOf_at L hk)
  refine ⟨g, 0, rfl, World.block_lt_of_cell? w _ d0, ?_, ?_, ?_, ?_⟩
  · rw [Nat.zero_add]; exact d0
  · rw [Nat.zero_add]; exact d1
  · rw [Nat.zero_add]; exact d2
  · rw [Nat.zero_add]; exact d3
/-- CopyLocks at what came in. -/
theorem copy_in (w : World) (lo : Option Addr) (n c : Nat) (L : Nat → Lk) (hL : Lks w lo n L) (hn : n * 32 ≤ 140737488355328) (h0 : lo = none → n = 0 ∧ c = 0) :
    Calls Try.prog 18 #[.slice lo n c] w fun e w' => ∃ ro rc, e = .returned (.slice ro n rc) ∧ Row w.heap.size w' 34 4 ro n rc (flat (listOf L n)) ∧ Below w.heap.size w w' := by
  obtain ⟨i0, hi, hz0, hz1, hz2⟩ := info_parts inf34
  cases lo with
  | none =>
    obtain ⟨rfl, rfl⟩ := h0 rfl
    clear h0 hL
    go_enter Try.func18, Try.ntmps18
    go_wp2
    go_ret
    exact ⟨none, 0, rfl, Row.nil _ _ _ _, Below.refl _ _⟩
  | some ad =>
    have HV : Hid (∀ j u, (flat (listOf L n))[j]? = some u → w.cell? (ad.add j) = some u) := by
      intro j u hj
      by_cases hn0 : n = 0
      · subst hn0; simp [listOf, flat] at hj
      · obtain ⟨b, o, e, _⟩ := hL 0 (by omega)
        injection e with e
        subst e
        rw [add_plain]
        exact lks_flat hL j u hj
    have HLEN : Hid ((flat (listOf L n)).length = n * 4) := by show _ = _; rw [flat_length, listOf_length]
    clear h0 hL
    go_enter Try.func18, Try.ntmps18
    go_wp2_with (at_builtin; refine wpList_append_wide rfl (.tmp 4) (.tmp 5) 30 rfl 34 i0 _ 4 32 Try.underlying30 hi hz0 hz1 hz2 rfl (by decide) w.heap.size none 0 0 [] rfl (Row.nil _ _ _ _) ad n c (flat (listOf L n)) rfl HLEN.out HV.out (flat_one _) ?_ ?_ ?_ ?_)
    · unfold maxLen; omega
    · omega
    · omega
    intro ro rc w4 hr4 hf4
    have HR4 := Lib.hid hr4
    have HB4 : Hid (Below w.heap.size w w4) := hf4.below (Nat.le_refl _) (fun k ⟨a, ha, _⟩ => by cases ha)
    clear hr4 hf4
    go_wp2_with fail
    go_ret
    refine ⟨ro, rc, ?_, ?_, HB4.out⟩
    · first | rfl | (rw [Nat.zero_add])
    · have := HR4.out; first | exact this | (rw [Nat.zero_add] at this; exact this)

theorem locks_in (B : Nat) (w : World) (ao lo : Option Addr) (n c c' : Nat) (L : Nat → Lk) (hr : Row B w 34 4 ao n c (flat (listOf L n))) (hL : Lks w lo n L) (hn : n ≤ 9223372036854775806) :
    Calls Try.prog 17 #[.slice ao n c, .slice lo n c'] w fun e w' => e = .returned (.bool true) ∧ Below w.heap.size w w' := by
  have HR := Lib.hid hr
  have HL := Lib.hid hL
  clear hr hL
  go_enter Try.func17, Try.ntmps17
  go_wp2_with fail
  go_loopw [4, 5] (fun _ s5 wr => ∃ k : Nat, k ≤ n ∧ s5 = .int .i64 k ∧ Hid (Below w.heap.size w wr)) (fun _ s _ => n - (intOf s).toNat)
  case atStart => exact ⟨0, Nat.zero_le _, rfl, Below.refl _ _⟩
  case round =>
    obtain ⟨k, hk, rfl, hf⟩ := hrel
    by_cases hlt : k < n
    · obtain ⟨g, rfl⟩ := HR.out.form (by omega)
      obtain ⟨b, o, rfl, hbl, e0, e1, e2, e3⟩ := HL.out.below (Nat.le_refl _) hf.out k hlt
      have hk2 := listOf_at L hlt
      obtain ⟨d0, d1, d2, d3⟩ := row_cells (S := listOf L n) (HR.out.fr (Fr.of_below (T := none0) hf.out) (fun _ _ h => h)) hk2
      clear hk2
      generalize L k = y at *
      obtain ⟨yo, ya, yn, ym⟩ := y
      dsimp only at d0 d1 d2 d3 e0 e1 e2 e3
      have i1 : (0 : Int) ≤ (k : Int) := by omega
      have i2 : (k : Int) < (n : Int) := by omega
      go_wp2_with fail
      go_quiet (fail)
      go_wp2_with fail
      go_roundw
      case rel => exact ⟨k + 1, by omega, by go_num, below_drewN hf.out _⟩
      case measure => simp [intOf]; omega
    · go_wp2_with fail
      go_ret
      exact ⟨rfl, hf.out⟩
end Go.Proofs.Ytgcimkbggnjcdaa
