/- In every row of steps a list and two cursors answer what a sorted list would. No condition. -/
import Derived.Test.YtnafhjgfkofkbaaBunJ
import Derived.Test.YtnafhjgfkofkbaaBunL
import Derived.Deep.DeepCutAuto
import Derived.Deep.CutBlock
/- How a slice of hops (a step, which, a cell, a height) is opened. No program is in sight here. -/
namespace Go.Proofs.Ytnafhjgfkofkbaa
set_option linter.unusedVariables false
set_option linter.unusedSimpArgs false
open Go.ChangeShapes Go.WideShapes Go.ChangeAt Go.RowKit Go.Deep
structure Hp where
  step : Int
  which : Int
  cell : Ci
  height : Int
instance : Inhabited Hp := ⟨⟨0, 0, ⟨[], 0, 0, []⟩, 0⟩⟩
def hpc (t : Hp) : List Value := [.int .i64 t.step, .int .i64 t.which, .string (str t.cell.key), .int .i64 t.cell.seq, .int .i64 t.cell.kind, .string (str t.cell.val), .int .i64 t.height]
def hpv (l : List Hp) : List Value := l.flatMap hpc
theorem hpv_get : ∀ (l : List Hp) (i k : Nat) (h : i < l.length), k < 7 → (hpv l)[i * 7 + k]? = (hpc l[i])[k]?
  | [], _, _, h, _ => by simp at h
  | x :: l, 0, k, _, hk => by
    unfold hpv
    rw [List.flatMap_cons, List.getElem?_append_left (by simp only [hpc, List.length_cons, List.length_nil]; omega)]
    simp
  | x :: l, i + 1, k, h, hk => by
    have := hpv_get l i k (by simpa using h) hk
    unfold hpv at this ⊢
    have h6 : (hpc x).length = 7 := rfl
    rw [List.flatMap_cons, List.getElem?_append_right (by omega), h6, show (i + 1) * 7 + k - 7 = i * 7 + k by omega, this]
    simp
theorem hpv_len : ∀ l : List Hp, (hpv l).length = l.length * 7
  | [] => rfl
  | x :: l => by
    have := hpv_len l
    unfold hpv at this ⊢
    rw [List.flatMap_cons, List.length_append, this, List.length_cons]
    show 7 + _ = _
    omega
theorem Row.hop {w : World} {ad : Option Addr} {l : List Hp} (h : Row w ad (hpv l)) (i : Nat) (hi : i < l.length) :
    ∃ b off, ad = some ⟨b, off, none⟩ ∧ ∀ k u, (hpc l[i])[k]? = some u → w.cell? ⟨b, off + (i * 7 + k), none⟩ = some u := by
  obtain ⟨b, off, e, _⟩ := h _ _ ((hpv_get l i 0 hi (by decide)).trans rfl)
  refine ⟨b, off, e, fun k u hu => ?_⟩
  have hk : k < 7 := (List.getElem?_eq_some_iff.1 hu).1
  obtain ⟨b', off', e', c⟩ := h _ _ ((hpv_get l i k hi hk).trans hu)
  rw [e] at e'
  cases e'
  exact c
section
variable {H : Type} {P : Program} {w : World} {enc : TypeId × Value → H}
theorem open_hops {base : Nat} {spare : Nat → Bool} {held : Bool} {r : Reach} {b0 : Nat} {t e : TypeId} {h0 h1 h2 h3 f0 f1 g0 g1 g2 : Field} {v : Value} {d : DataW H} {ps : List MemPlace} (ht : P.underlying t = some (.slice e)) (ce : P.cellsOf e = 7) (he : P.underlying e = some (.struct #[h0, h1, h2, h3]))
    (hoff : h0.offset = 0 ∧ h1.offset = 1 ∧ h2.offset = 2 ∧ h3.offset = 6) (hcs : P.cellsOf h0.type = 1 ∧ P.cellsOf h1.type = 1 ∧ P.cellsOf h2.type = 4 ∧ P.cellsOf h3.type = 1) (k0 : P.underlying h0.type = some (.int .i64)) (k1 : P.underlying h1.type = some (.int .i64)) (k3 : P.underlying h3.type = some (.int .i64))
    (hcell : P.underlying h2.type = some (.struct #[f0, f1])) (hv : P.underlying f0.type = some (.struct #[g0, g1, g2]))
    (ho : f0.offset = 0 ∧ f1.offset = 3 ∧ g0.offset = 0 ∧ g1.offset = 1 ∧ g2.offset = 2) (hc : P.cellsOf f0.type = 3 ∧ P.cellsOf f1.type = 1 ∧ P.cellsOf g0.type = 1 ∧ P.cellsOf g1.type = 1 ∧ P.cellsOf g2.type = 1)
    (s1 : P.underlying f1.type = some .string) (t0 : P.underlying g0.type = some .string) (t1 : P.underlying g1.type = some (.int .i64)) (t2 : P.underlying g2.type = some (.int .i64))
    (hval : Value.okWide P w r b0 t v) (hd : DataW.Trod enc P w base spare held t v d ps) :
    ∃ ad len cap, ∃ l : List Hp, v = .slice ad len cap ∧ l.length = len ∧ len ≤ cap ∧ cap ≤ maxLen ∧ Row w ad (hpv l) ∧ ∀ c ∈ l, c.cell.key.length ≤ maxLen ∧ c.cell.val.length ≤ maxLen := by
  obtain ⟨o0, o1, o2, o3⟩ := hoff
  obtain ⟨d0, d1, d2, d3⟩ := hcs
  obtain ⟨ad, len, cap, rfl⟩ := okWide_slice ht hval
  obtain ⟨fuel, hf⟩ := hd
  rcases open_slice ht hf with ⟨hcs, hx⟩ | ⟨a, l, c, m, n, D, Pl, hcs, hb, hl, hm, hmm, hx0, hx⟩
  · simp [Value.cells] at hcs
    obtain ⟨e1, e2, e3⟩ := hcs
    subst e1 e2 e3
    exact ⟨none, 0, 0, [], rfl, rfl, Nat.le_refl _, Nat.zero_le _, Row.nil _ _, fun c hc => by simp at hc⟩
  · simp [Value.cells] at hcs
    obtain ⟨e1, e2, e3⟩ := hcs
    subst e1 e2 e3
    have hlm : len ≤ m := by rw [hmm]; split <;> omega
    have each : ∀ i, i < m → ∃ q : Hp, (∀ k u, (hpc q)[k]? = some u → w.cell? (a.add (i * 7 + k)) = some u) ∧ q.cell.key.length ≤ maxLen ∧ q.cell.val.length ≤ maxLen := by
      intro i hi
      obtain ⟨cs', p1, p2⟩ := hx i hi
      rw [ce] at p1
      obtain ⟨_, hlen, hcl⟩ := World.cells?_some p1
      obtain ⟨xs, k, hk, hxy, _, hxl, hf⟩ := DataW.trod_struct he p2
      match xs, hxl, cs', hlen with
      | [y0, y1, y2, y3], _, [v0, v1, v2, v3, v4, v5, v6], _ =>
        have q0 := hf 0 h0 rfl
        have q1 := hf 1 h1 rfl
        have q2 := hf 2 h2 rfl
        have q3 := hf 3 h3 rfl
        simp [o0, d0] at q0
        simp [o1, d1] at q1
        simp [o2, d2] at q2
        simp [o3, d3] at q3
        obtain ⟨n0, w0, _, _⟩ := DataW.trod_int k0 q0
        obtain ⟨n1, w1, _, _⟩ := DataW.trod_int k1 q1
        obtain ⟨n3, w3, _, _⟩ := DataW.trod_int k3 q3
        obtain ⟨q, e, hq1, hq2, _⟩ := trod_cell (ver := e) hcell hv ho hc s1 t0 t1 t2 q2
        simp only [List.cons.injEq, and_true] at w0 w1 w3
        unfold c4 at e
        simp only [List.cons.injEq, and_true] at e
        obtain ⟨a0, a1, a2, a3⟩ := e
        subst w0 w1 w3 a0 a1 a2 a3
        refine ⟨⟨n0, n1, q, n3⟩, fun k u hku => ?_, hq1, hq2⟩
        have hk7 : k < 7 := (List.getElem?_eq_some_iff.1 hku).1
        have := hcl k hk7
        rw [add_add] at this
        rw [this]
        exact hku
    obtain ⟨q, hq⟩ := choose_lt each
    have hlen : ((List.range len).map q).length = len := by simp
    refine ⟨some a, len, cap, (List.range len).map q, rfl, hlen, hl, hm, ?_, ?_⟩
    · intro i u hi
      have hil : i < len * 7 := by
        have := (List.getElem?_eq_some_iff.1 hi).1
        rw [hpv_len, hlen] at this; exact this
      obtain ⟨b, off, spot⟩ := a
      have h0 := (hq 0 (by omega)).1 0 _ rfl
      have hspot : spot = none := by simpa [Addr.add] using World.cell?_spot h0
      subst hspot
      refine ⟨b, off, rfl, ?_⟩
      have hdm := Nat.div_add_mod i 7
      have hj : i / 7 < len := by omega
      have e : i = (i / 7) * 7 + i % 7 := by omega
      have hg := hpv_get ((List.range len).map q) (i / 7) (i % 7) (by rw [hlen]; exact hj) (Nat.mod_lt _ (by omega))
      rw [← e, hi] at hg
      simp only [List.getElem_map, List.getElem_range] at hg
      have := (hq (i / 7) (by omega)).1 (i % 7) u hg.symm
      rw [Go.WideShapes.add_plain, ← e] at this
      exact this
    · intro c hc
      obtain ⟨i, hi, rfl⟩ := List.mem_map.1 hc
      exact (hq i (by have := List.mem_range.1 hi; omega)).2
end
end Go.Proofs.Ytnafhjgfkofkbaa
/- Layer 11 (skip): SkipHops (under way: the loop and what is behind it are not written). -/
namespace Go.Proofs.Ytnafhjgfkofkbaa
set_option linter.unusedVariables false
set_option linter.unusedSimpArgs false
open Go.RowKit Ikey Varint
theorem u64_mod (x : Int) (m : Nat) (hm : 0 < m) (h : m ≤ 4611686018427387904) : ∃ a : Nat, IntKind.i64.wrap ((IntKind.u64.wrap x).tmod (m : Int)) = (a : Int) ∧ a < m := by
  have h0 : 0 ≤ IntKind.u64.wrap x := by rw [IntKind.wrap_u64]; omega
  have h1 : (IntKind.u64.wrap x).tmod (m : Int) = IntKind.u64.wrap x % (m : Int) := Int.tmod_eq_emod_of_nonneg h0
  have h2 := Int.emod_nonneg (IntKind.u64.wrap x) (show (m : Int) ≠ 0 by omega)
  have h3 := Int.emod_lt_of_pos (IntKind.u64.wrap x) (show (0 : Int) < m by omega)
  obtain ⟨a, ha⟩ := Int.eq_ofNat_of_zero_le h2
  refine ⟨a, ?_, by omega⟩
  rw [h1, ha, IntKind.wrap_i64]
  omega
theorem cells_four {w : World} {g : Nat} {t : TypeId} {a b c d : Value} (h : Blk w g t [a, b, c, d]) : w.cell? ⟨g, 0, none⟩ = some a ∧ w.cell? ⟨g, 1, none⟩ = some b ∧ w.cell? ⟨g, 2, none⟩ = some c ∧ w.cell? ⟨g, 3, none⟩ = some d :=
  ⟨h.cell rfl, h.cell rfl, h.cell rfl, h.cell rfl⟩
set_option maxRecDepth 100000 in
set_option maxHeartbeats 4000000 in
theorem SkipHops_any (ad : Option Addr) (cap : Nat) (l : List Hp) (w : World) (hr : Row w ad (hpv l)) (hl : l.length ≤ 9223372036854775807) (hvl : ∀ c ∈ l, c.cell.val.length ≤ 9223372036854775807) :
    Calls Try.prog 7 #[.slice ad l.length cap] w fun e w' => e = .returned (.bool true) ∧ Gr w w' := by
  have HR := Lib.hid hr.hop
  have HVL := Lib.hid hvl
  have HI := Lib.hid (fun w => Insert_nil w [] 0 0 [] 1)
  unfold celV at HI
  have HC := Lib.hid (fun w => Cell_nil w)
  unfold zcE zeC at HC
  clear hr hvl
  go_enter Try.func7, Try.ntmps7
  go_wp2_with (first
    | (go_at_call 22; go_must (refine (none_any _).mono ?_); rintro e w' ⟨rfl, rfl⟩)
    | (go_at_call 24; go_must (refine (nowhere_any _).mono ?_); rintro e w' ⟨rfl, rfl⟩)
    | (go_at_call 23; go_must (refine (Freeze_nil _).mono ?_); rintro e w' ⟨rfl, rfl⟩)
    | (go_at_call 17; go_must (refine (HC.out _).mono ?_); rintro e w1 ⟨rfl, g1⟩)
    | (go_at_call 8; go_must (refine (skips_any _).mono ?_); rintro e w2 ⟨rfl, g2⟩)
    | (go_at_call 12; go_must (refine (HI.out _).mono ?_); rintro e w3 ⟨rfl, g3⟩)
    | (go_at_call 25; go_must (refine (Count_nil _).mono ?_); rintro e w' ⟨rfl, rfl⟩)
    | (go_at_call 26; go_must (refine (Weight_nil _).mono ?_); rintro e w' ⟨rfl, rfl⟩)
    | (go_at_call 20; go_must (refine (Free_nil _).mono ?_); rintro e w' ⟨rfl, rfl⟩)
    | (go_at_call 19; go_must (refine (Next_nil _).mono ?_); rintro e w' ⟨rfl, rfl⟩)
    | (go_at_call 11; go_must (refine (field_any _ _ (Gr.refl _) 200 (by decide) (by decide)).mono ?_); rintro e w4 ⟨g, gl, S0, rfl, k2, hsl, _, _⟩; have T0 : RowKit.Hid True := trivial)
    | (go_at_call 14; (with_reducible refine (Cursor_nil _).mono ?_); rintro e w' ⟨rfl, rfl⟩)
    | (go_at_call 14; clear T0; go_must (refine (Cursor_any _ _).mono ?_); rintro e w5 ⟨rfl, b5, g5⟩)
    | (go_at_call 14; go_must (refine (Cursor_any _ _).mono ?_); rintro e w6 ⟨rfl, b6, g6⟩)
    | fail)
  rw [size_alloc1] at b5
  obtain ⟨w8, hw8, gm, gc0, gc1, aa, hc0, hc1, ab, ⟨e1, e2, e3, e4, e5, e6, e7⟩, HI0, hA0, la, lb⟩ := hops_start hsl b5 g5 b6 g6
  rw [← hw8, ← e7, ← e4]
  have hmz : gm = w4.heap.size := e1
  rw [← e1]
  have HA := Lib.hid hA0
  have HI1 := Lib.hid (show HopJ w3 w8 (HX gc0 gc1 hc0 hc1 aa ab) (HZ aa ab) g gl gm gc0 gc1 hc0 hc1 0 w8 from ⟨[], false, .front, .front, Nat.le_refl _, HI0⟩)
  have GW := Lib.hid (show Gr w w3 from g1.trans ((Gr.alloc _ _).trans (g2.trans g3)))
  have HLA := Lib.hid (And.intro la lb)
  clear hA0 hw8 e1 e2 e3 e4 e5 e6 e7 hsl b5 g5 b6 g6 la lb k2 HI HC HI0 g1 g2 g3 hmz
  go_loopw [11] (fun vi wr => ∃ i : Nat, vi = .int .i64 (i : Int) ∧ i ≤ l.length ∧ i ≤ 150 ∧ HopJ w3 w8 (HX gc0 gc1 hc0 hc1 aa ab) (HZ aa ab) g gl gm gc0 gc1 hc0 hc1 i wr) (fun vi _ => 150 - (intOf vi).toNat)
  case atStart => exact ⟨0, rfl, Nat.zero_le _, Nat.zero_le _, HI1.out⟩
  case round =>
    clear HI1
    obtain ⟨i, rfl, hi, hi150, hJ⟩ := hrel
    by_cases hlt : i < l.length ∧ i < 150
    · obtain ⟨hlt, hlt2⟩ := hlt
      obtain ⟨b, off, hade, HC7⟩ := HR.out i hlt
      subst hade
      have hv := HVL.out l[i] (List.getElem_mem hlt)
      obtain ⟨C, fz, p0, p1, hCl, hI⟩ := hJ
      have gW := GW.out.trans hI.gr
      have f0 : wr.cell? ⟨b, off + i * 7, none⟩ = _ := gW.cell (HC7 0 _ rfl)
      have f1 : wr.cell? ⟨b, off + i * 7 + 1, none⟩ = _ := gW.cell (HC7 1 _ rfl)
      have f2 : wr.cell? ⟨b, off + i * 7 + 2, none⟩ = _ := gW.cell (HC7 2 _ rfl)
      have f3 : wr.cell? ⟨b, off + i * 7 + 3, none⟩ = _ := gW.cell (HC7 3 _ rfl)
      have f4 : wr.cell? ⟨b, off + i * 7 + 4, none⟩ = _ := gW.cell (HC7 4 _ rfl)
      have f5 : wr.cell? ⟨b, off + i * 7 + 5, none⟩ = _ := gW.cell (HC7 5 _ rfl)
      have f6 : wr.cell? ⟨b, off + i * 7 + 6, none⟩ = _ := gW.cell (HC7 6 _ rfl)
      clear HC7 HR HVL
      generalize l[i] = hp at *
      obtain ⟨step, which, ⟨key, seq, kind, val⟩, height⟩ := hp
      simp only at f0 f1 f2 f3 f4 f5 f6 hv
      obtain ⟨k, e1, hk⟩ := u64_mod which 2 (by decide) (by decide)
      have e1 : IntKind.i64.wrap ((IntKind.u64.wrap which).tmod 2) = (k : Int) := e1
      go_upto_block 2 with (fail)
      obtain ⟨bx, hbx⟩ : ∃ x, x = wr.heap.size := ⟨_, rfl⟩
      obtain ⟨wb, hwb⟩ : ∃ x, x = wr.alloc (.cells #[.int .i64 step, .int .i64 which, .string (str key), .int .i64 seq, .int .i64 kind, .string (str val), .int .i64 height] 64) := ⟨_, rfl⟩
      rw [← hwb, ← hbx]
      have gb : Gr wr wb := by rw [hwb]; exact Gr.alloc _ _
      have hB : Blk wb bx 64 [.int .i64 step, .int .i64 which, .string (str key), .int .i64 seq, .int .i64 kind, .string (str val), .int .i64 height] := by rw [hwb, hbx]; exact Blk.new _ _ _
      have hIb := hI.lay gb (by rw [← hbx]; exact hB.lt)
      rw [← hbx] at hIb
      have hAb : Arr wb aa ab gc0 gc1 hc0 hc1 := ⟨gb.cell (hI.zcell (.inl rfl) HA.out.a0), gb.cell (hI.zcell (.inl rfl) HA.out.a1), gb.cell (hI.zcell (.inr rfl) HA.out.b0), gb.cell (hI.zcell (.inr rfl) HA.out.b1)⟩
      obtain ⟨c0, c1, d0, d1, q0, q1, ca, cb, hIp, hback⟩ := hop_pick hk hIb hAb
      have HD := Lib.hid (show ∀ w', HopJ w3 wb (fun j => HX gc0 gc1 hc0 hc1 aa ab j ∨ j = bx) (fun j => HZ aa ab j ∨ j = bx) g gl gm c0 c1 d0 d1 (i + 1) w' → HopJ w3 w8 (HX gc0 gc1 hc0 hc1 aa ab) (HZ aa ab) g gl gm gc0 gc1 hc0 hc1 (i + 1) w' from fun w' h => (hback _ _ _ _ _ h).drop ⟨.inl rfl, .inr (.inl rfl), .inr (.inr (.inl rfl)), .inr (.inr (.inr (.inl rfl)))⟩ (fun j hj => by
        obtain ⟨a1, a2, a3, a4⟩ := hI.zheap j hj
        exact ⟨a1, a2, (gb.block j a3).trans a4⟩))
      have HK := Lib.hid hIp
      have HDc := Lib.hid (show wb.drew.cell? ⟨aa, k, none⟩ = _ ∧ wb.drew.cell? ⟨ab, k, none⟩ = _ ∧ wb.drew.cell? ⟨bx, 2, none⟩ = some (.string (str key)) ∧ wb.drew.cell? ⟨bx, 3, none⟩ = some (.int .i64 seq) ∧ wb.drew.cell? ⟨bx, 4, none⟩ = some (.int .i64 kind) ∧ wb.drew.cell? ⟨bx, 5, none⟩ = some (.string (str val)) ∧ wb.drew.cell? ⟨bx, 6, none⟩ = some (.int .i64 height) from ⟨(Gr.drew wb).cell ca, (Gr.drew wb).cell cb, (Gr.drew wb).cell (hB.cell (i := 2) rfl), (Gr.drew wb).cell (hB.cell (i := 3) rfl), (Gr.drew wb).cell (hB.cell (i := 4) rfl), (Gr.drew wb).cell (hB.cell (i := 5) rfl), (Gr.drew wb).cell (hB.cell (i := 6) rfl)⟩)
      have HNa := Lib.hid (show ¬ Tt w3 (fun j => HZ aa ab j ∨ j = bx) aa from fun e => e.2 (.inl (.inl rfl)))
      have HNb := Lib.hid (show ¬ Tt w3 (fun j => HZ aa ab j ∨ j = bx) ab from fun e => e.2 (.inl (.inr rfl)))
      have HNx := Lib.hid (show ¬ Tt w3 (fun j => HZ aa ab j ∨ j = bx) bx from fun e => e.2 (.inr rfl))
      have y2 := hB.cell (i := 2) rfl
      have y3 := hB.cell (i := 3) rfl
      have HBz := Lib.hid (And.intro y2 y3)
      have hvl := hv
      clear hv y2 y3
      clear hwb hbx gb hB hIb hAb hIp hback ca cb hI gW f0 f1 f2 f3 f4 f5 f6 e1
      go_cut [14, 15] (fun s14 s15 wx => ∃ E : Int, s14 = .int .i64 E ∧ s15 = .int .i64 E ∧ HopJ w3 w8 (HX gc0 gc1 hc0 hc1 aa ab) (HZ aa ab) g gl gm gc0 gc1 hc0 hc1 (i + 1) wx)
      case first =>
        by_cases n3 : step = 3
        · subst n3
          have HS : Steps w3 wb (fun j => HX gc0 gc1 hc0 hc1 aa ab j ∨ j = bx) (fun j => HZ aa ab j ∨ j = bx) g gl gm c0 c1 d0 d1 i C fz q0 q1 29 30 #[.pointer (some ⟨c0, 0, none⟩)] #[.pointer (some ⟨d0, 0, none⟩)] := steps_first hCl (by omega)
          as_aux_lemma =>
            obtain ⟨E, K1, K2, s1, s2, s3⟩ := HS
            have HI1 := Lib.hid s1
            have HI2 := Lib.hid s2
            have HI3 := Lib.hid s3
            clear s1 s2 s3
            have HK0 := Lib.hid (KInv.mk (K := KK (HopI w3 wb (fun j => HX gc0 gc1 hc0 hc1 aa ab j ∨ j = bx) (fun j => HZ aa ab j ∨ j = bx) g gl gm c0 c1 d0 d1 (200 - i) C C fz q0 q1 q0 q1) K1 K2) (m := 2) (s := (wb.drew, 0)) (Nat.zero_le _) (HK.out.more (Gr.drew wb)))
            clear HBz HK hvl
            go_wp2
            refine region_ghostA (Le := KLe (Tt w3 (fun j => HZ aa ab j ∨ j = bx)) (KK (HopI w3 wb (fun j => HX gc0 gc1 hc0 hc1 aa ab j ∨ j = bx) (fun j => HZ aa ab j ∨ j = bx) g gl gm c0 c1 d0 d1 (200 - i) C C fz q0 q1 q0 q1) K1 K2) 2) (PreK fun k => if k = 4 then 0 else if k = 9 then 1 else 2) KLe.refl KLe.trans 0 PreK.start _ [IsG (.slice (some ⟨aa, 0, none⟩) 2 2), IsG (.int .i64 (k : Int)), IsG (.pointer (some ⟨aa, k, none⟩)), IsG (.pointer (some ⟨c0, 0, none⟩)), IsS (.int .i64 E) (AtK 1), IsG (.slice (some ⟨ab, 0, none⟩) 2 2), IsG (.int .i64 (k : Int)), IsG (.pointer (some ⟨ab, k, none⟩)), IsG (.pointer (some ⟨d0, 0, none⟩)), IsS (.int .i64 E) (AtK 2), IsG (.int .i64 E), IsG (.int .i64 E)] (by kernel_rfl) (by kernel_rfl) (by kernel_rfl) rfl rfl ⟨IsG.stable _, IsG.stable _, IsG.stable _, IsG.stable _, AtK.stable _ _, IsG.stable _, IsG.stable _, IsG.stable _, IsG.stable _, AtK.stable _ _, IsG.stable _, IsG.stable _, trivial⟩ ⟨?s0, ?s1, ?s2, ?s3, ?s4, ?s5, ?s6, ?s7, ?s8, ?s9, ?s10, ?s11, trivial⟩ ?fin
            case' s0 | s1 | s2 | s3 | s5 | s6 | s7 | s8 | s10 | s11 =>
              intro ρ wr gh hρ hg hK
              simp [readsOf, slotsOf, Op.operands, Call.operands, tmpOf, List.filterMap_cons, List.filterMap_nil, KnownAll, knownOf, srcOf, depsOf, dstOf, Region.binds, nthG, IsG, IsS] at hK
              obtain ⟨hc, hf, hgl⟩ := hρ
              try simp only [wantedBy, dstOf, boolOf, nthG, List.getD_cons_zero, List.getD_cons_succ, List.getElem?_cons_zero, List.getElem?_cons_succ, Option.bind_some, if_true, hK, BEq.rfl]
              try go_simp
              first | exact rfl | exact pureG KLe.refl rfl | (refine pureG KLe.refl ?_; go_simp; done) | (refine pureG KLe.refl ?_; rfl) | (rw [if_pos (by omega)]; exact pureG KLe.refl rfl) | (rw [dif_pos (by omega)]; exact pureG KLe.refl rfl) | exact pureG KLe.refl (congrArg (Value.int _) (IntWalk.i64_in _ ⟨by omega, by omega⟩)) | skip
            case' s4 | s9 =>
              intro ρ wr gh hρ hg hK
              simp [readsOf, slotsOf, Op.operands, Call.operands, tmpOf, List.filterMap_cons, List.filterMap_nil, KnownAll, knownOf, srcOf, depsOf, dstOf, Region.binds, nthG, IsG, IsS] at hK
              obtain ⟨hc, hf, hgl⟩ := hρ
              try simp only [wantedBy, dstOf, boolOf, nthG, List.getD_cons_zero, List.getD_cons_succ, List.getElem?_cons_zero, List.getElem?_cons_succ, Option.bind_some, if_true, hK, BEq.rfl]
            case s3 =>
              have z := hg.1.chg.cell HDc.out.1 HNa.out
              go_simp
              exact pureG KLe.refl rfl
            case s8 =>
              have z := hg.1.chg.cell HDc.out.2.1 HNb.out
              go_simp
              exact pureG KLe.refl rfl
            case s4 =>
              have HI := hg.1.inv HK0.out
              have hz : gh ≤ 0 := hg.2.1 4 (by kernel_rfl)
              obtain rfl : gh = 0 := by omega
              have hP : (HopI w3 wb (fun j => HX gc0 gc1 hc0 hc1 aa ab j ∨ j = bx) (fun j => HZ aa ab j ∨ j = bx) g gl gm c0 c1 d0 d1 (200 - i) C C fz q0 q1 q0 q1) wr := HI.at_
              have HPh := Lib.hid hP
              clear HI hP hz hg
              go_simp
              exact enterK (f2_ne (by decide)).1 (by decide) (HI1.out _ HPh.out)
            case s9 =>
              have HI := hg.1.inv HK0.out
              have hz : gh ≤ 1 := hg.2.1 9 (by kernel_rfl)
              obtain ⟨v9, _, h9⟩ := hg.2.2 4 (by decide)
              have h9 : 1 ≤ gh := h9
              obtain rfl : gh = 1 := by omega
              have hP : K1 wr := HI.at_
              have HPh := Lib.hid hP
              clear HI hP hz hg h9
              go_simp
              exact enterK (f2_ne (by decide)).2 (by decide) (HI2.out _ HPh.out)
            case fin =>
              intro w1 g1 val hg hH
              simp only [HoldsG, IsG, IsS, Nat.zero_add, Nat.reduceAdd] at hH
              obtain ⟨h0, h1, h2, h3, h4, h5, h6, h7, h8, h9, h10, h11, _⟩ := hH
              simp only [List.take_succ_cons, List.take_zero, List.drop_succ_cons, List.drop_zero, putAll, h0, h1, h2, h3, h5, h6, h7, h8, h10, h11, Nat.zero_add, Nat.reduceAdd]
              have h19b := h9.2
              have h19b : 2 ≤ g1 := h19b
              clear h9 h4
              have HI := hg.inv HK0.out
              have hle := HI.le
              obtain rfl : g1 = 2 := by simp only at hle; omega
              have hP : K2 w1 := HI.at_
              have HPn := Lib.hid (HD.out _ (HI3.out _ hP))
              clear HI hP hle hg HK0 HI1 HI2 HI3 HD HDc HNa HNb HNx
              go_simp
              go_wp2
              go_meet
              exact ⟨E, rfl, rfl, HPn.out⟩
        by_cases n4 : step = 4
        · subst n4
          have HS : Steps w3 wb (fun j => HX gc0 gc1 hc0 hc1 aa ab j ∨ j = bx) (fun j => HZ aa ab j ∨ j = bx) g gl gm c0 c1 d0 d1 i C fz q0 q1 31 32 #[.pointer (some ⟨c0, 0, none⟩)] #[.pointer (some ⟨d0, 0, none⟩)] := steps_last hCl (by omega)
          as_aux_lemma =>
            obtain ⟨E, K1, K2, s1, s2, s3⟩ := HS
            have HI1 := Lib.hid s1
            have HI2 := Lib.hid s2
            have HI3 := Lib.hid s3
            clear s1 s2 s3
            have HK0 := Lib.hid (KInv.mk (K := KK (HopI w3 wb (fun j => HX gc0 gc1 hc0 hc1 aa ab j ∨ j = bx) (fun j => HZ aa ab j ∨ j = bx) g gl gm c0 c1 d0 d1 (200 - i) C C fz q0 q1 q0 q1) K1 K2) (m := 2) (s := (wb.drew, 0)) (Nat.zero_le _) (HK.out.more (Gr.drew wb)))
            clear HBz HK hvl
            go_wp2
            refine region_ghostA (Le := KLe (Tt w3 (fun j => HZ aa ab j ∨ j = bx)) (KK (HopI w3 wb (fun j => HX gc0 gc1 hc0 hc1 aa ab j ∨ j = bx) (fun j => HZ aa ab j ∨ j = bx) g gl gm c0 c1 d0 d1 (200 - i) C C fz q0 q1 q0 q1) K1 K2) 2) (PreK fun k => if k = 4 then 0 else if k = 9 then 1 else 2) KLe.refl KLe.trans 0 PreK.start _ [IsG (.slice (some ⟨aa, 0, none⟩) 2 2), IsG (.int .i64 (k : Int)), IsG (.pointer (some ⟨aa, k, none⟩)), IsG (.pointer (some ⟨c0, 0, none⟩)), IsS (.int .i64 E) (AtK 1), IsG (.slice (some ⟨ab, 0, none⟩) 2 2), IsG (.int .i64 (k : Int)), IsG (.pointer (some ⟨ab, k, none⟩)), IsG (.pointer (some ⟨d0, 0, none⟩)), IsS (.int .i64 E) (AtK 2), IsG (.int .i64 E), IsG (.int .i64 E)] (by kernel_rfl) (by kernel_rfl) (by kernel_rfl) rfl rfl ⟨IsG.stable _, IsG.stable _, IsG.stable _, IsG.stable _, AtK.stable _ _, IsG.stable _, IsG.stable _, IsG.stable _, IsG.stable _, AtK.stable _ _, IsG.stable _, IsG.stable _, trivial⟩ ⟨?s0x1, ?s1x1, ?s2x1, ?s3x1, ?s4x1, ?s5x1, ?s6x1, ?s7x1, ?s8x1, ?s9x1, ?s10x1, ?s11x1, trivial⟩ ?finx1
            case' s0x1 | s1x1 | s2x1 | s3x1 | s5x1 | s6x1 | s7x1 | s8x1 | s10x1 | s11x1 =>
              intro ρ wr gh hρ hg hK
              simp [readsOf, slotsOf, Op.operands, Call.operands, tmpOf, List.filterMap_cons, List.filterMap_nil, KnownAll, knownOf, srcOf, depsOf, dstOf, Region.binds, nthG, IsG, IsS] at hK
              obtain ⟨hc, hf, hgl⟩ := hρ
              try simp only [wantedBy, dstOf, boolOf, nthG, List.getD_cons_zero, List.getD_cons_succ, List.getElem?_cons_zero, List.getElem?_cons_succ, Option.bind_some, if_true, hK, BEq.rfl]
              try go_simp
              first | exact rfl | exact pureG KLe.refl rfl | (refine pureG KLe.refl ?_; go_simp; done) | (refine pureG KLe.refl ?_; rfl) | (rw [if_pos (by omega)]; exact pureG KLe.refl rfl) | (rw [dif_pos (by omega)]; exact pureG KLe.refl rfl) | exact pureG KLe.refl (congrArg (Value.int _) (IntWalk.i64_in _ ⟨by omega, by omega⟩)) | skip
            case' s4x1 | s9x1 =>
              intro ρ wr gh hρ hg hK
              simp [readsOf, slotsOf, Op.operands, Call.operands, tmpOf, List.filterMap_cons, List.filterMap_nil, KnownAll, knownOf, srcOf, depsOf, dstOf, Region.binds, nthG, IsG, IsS] at hK
              obtain ⟨hc, hf, hgl⟩ := hρ
              try simp only [wantedBy, dstOf, boolOf, nthG, List.getD_cons_zero, List.getD_cons_succ, List.getElem?_cons_zero, List.getElem?_cons_succ, Option.bind_some, if_true, hK, BEq.rfl]
            case s3x1 =>
              have z := hg.1.chg.cell HDc.out.1 HNa.out
              go_simp
              exact pureG KLe.refl rfl
            case s8x1 =>
              have z := hg.1.chg.cell HDc.out.2.1 HNb.out
              go_simp
              exact pureG KLe.refl rfl
            case s4x1 =>
              have HI := hg.1.inv HK0.out
              have hz : gh ≤ 0 := hg.2.1 4 (by kernel_rfl)
              obtain rfl : gh = 0 := by omega
              have hP : (HopI w3 wb (fun j => HX gc0 gc1 hc0 hc1 aa ab j ∨ j = bx) (fun j => HZ aa ab j ∨ j = bx) g gl gm c0 c1 d0 d1 (200 - i) C C fz q0 q1 q0 q1) wr := HI.at_
              have HPh := Lib.hid hP
              clear HI hP hz hg
              go_simp
              exact enterK (f2_ne (by decide)).1 (by decide) (HI1.out _ HPh.out)
            case s9x1 =>
              have HI := hg.1.inv HK0.out
              have hz : gh ≤ 1 := hg.2.1 9 (by kernel_rfl)
              obtain ⟨v9, _, h9⟩ := hg.2.2 4 (by decide)
              have h9 : 1 ≤ gh := h9
              obtain rfl : gh = 1 := by omega
              have hP : K1 wr := HI.at_
              have HPh := Lib.hid hP
              clear HI hP hz hg h9
              go_simp
              exact enterK (f2_ne (by decide)).2 (by decide) (HI2.out _ HPh.out)
            case finx1 =>
              intro w1 g1 val hg hH
              simp only [HoldsG, IsG, IsS, Nat.zero_add, Nat.reduceAdd] at hH
              obtain ⟨h0, h1, h2, h3, h4, h5, h6, h7, h8, h9, h10, h11, _⟩ := hH
              simp only [List.take_succ_cons, List.take_zero, List.drop_succ_cons, List.drop_zero, putAll, h0, h1, h2, h3, h5, h6, h7, h8, h10, h11, Nat.zero_add, Nat.reduceAdd]
              have h19b := h9.2
              have h19b : 2 ≤ g1 := h19b
              clear h9 h4
              have HI := hg.inv HK0.out
              have hle := HI.le
              obtain rfl : g1 = 2 := by simp only at hle; omega
              have hP : K2 w1 := HI.at_
              have HPn := Lib.hid (HD.out _ (HI3.out _ hP))
              clear HI hP hle hg HK0 HI1 HI2 HI3 HD HDc HNa HNb HNx
              go_simp
              go_wp2
              go_meet
              exact ⟨E, rfl, rfl, HPn.out⟩
        by_cases n6 : step = 6
        · subst n6
          have HS : Steps w3 wb (fun j => HX gc0 gc1 hc0 hc1 aa ab j ∨ j = bx) (fun j => HZ aa ab j ∨ j = bx) g gl gm c0 c1 d0 d1 i C fz q0 q1 19 34 #[.pointer (some ⟨c0, 0, none⟩)] #[.pointer (some ⟨d0, 0, none⟩)] := steps_next hCl (by omega)
          as_aux_lemma =>
            obtain ⟨E, K1, K2, s1, s2, s3⟩ := HS
            have HI1 := Lib.hid s1
            have HI2 := Lib.hid s2
            have HI3 := Lib.hid s3
            clear s1 s2 s3
            have HK0 := Lib.hid (KInv.mk (K := KK (HopI w3 wb (fun j => HX gc0 gc1 hc0 hc1 aa ab j ∨ j = bx) (fun j => HZ aa ab j ∨ j = bx) g gl gm c0 c1 d0 d1 (200 - i) C C fz q0 q1 q0 q1) K1 K2) (m := 2) (s := (wb.drew, 0)) (Nat.zero_le _) (HK.out.more (Gr.drew wb)))
            clear HBz HK hvl
            go_wp2
            refine region_ghostA (Le := KLe (Tt w3 (fun j => HZ aa ab j ∨ j = bx)) (KK (HopI w3 wb (fun j => HX gc0 gc1 hc0 hc1 aa ab j ∨ j = bx) (fun j => HZ aa ab j ∨ j = bx) g gl gm c0 c1 d0 d1 (200 - i) C C fz q0 q1 q0 q1) K1 K2) 2) (PreK fun k => if k = 4 then 0 else if k = 9 then 1 else 2) KLe.refl KLe.trans 0 PreK.start _ [IsG (.slice (some ⟨aa, 0, none⟩) 2 2), IsG (.int .i64 (k : Int)), IsG (.pointer (some ⟨aa, k, none⟩)), IsG (.pointer (some ⟨c0, 0, none⟩)), IsS (.int .i64 E) (AtK 1), IsG (.slice (some ⟨ab, 0, none⟩) 2 2), IsG (.int .i64 (k : Int)), IsG (.pointer (some ⟨ab, k, none⟩)), IsG (.pointer (some ⟨d0, 0, none⟩)), IsS (.int .i64 E) (AtK 2), IsG (.int .i64 E), IsG (.int .i64 E)] (by kernel_rfl) (by kernel_rfl) (by kernel_rfl) rfl rfl ⟨IsG.stable _, IsG.stable _, IsG.stable _, IsG.stable _, AtK.stable _ _, IsG.stable _, IsG.stable _, IsG.stable _, IsG.stable _, AtK.stable _ _, IsG.stable _, IsG.stable _, trivial⟩ ⟨?s0x2, ?s1x2, ?s2x2, ?s3x2, ?s4x2, ?s5x2, ?s6x2, ?s7x2, ?s8x2, ?s9x2, ?s10x2, ?s11x2, trivial⟩ ?finx2
            case' s0x2 | s1x2 | s2x2 | s3x2 | s5x2 | s6x2 | s7x2 | s8x2 | s10x2 | s11x2 =>
              intro ρ wr gh hρ hg hK
              simp [readsOf, slotsOf, Op.operands, Call.operands, tmpOf, List.filterMap_cons, List.filterMap_nil, KnownAll, knownOf, srcOf, depsOf, dstOf, Region.binds, nthG, IsG, IsS] at hK
              obtain ⟨hc, hf, hgl⟩ := hρ
              try simp only [wantedBy, dstOf, boolOf, nthG, List.getD_cons_zero, List.getD_cons_succ, List.getElem?_cons_zero, List.getElem?_cons_succ, Option.bind_some, if_true, hK, BEq.rfl]
              try go_simp
              first | exact rfl | exact pureG KLe.refl rfl | (refine pureG KLe.refl ?_; go_simp; done) | (refine pureG KLe.refl ?_; rfl) | (rw [if_pos (by omega)]; exact pureG KLe.refl rfl) | (rw [dif_pos (by omega)]; exact pureG KLe.refl rfl) | exact pureG KLe.refl (congrArg (Value.int _) (IntWalk.i64_in _ ⟨by omega, by omega⟩)) | skip
            case' s4x2 | s9x2 =>
              intro ρ wr gh hρ hg hK
              simp [readsOf, slotsOf, Op.operands, Call.operands, tmpOf, List.filterMap_cons, List.filterMap_nil, KnownAll, knownOf, srcOf, depsOf, dstOf, Region.binds, nthG, IsG, IsS] at hK
              obtain ⟨hc, hf, hgl⟩ := hρ
              try simp only [wantedBy, dstOf, boolOf, nthG, List.getD_cons_zero, List.getD_cons_succ, List.getElem?_cons_zero, List.getElem?_cons_succ, Option.bind_some, if_true, hK, BEq.rfl]
            case s3x2 =>
              have z := hg.1.chg.cell HDc.out.1 HNa.out
              go_simp
              exact pureG KLe.refl rfl
            case s8x2 =>
              have z := hg.1.chg.cell HDc.out.2.1 HNb.out
              go_simp
              exact pureG KLe.refl rfl
            case s4x2 =>
              have HI := hg.1.inv HK0.out
              have hz : gh ≤ 0 := hg.2.1 4 (by kernel_rfl)
              obtain rfl : gh = 0 := by omega
              have hP : (HopI w3 wb (fun j => HX gc0 gc1 hc0 hc1 aa ab j ∨ j = bx) (fun j => HZ aa ab j ∨ j = bx) g gl gm c0 c1 d0 d1 (200 - i) C C fz q0 q1 q0 q1) wr := HI.at_
              have HPh := Lib.hid hP
              clear HI hP hz hg
              go_simp
              exact enterK (f2_ne (by decide)).1 (by decide) (HI1.out _ HPh.out)
            case s9x2 =>
              have HI := hg.1.inv HK0.out
              have hz : gh ≤ 1 := hg.2.1 9 (by kernel_rfl)
              obtain ⟨v9, _, h9⟩ := hg.2.2 4 (by decide)
              have h9 : 1 ≤ gh := h9
              obtain rfl : gh = 1 := by omega
              have hP : K1 wr := HI.at_
              have HPh := Lib.hid hP
              clear HI hP hz hg h9
              go_simp
              exact enterK (f2_ne (by decide)).2 (by decide) (HI2.out _ HPh.out)
            case finx2 =>
              intro w1 g1 val hg hH
              simp only [HoldsG, IsG, IsS, Nat.zero_add, Nat.reduceAdd] at hH
              obtain ⟨h0, h1, h2, h3, h4, h5, h6, h7, h8, h9, h10, h11, _⟩ := hH
              simp only [List.take_succ_cons, List.take_zero, List.drop_succ_cons, List.drop_zero, putAll, h0, h1, h2, h3, h5, h6, h7, h8, h10, h11, Nat.zero_add, Nat.reduceAdd]
              have h19b := h9.2
              have h19b : 2 ≤ g1 := h19b
              clear h9 h4
              have HI := hg.inv HK0.out
              have hle := HI.le
              obtain rfl : g1 = 2 := by simp only at hle; omega
              have hP : K2 w1 := HI.at_
              have HPn := Lib.hid (HD.out _ (HI3.out _ hP))
              clear HI hP hle hg HK0 HI1 HI2 HI3 HD HDc HNa HNb HNx
              go_simp
              go_wp2
              go_meet
              exact ⟨E, rfl, rfl, HPn.out⟩
        by_cases n7 : step = 7
        · subst n7
          have HS : Steps w3 wb (fun j => HX gc0 gc1 hc0 hc1 aa ab j ∨ j = bx) (fun j => HZ aa ab j ∨ j = bx) g gl gm c0 c1 d0 d1 i C fz q0 q1 18 35 #[.pointer (some ⟨c0, 0, none⟩)] #[.pointer (some ⟨d0, 0, none⟩)] := steps_prev hCl (by omega)
          as_aux_lemma =>
            obtain ⟨E, K1, K2, s1, s2, s3⟩ := HS
            have HI1 := Lib.hid s1
            have HI2 := Lib.hid s2
            have HI3 := Lib.hid s3
            clear s1 s2 s3
            have HK0 := Lib.hid (KInv.mk (K := KK (HopI w3 wb (fun j => HX gc0 gc1 hc0 hc1 aa ab j ∨ j = bx) (fun j => HZ aa ab j ∨ j = bx) g gl gm c0 c1 d0 d1 (200 - i) C C fz q0 q1 q0 q1) K1 K2) (m := 2) (s := (wb.drew, 0)) (Nat.zero_le _) (HK.out.more (Gr.drew wb)))
            clear HBz HK hvl
            go_wp2
            refine region_ghostA (Le := KLe (Tt w3 (fun j => HZ aa ab j ∨ j = bx)) (KK (HopI w3 wb (fun j => HX gc0 gc1 hc0 hc1 aa ab j ∨ j = bx) (fun j => HZ aa ab j ∨ j = bx) g gl gm c0 c1 d0 d1 (200 - i) C C fz q0 q1 q0 q1) K1 K2) 2) (PreK fun k => if k = 4 then 0 else if k = 9 then 1 else 2) KLe.refl KLe.trans 0 PreK.start _ [IsG (.slice (some ⟨aa, 0, none⟩) 2 2), IsG (.int .i64 (k : Int)), IsG (.pointer (some ⟨aa, k, none⟩)), IsG (.pointer (some ⟨c0, 0, none⟩)), IsS (.int .i64 E) (AtK 1), IsG (.slice (some ⟨ab, 0, none⟩) 2 2), IsG (.int .i64 (k : Int)), IsG (.pointer (some ⟨ab, k, none⟩)), IsG (.pointer (some ⟨d0, 0, none⟩)), IsS (.int .i64 E) (AtK 2), IsG (.int .i64 E), IsG (.int .i64 E)] (by kernel_rfl) (by kernel_rfl) (by kernel_rfl) rfl rfl ⟨IsG.stable _, IsG.stable _, IsG.stable _, IsG.stable _, AtK.stable _ _, IsG.stable _, IsG.stable _, IsG.stable _, IsG.stable _, AtK.stable _ _, IsG.stable _, IsG.stable _, trivial⟩ ⟨?s0x3, ?s1x3, ?s2x3, ?s3x3, ?s4x3, ?s5x3, ?s6x3, ?s7x3, ?s8x3, ?s9x3, ?s10x3, ?s11x3, trivial⟩ ?finx3
            case' s0x3 | s1x3 | s2x3 | s3x3 | s5x3 | s6x3 | s7x3 | s8x3 | s10x3 | s11x3 =>
              intro ρ wr gh hρ hg hK
              simp [readsOf, slotsOf, Op.operands, Call.operands, tmpOf, List.filterMap_cons, List.filterMap_nil, KnownAll, knownOf, srcOf, depsOf, dstOf, Region.binds, nthG, IsG, IsS] at hK
              obtain ⟨hc, hf, hgl⟩ := hρ
              try simp only [wantedBy, dstOf, boolOf, nthG, List.getD_cons_zero, List.getD_cons_succ, List.getElem?_cons_zero, List.getElem?_cons_succ, Option.bind_some, if_true, hK, BEq.rfl]
              try go_simp
              first | exact rfl | exact pureG KLe.refl rfl | (refine pureG KLe.refl ?_; go_simp; done) | (refine pureG KLe.refl ?_; rfl) | (rw [if_pos (by omega)]; exact pureG KLe.refl rfl) | (rw [dif_pos (by omega)]; exact pureG KLe.refl rfl) | exact pureG KLe.refl (congrArg (Value.int _) (IntWalk.i64_in _ ⟨by omega, by omega⟩)) | skip
            case' s4x3 | s9x3 =>
              intro ρ wr gh hρ hg hK
              simp [readsOf, slotsOf, Op.operands, Call.operands, tmpOf, List.filterMap_cons, List.filterMap_nil, KnownAll, knownOf, srcOf, depsOf, dstOf, Region.binds, nthG, IsG, IsS] at hK
              obtain ⟨hc, hf, hgl⟩ := hρ
              try simp only [wantedBy, dstOf, boolOf, nthG, List.getD_cons_zero, List.getD_cons_succ, List.getElem?_cons_zero, List.getElem?_cons_succ, Option.bind_some, if_true, hK, BEq.rfl]
            case s3x3 =>
              have z := hg.1.chg.cell HDc.out.1 HNa.out
              go_simp
              exact pureG KLe.refl rfl
            case s8x3 =>
              have z := hg.1.chg.cell HDc.out.2.1 HNb.out
              go_simp
              exact pureG KLe.refl rfl
            case s4x3 =>
              have HI := hg.1.inv HK0.out
              have hz : gh ≤ 0 := hg.2.1 4 (by kernel_rfl)
              obtain rfl : gh = 0 := by omega
              have hP : (HopI w3 wb (fun j => HX gc0 gc1 hc0 hc1 aa ab j ∨ j = bx) (fun j => HZ aa ab j ∨ j = bx) g gl gm c0 c1 d0 d1 (200 - i) C C fz q0 q1 q0 q1) wr := HI.at_
              have HPh := Lib.hid hP
              clear HI hP hz hg
              go_simp
              exact enterK (f2_ne (by decide)).1 (by decide) (HI1.out _ HPh.out)
            case s9x3 =>
              have HI := hg.1.inv HK0.out
              have hz : gh ≤ 1 := hg.2.1 9 (by kernel_rfl)
              obtain ⟨v9, _, h9⟩ := hg.2.2 4 (by decide)
              have h9 : 1 ≤ gh := h9
              obtain rfl : gh = 1 := by omega
              have hP : K1 wr := HI.at_
              have HPh := Lib.hid hP
              clear HI hP hz hg h9
              go_simp
              exact enterK (f2_ne (by decide)).2 (by decide) (HI2.out _ HPh.out)
            case finx3 =>
              intro w1 g1 val hg hH
              simp only [HoldsG, IsG, IsS, Nat.zero_add, Nat.reduceAdd] at hH
              obtain ⟨h0, h1, h2, h3, h4, h5, h6, h7, h8, h9, h10, h11, _⟩ := hH
              simp only [List.take_succ_cons, List.take_zero, List.drop_succ_cons, List.drop_zero, putAll, h0, h1, h2, h3, h5, h6, h7, h8, h10, h11, Nat.zero_add, Nat.reduceAdd]
              have h19b := h9.2
              have h19b : 2 ≤ g1 := h19b
              clear h9 h4
              have HI := hg.inv HK0.out
              have hle := HI.le
              obtain rfl : g1 = 2 := by simp only at hle; omega
              have hP : K2 w1 := HI.at_
              have HPn := Lib.hid (HD.out _ (HI3.out _ hP))
              clear HI hP hle hg HK0 HI1 HI2 HI3 HD HDc HNa HNb HNx
              go_simp
              go_wp2
              go_meet
              exact ⟨E, rfl, rfl, HPn.out⟩
        by_cases n5 : step = 5
        · subst n5
          have HS : Steps w3 wb (fun j => HX gc0 gc1 hc0 hc1 aa ab j ∨ j = bx) (fun j => HZ aa ab j ∨ j = bx) g gl gm c0 c1 d0 d1 i C fz q0 q1 16 33 #[.pointer (some ⟨c0, 0, none⟩), .agg #[.string (str key), .int .i64 seq, .int .i64 kind]] #[.pointer (some ⟨d0, 0, none⟩), .agg #[.string (str key), .int .i64 seq, .int .i64 kind]] := steps_seek ⟨key, seq, kind⟩ hCl (by omega)
          --<<seek
          as_aux_lemma =>
            obtain ⟨E, K1, K2, s1, s2, s3⟩ := HS
            have HI1 := Lib.hid s1
            have HI2 := Lib.hid s2
            have HI3 := Lib.hid s3
            clear s1 s2 s3
            have HK0 := Lib.hid (KInv.mk (K := KK (HopI w3 wb (fun j => HX gc0 gc1 hc0 hc1 aa ab j ∨ j = bx) (fun j => HZ aa ab j ∨ j = bx) g gl gm c0 c1 d0 d1 (200 - i) C C fz q0 q1 q0 q1) K1 K2) (m := 2) (s := (wb.drew, 0)) (Nat.zero_le _) (HK.out.more (Gr.drew wb)))
            clear HBz HK hvl
            go_wp2
            refine region_ghostA (Le := KLe (Tt w3 (fun j => HZ aa ab j ∨ j = bx)) (KK (HopI w3 wb (fun j => HX gc0 gc1 hc0 hc1 aa ab j ∨ j = bx) (fun j => HZ aa ab j ∨ j = bx) g gl gm c0 c1 d0 d1 (200 - i) C C fz q0 q1 q0 q1) K1 K2) 2) (PreK fun k => if k = 7 then 0 else if k = 15 then 1 else 2) KLe.refl KLe.trans 0 PreK.start _ [IsG (.slice (some ⟨aa, 0, none⟩) 2 2), IsG (.int .i64 (k : Int)), IsG (.pointer (some ⟨aa, k, none⟩)), IsG (.pointer (some ⟨c0, 0, none⟩)), IsG (.pointer (some ⟨bx, 2, none⟩)), IsG (.pointer (some ⟨bx, 2, none⟩)), IsG (.agg #[.string (str key), .int .i64 seq, .int .i64 kind]), IsS (.int .i64 E) (AtK 1), IsG (.slice (some ⟨ab, 0, none⟩) 2 2), IsG (.int .i64 (k : Int)), IsG (.pointer (some ⟨ab, k, none⟩)), IsG (.pointer (some ⟨d0, 0, none⟩)), IsG (.pointer (some ⟨bx, 2, none⟩)), IsG (.pointer (some ⟨bx, 2, none⟩)), IsG (.agg #[.string (str key), .int .i64 seq, .int .i64 kind]), IsS (.int .i64 E) (AtK 2), IsG (.int .i64 E), IsG (.int .i64 E)] (by kernel_rfl) (by kernel_rfl) (by kernel_rfl) rfl rfl ⟨IsG.stable _, IsG.stable _, IsG.stable _, IsG.stable _, IsG.stable _, IsG.stable _, IsG.stable _, AtK.stable _ _, IsG.stable _, IsG.stable _, IsG.stable _, IsG.stable _, IsG.stable _, IsG.stable _, IsG.stable _, AtK.stable _ _, IsG.stable _, IsG.stable _, trivial⟩ ⟨?s0x4, ?s1x4, ?s2x4, ?s3x4, ?s4x4, ?s5x4, ?s6x4, ?s7x4, ?s8x4, ?s9x4, ?s10x4, ?s11x4, ?s12x4, ?s13x4, ?s14x4, ?s15x4, ?s16x4, ?s17x4, trivial⟩ ?finx4
            case' s0x4 | s1x4 | s2x4 | s3x4 | s4x4 | s5x4 | s6x4 | s8x4 | s9x4 | s10x4 | s11x4 | s12x4 | s13x4 | s14x4 | s16x4 | s17x4 =>
              intro ρ wr gh hρ hg hK
              simp [readsOf, slotsOf, Op.operands, Call.operands, tmpOf, List.filterMap_cons, List.filterMap_nil, KnownAll, knownOf, srcOf, depsOf, dstOf, Region.binds, nthG, IsG, IsS] at hK
              obtain ⟨hc, hf, hgl⟩ := hρ
              try simp only [wantedBy, dstOf, boolOf, nthG, List.getD_cons_zero, List.getD_cons_succ, List.getElem?_cons_zero, List.getElem?_cons_succ, Option.bind_some, if_true, hK, BEq.rfl]
              try go_simp
              first | exact rfl | exact pureG KLe.refl rfl | (refine pureG KLe.refl ?_; go_simp; done) | (refine pureG KLe.refl ?_; rfl) | (rw [if_pos (by omega)]; exact pureG KLe.refl rfl) | (rw [dif_pos (by omega)]; exact pureG KLe.refl rfl) | exact pureG KLe.refl (congrArg (Value.int _) (IntWalk.i64_in _ ⟨by omega, by omega⟩)) | skip
            case' s7x4 | s15x4 =>
              intro ρ wr gh hρ hg hK
              simp [readsOf, slotsOf, Op.operands, Call.operands, tmpOf, List.filterMap_cons, List.filterMap_nil, KnownAll, knownOf, srcOf, depsOf, dstOf, Region.binds, nthG, IsG, IsS] at hK
              obtain ⟨hc, hf, hgl⟩ := hρ
              try simp only [wantedBy, dstOf, boolOf, nthG, List.getD_cons_zero, List.getD_cons_succ, List.getElem?_cons_zero, List.getElem?_cons_succ, Option.bind_some, if_true, hK, BEq.rfl]
            case s3x4 =>
              have z := hg.1.chg.cell HDc.out.1 HNa.out
              go_simp
              exact pureG KLe.refl rfl
            case s11x4 =>
              have z := hg.1.chg.cell HDc.out.2.1 HNb.out
              go_simp
              exact pureG KLe.refl rfl
            case s6x4 | s14x4 =>
              obtain ⟨_, _, z2, z3, z4, _, _⟩ := HDc.out
              have z2 := hg.1.chg.cell z2 HNx.out
              have z3 := hg.1.chg.cell z3 HNx.out
              have z4 := hg.1.chg.cell z4 HNx.out
              go_simp
              exact pureG KLe.refl rfl
            case s7x4 =>
              have HI := hg.1.inv HK0.out
              have hz : gh ≤ 0 := hg.2.1 7 (by kernel_rfl)
              obtain rfl : gh = 0 := by omega
              have hP : (HopI w3 wb (fun j => HX gc0 gc1 hc0 hc1 aa ab j ∨ j = bx) (fun j => HZ aa ab j ∨ j = bx) g gl gm c0 c1 d0 d1 (200 - i) C C fz q0 q1 q0 q1) wr := HI.at_
              have HPh := Lib.hid hP
              clear HI hP hz hg
              go_simp
              exact enterK (f2_ne (by decide)).1 (by decide) (HI1.out _ HPh.out)
            case s15x4 =>
              have HI := hg.1.inv HK0.out
              have hz : gh ≤ 1 := hg.2.1 15 (by kernel_rfl)
              obtain ⟨v9, _, h9⟩ := hg.2.2 7 (by decide)
              have h9 : 1 ≤ gh := h9
              obtain rfl : gh = 1 := by omega
              have hP : K1 wr := HI.at_
              have HPh := Lib.hid hP
              clear HI hP hz hg h9
              go_simp
              exact enterK (f2_ne (by decide)).2 (by decide) (HI2.out _ HPh.out)
            case finx4 =>
              intro w1 g1 val hg hH
              simp only [HoldsG, IsG, IsS, Nat.zero_add, Nat.reduceAdd] at hH
              obtain ⟨h0, h1, h2, h3, h4, h5, h6, h7, h8, h9, h10, h11, h12, h13, h14, h15, h16, h17, _⟩ := hH
              simp only [List.take_succ_cons, List.take_zero, List.drop_succ_cons, List.drop_zero, putAll, h0, h1, h2, h3, h4, h5, h6, h8, h9, h10, h11, h12, h13, h14, h16, h17, Nat.zero_add, Nat.reduceAdd]
              have h19b := h15.2
              have h19b : 2 ≤ g1 := h19b
              clear h7 h15
              have HI := hg.inv HK0.out
              have hle := HI.le
              obtain rfl : g1 = 2 := by simp only at hle; omega
              have hP : K2 w1 := HI.at_
              have HPn := Lib.hid (HD.out _ (HI3.out _ hP))
              clear HI hP hle hg HK0 HI1 HI2 HI3 HD HDc HNa HNb HNx
              go_simp
              go_wp2
              go_meet
              exact ⟨E, rfl, rfl, HPn.out⟩
          -->>seek
        by_cases n1 : step = 1
        · subst n1
          have HS : Steps w3 wb (fun j => HX gc0 gc1 hc0 hc1 aa ab j ∨ j = bx) (fun j => HZ aa ab j ∨ j = bx) g gl gm c0 c1 d0 d1 i C fz q0 q1 12 13 #[.pointer (some ⟨gl, 0, none⟩), .agg #[.string (str key), .int .i64 seq, .int .i64 kind, .string (str val)], .int .i64 height] #[.pointer (some ⟨gm, 0, none⟩), .agg #[.string (str key), .int .i64 seq, .int .i64 kind, .string (str val)], .int .i64 height] := steps_ins key seq kind val height hvl hCl (by omega)
          --<<ins
          as_aux_lemma =>
            obtain ⟨E, K1, K2, s1, s2, s3⟩ := HS
            have HI1 := Lib.hid s1
            have HI2 := Lib.hid s2
            have HI3 := Lib.hid s3
            clear s1 s2 s3
            have HK0 := Lib.hid (KInv.mk (K := KK (HopI w3 wb (fun j => HX gc0 gc1 hc0 hc1 aa ab j ∨ j = bx) (fun j => HZ aa ab j ∨ j = bx) g gl gm c0 c1 d0 d1 (200 - i) C C fz q0 q1 q0 q1) K1 K2) (m := 2) (s := (wb.drew, 0)) (Nat.zero_le _) (HK.out.more (Gr.drew wb)))
            clear HBz HK hvl
            go_wp2
            refine region_ghostA (Le := KLe (Tt w3 (fun j => HZ aa ab j ∨ j = bx)) (KK (HopI w3 wb (fun j => HX gc0 gc1 hc0 hc1 aa ab j ∨ j = bx) (fun j => HZ aa ab j ∨ j = bx) g gl gm c0 c1 d0 d1 (200 - i) C C fz q0 q1 q0 q1) K1 K2) 2) (PreK fun k => if k = 5 then 0 else if k = 11 then 1 else 2) KLe.refl KLe.trans 0 PreK.start _ [IsG (.pointer (some ⟨gl, 0, none⟩)), IsG (.pointer (some ⟨bx, 2, none⟩)), IsG (.agg #[.string (str key), .int .i64 seq, .int .i64 kind, .string (str val)]), IsG (.pointer (some ⟨bx, 6, none⟩)), IsG (.int .i64 height), IsS (.int .i64 E) (AtK 1), IsG (.pointer (some ⟨gm, 0, none⟩)), IsG (.pointer (some ⟨bx, 2, none⟩)), IsG (.agg #[.string (str key), .int .i64 seq, .int .i64 kind, .string (str val)]), IsG (.pointer (some ⟨bx, 6, none⟩)), IsG (.int .i64 height), IsS (.int .i64 E) (AtK 2), IsG (.int .i64 E), IsG (.int .i64 E)] (by kernel_rfl) (by kernel_rfl) (by kernel_rfl) rfl rfl ⟨IsG.stable _, IsG.stable _, IsG.stable _, IsG.stable _, IsG.stable _, AtK.stable _ _, IsG.stable _, IsG.stable _, IsG.stable _, IsG.stable _, IsG.stable _, AtK.stable _ _, IsG.stable _, IsG.stable _, trivial⟩ ⟨?s0x5, ?s1x5, ?s2x5, ?s3x5, ?s4x5, ?s5x5, ?s6x5, ?s7x5, ?s8x5, ?s9x5, ?s10x5, ?s11x5, ?s12x5, ?s13x5, trivial⟩ ?finx5
            case' s0x5 | s1x5 | s2x5 | s3x5 | s4x5 | s6x5 | s7x5 | s8x5 | s9x5 | s10x5 | s12x5 | s13x5 =>
              intro ρ wr gh hρ hg hK
              simp [readsOf, slotsOf, Op.operands, Call.operands, tmpOf, List.filterMap_cons, List.filterMap_nil, KnownAll, knownOf, srcOf, depsOf, dstOf, Region.binds, nthG, IsG, IsS] at hK
              obtain ⟨hc, hf, hgl⟩ := hρ
              try simp only [wantedBy, dstOf, boolOf, nthG, List.getD_cons_zero, List.getD_cons_succ, List.getElem?_cons_zero, List.getElem?_cons_succ, Option.bind_some, if_true, hK, BEq.rfl]
              try go_simp
              first | exact rfl | exact pureG KLe.refl rfl | (refine pureG KLe.refl ?_; go_simp; done) | (refine pureG KLe.refl ?_; rfl) | (rw [if_pos (by omega)]; exact pureG KLe.refl rfl) | (rw [dif_pos (by omega)]; exact pureG KLe.refl rfl) | exact pureG KLe.refl (congrArg (Value.int _) (IntWalk.i64_in _ ⟨by omega, by omega⟩)) | skip
            case' s5x5 | s11x5 =>
              intro ρ wr gh hρ hg hK
              simp [readsOf, slotsOf, Op.operands, Call.operands, tmpOf, List.filterMap_cons, List.filterMap_nil, KnownAll, knownOf, srcOf, depsOf, dstOf, Region.binds, nthG, IsG, IsS] at hK
              obtain ⟨hc, hf, hgl⟩ := hρ
              try simp only [wantedBy, dstOf, boolOf, nthG, List.getD_cons_zero, List.getD_cons_succ, List.getElem?_cons_zero, List.getElem?_cons_succ, Option.bind_some, if_true, hK, BEq.rfl]
            case s2x5 | s4x5 | s8x5 | s10x5 =>
              obtain ⟨_, _, z2, z3, z4, z5, z6⟩ := HDc.out
              have z2 := hg.1.chg.cell z2 HNx.out
              have z3 := hg.1.chg.cell z3 HNx.out
              have z4 := hg.1.chg.cell z4 HNx.out
              have z5 := hg.1.chg.cell z5 HNx.out
              have z6 := hg.1.chg.cell z6 HNx.out
              go_simp
              exact pureG KLe.refl rfl
            case s5x5 =>
              have HI := hg.1.inv HK0.out
              have hz : gh ≤ 0 := hg.2.1 5 (by kernel_rfl)
              obtain rfl : gh = 0 := by omega
              have hP : (HopI w3 wb (fun j => HX gc0 gc1 hc0 hc1 aa ab j ∨ j = bx) (fun j => HZ aa ab j ∨ j = bx) g gl gm c0 c1 d0 d1 (200 - i) C C fz q0 q1 q0 q1) wr := HI.at_
              have HPh := Lib.hid hP
              clear HI hP hz hg
              go_simp
              exact enterK (f2_ne (by decide)).1 (by decide) (HI1.out _ HPh.out)
            case s11x5 =>
              have HI := hg.1.inv HK0.out
              have hz : gh ≤ 1 := hg.2.1 11 (by kernel_rfl)
              obtain ⟨v9, _, h9⟩ := hg.2.2 5 (by decide)
              have h9 : 1 ≤ gh := h9
              obtain rfl : gh = 1 := by omega
              have hP : K1 wr := HI.at_
              have HPh := Lib.hid hP
              clear HI hP hz hg h9
              go_simp
              exact enterK (f2_ne (by decide)).2 (by decide) (HI2.out _ HPh.out)
            case finx5 =>
              intro w1 g1 val hg hH
              simp only [HoldsG, IsG, IsS, Nat.zero_add, Nat.reduceAdd] at hH
              obtain ⟨h0, h1, h2, h3, h4, h5, h6, h7, h8, h9, h10, h11, h12, h13, _⟩ := hH
              simp only [List.take_succ_cons, List.take_zero, List.drop_succ_cons, List.drop_zero, putAll, h0, h1, h2, h3, h4, h6, h7, h8, h9, h10, h12, h13, Nat.zero_add, Nat.reduceAdd]
              have h19b := h11.2
              have h19b : 2 ≤ g1 := h19b
              clear h5 h11
              have HI := hg.inv HK0.out
              have hle := HI.le
              obtain rfl : g1 = 2 := by simp only at hle; omega
              have hP : K2 w1 := HI.at_
              have HPn := Lib.hid (HD.out _ (HI3.out _ hP))
              clear HI hP hle hg HK0 HI1 HI2 HI3 HD HDc HNa HNb HNx
              go_simp
              go_wp2
              go_meet
              exact ⟨E, rfl, rfl, HPn.out⟩
          -->>ins
        by_cases n2 : step = 2
        · subst n2
          have HG1 := Lib.hid (fun w' (h : (HopI w3 wb (fun j => HX gc0 gc1 hc0 hc1 aa ab j ∨ j = bx) (fun j => HZ aa ab j ∨ j = bx) g gl gm c0 c1 d0 d1 (200 - i) C C fz q0 q1 q0 q1) w') => h.get1 key seq)
          have HG2 := Lib.hid (fun w' (h : (HopI w3 wb (fun j => HX gc0 gc1 hc0 hc1 aa ab j ∨ j = bx) (fun j => HZ aa ab j ∨ j = bx) g gl gm c0 c1 d0 d1 (200 - i) C C fz q0 q1 q0 q1) w') => h.get2 (by omega) key seq)
          have HZb := Lib.hid (fun w' (h : (HopI w3 wb (fun j => HX gc0 gc1 hc0 hc1 aa ab j ∨ j = bx) (fun j => HZ aa ab j ∨ j = bx) g gl gm c0 c1 d0 d1 (200 - i) C C fz q0 q1 q0 q1) w') => And.intro (h.zcell (.inr rfl) HBz.out.1) (h.zcell (.inr rfl) HBz.out.2))
          have HE := Lib.hid (show ∀ w', (HopI w3 wb (fun j => HX gc0 gc1 hc0 hc1 aa ab j ∨ j = bx) (fun j => HZ aa ab j ∨ j = bx) g gl gm c0 c1 d0 d1 (200 - i) C C fz q0 q1 q0 q1) w' → HopJ w3 wb (fun j => HX gc0 gc1 hc0 hc1 aa ab j ∨ j = bx) (fun j => HZ aa ab j ∨ j = bx) g gl gm c0 c1 d0 d1 (i + 1) w' from fun w' h => ⟨C, fz, q0, q1, by omega, h.less (by omega)⟩)
          have y := HZb.out _ HK.out
          obtain ⟨y2, y3⟩ := y
          clear HBz HDc HNa HNb HNx
          generalize getC C key seq = o at HG1 HG2
          cases o with
          | none =>
            unfold ceO zeC at HG1 HG2
            have GA := Lib.hid (fun w' => Gr.alloc w' (.cells #[.string ⟨#[]⟩, .int .i64 0, .int .i64 0, .string ⟨#[]⟩] 41))
            have HB4 := Lib.hid (fun w' w'' (h : Gr (w'.alloc (.cells #[.string ⟨#[]⟩, .int .i64 0, .int .i64 0, .string ⟨#[]⟩] 41)) w'') => cells_four ((Blk.new w' 41 #[.string ⟨#[]⟩, .int .i64 0, .int .i64 0, .string ⟨#[]⟩]).gr h))
            as_aux_lemma =>
              go_wp2_with (first
                | (go_at_call 27; go_must (refine (HG1.out _ HK.out).mono ?_); rintro e w9 ⟨rfl, g9⟩; have K9 := HK.out.more (g9.trans (GA.out _)); obtain ⟨y4, y5⟩ := HZb.out _ K9; clear y2 y3)
                | (go_at_call 28; go_must (refine (HG2.out _ K9).mono ?_); rintro e w10 ⟨rfl, g10⟩; have K10 := K9.more (g10.trans (GA.out _)); obtain ⟨x0, x1, x2, x3⟩ := HB4.out _ _ (g10.trans (GA.out _)); clear y4 y5)
                | fail)
              go_meet
              exact ⟨0, rfl, rfl, HD.out _ (HE.out _ K10)⟩
          | some c =>
            unfold ceO ceV at HG1 HG2
            have GA := Lib.hid (fun w' => Gr.alloc w' (.cells #[.string (str c.key), .int .i64 (c.seq : Int), .int .i64 (c.kind : Int), .string (str c.val)] 41))
            have HB4 := Lib.hid (fun w' w'' (h : Gr (w'.alloc (.cells #[.string (str c.key), .int .i64 (c.seq : Int), .int .i64 (c.kind : Int), .string (str c.val)] 41)) w'') => cells_four ((Blk.new w' 41 #[.string (str c.key), .int .i64 (c.seq : Int), .int .i64 (c.kind : Int), .string (str c.val)]).gr h))
            as_aux_lemma =>
              go_wp2_with (first
                | (go_at_call 27; go_must (refine (HG1.out _ HK.out).mono ?_); rintro e w9 ⟨rfl, g9⟩; have K9 := HK.out.more (g9.trans (GA.out _)); obtain ⟨y4, y5⟩ := HZb.out _ K9; clear y2 y3)
                | (go_at_call 28; go_must (refine (HG2.out _ K9).mono ?_); rintro e w10 ⟨rfl, g10⟩; have K10 := K9.more (g10.trans (GA.out _)); obtain ⟨x0, x1, x2, x3⟩ := HB4.out _ _ (g10.trans (GA.out _)); clear y4 y5)
                | fail)
              go_meet
              exact ⟨0, rfl, rfl, HD.out _ (HE.out _ K10)⟩
        by_cases n8 : step = 8
        · subst n8
          have HFz := Lib.hid HK.out.freeze
          have HE := Lib.hid (show ∀ w', HopI w3 wb (fun j => HX gc0 gc1 hc0 hc1 aa ab j ∨ j = bx) (fun j => HZ aa ab j ∨ j = bx) g gl gm c0 c1 d0 d1 (200 - i) C C true q0 q1 q0 q1 w' → HopJ w3 wb (fun j => HX gc0 gc1 hc0 hc1 aa ab j ∨ j = bx) (fun j => HZ aa ab j ∨ j = bx) g gl gm c0 c1 d0 d1 (i + 1) w' from fun w' h => ⟨C, true, q0, q1, by omega, h.less (by omega)⟩)
          clear HBz HDc HNa HNb HNx HK hvl
          go_wp2_with (first
            | (go_at_call 23; go_must (refine HFz.out.mono ?_); rintro e w9 ⟨rfl, ⟨v9, b9⟩, g9, K9⟩; obtain ⟨m0, m1, mf0, mf1⟩ := Blk.two b9)
            | fail)
          go_meet
          exact ⟨0, rfl, rfl, HD.out _ (HE.out _ K9)⟩
        have HE := Lib.hid (show HopJ w3 wb (fun j => HX gc0 gc1 hc0 hc1 aa ab j ∨ j = bx) (fun j => HZ aa ab j ∨ j = bx) g gl gm c0 c1 d0 d1 (i + 1) wb from ⟨C, fz, q0, q1, by omega, HK.out.less (by omega)⟩)
        clear HBz HDc HNa HNb HNx HK hvl
        go_wp2
        go_meet
        exact ⟨0, rfl, rfl, HD.out _ HE.out⟩
      case rest =>
        clear HBz HDc HNa HNb HNx HK hvl HD
        obtain ⟨E, rfl, rfl, D, fy, p0, p1, hDl, hI⟩ := hcut
        obtain ⟨adm, capm, hm⟩ := hI.mlen
        have hD9 : D.length ≤ 1000000 := by omega
        have HM := Lib.hid (fun w' (h : HopI w3 w8 (HX gc0 gc1 hc0 hc1 aa ab) (HZ aa ab) g gl gm gc0 gc1 hc0 hc1 (200 - (i + 1)) D D fy p0 p1 p0 p1 w') => h.cnt)
        have HW := Lib.hid (fun w' (h : HopI w3 w8 (HX gc0 gc1 hc0 hc1 aa ab) (HZ aa ab) g gl gm gc0 gc1 hc0 hc1 (200 - (i + 1)) D D fy p0 p1 p0 p1 w') => h.wgt)
        have HR := Lib.hid (fun w' (h : HopI w3 w8 (HX gc0 gc1 hc0 hc1 aa ab) (HZ aa ab) g gl gm gc0 gc1 hc0 hc1 (200 - (i + 1)) D D fy p0 p1 p0 p1 w') => h.rwgt hD9)
        have HQ := Lib.hid hI
        have HMd := Lib.hid hm
        generalize weighF D = wt at *
        obtain ⟨M, hM⟩ : ∃ M, M = D.length := ⟨_, rfl⟩
        have HME := Lib.hid hM
        have HDl := Lib.hid hD9
        have HLe := Lib.hid (show M ≤ i + 1 by omega)
        rw [← hM] at HM HMd hD9
        clear hI hm hM hDl
        go_wp2
        refine region_any_gr _ [Is (.int .i64 E), Is (.int .i64 E), Is (.bool false), Is (.bool false), Is (.pointer (some ⟨gl, 0, none⟩)), Is (.int .i64 (M : Int)), Is (.pointer (some ⟨gm, 0, none⟩)), Is (.pointer (some ⟨gm, 0, none⟩)), Is (.pointer (some ⟨gm, 0, none⟩)), Is (.slice adm M capm), Is (.int .i64 (M : Int)), Is (.bool false), Is (.bool false), Is (.bool false), Is (.pointer (some ⟨gl, 0, none⟩)), Is (.int .i64 (wt : Int)), Is (.pointer (some ⟨gm, 0, none⟩)), Is (.int .i64 (wt : Int)), Is (.bool false), Is (.bool false)] (by kernel_rfl) (by kernel_rfl) (by kernel_rfl) rfl rfl ⟨Is.stable _, Is.stable _, Is.stable _, Is.stable _, Is.stable _, Is.stable _, Is.stable _, Is.stable _, Is.stable _, Is.stable _, Is.stable _, Is.stable _, Is.stable _, Is.stable _, Is.stable _, Is.stable _, Is.stable _, Is.stable _, Is.stable _, Is.stable _, trivial⟩ ⟨?s0x6, ?s1x6, ?s2x6, ?s3x6, ?s4x6, ?s5x6, ?s6x6, ?s7x6, ?s8x6, ?s9x6, ?s10x6, ?s11x6, ?s12x6, ?s13x6, ?s14x6, ?s15x6, ?s16x6, ?s17x6, ?s18x6, ?s19x6, trivial⟩ ?finx6
        case' s0x6 | s1x6 | s2x6 | s3x6 | s4x6 | s5x6 | s6x6 | s7x6 | s8x6 | s9x6 | s10x6 | s11x6 | s12x6 | s13x6 | s14x6 | s15x6 | s16x6 | s17x6 | s18x6 | s19x6 =>
          intro ρ wr hρ hg hK
          simp [readsOf, slotsOf, Op.operands, Call.operands, tmpOf, List.filterMap_cons, List.filterMap_nil, KnownAll, knownOf, srcOf, depsOf, dstOf, Region.binds, nth, Is] at hK
          obtain ⟨hc, hf, hgl⟩ := hρ
          try simp only [wantedBy, dstOf, boolOf, nth, List.getD_cons_zero, List.getD_cons_succ, List.getElem?_cons_zero, List.getElem?_cons_succ, Option.bind_some, if_true, hK, BEq.rfl]
          try go_simp
          first | exact rfl | (rw [if_pos (by omega)]; exact is_here rfl) | (rw [dif_pos (by omega)]; exact is_here rfl) | exact congrArg (Value.int _) (IntWalk.i64_in _ ⟨by omega, by omega⟩) | skip
        case s5x6 =>
          refine (HM.out _ (HQ.out.more hg)).mono ?_
          rintro e w7 ⟨rfl, rfl⟩
          exact ⟨_, rfl, Gr.refl _, rfl⟩
        case s9x6 =>
          have z := hg.cell HMd.out
          go_simp
          exact rfl
        case s15x6 =>
          refine (HW.out _ (HQ.out.more hg)).mono ?_
          rintro e w7 ⟨rfl, rfl⟩
          exact ⟨_, rfl, Gr.refl _, rfl⟩
        case s17x6 =>
          refine (HR.out _ (HQ.out.more hg)).mono ?_
          rintro e w7 ⟨rfl, g7⟩
          exact ⟨_, rfl, g7, rfl⟩
        case finx6 =>
          intro w1 val hg hH
          simp only [Holds, Is, Nat.zero_add, Nat.reduceAdd] at hH
          obtain ⟨h0, h1, h2, h3, h4, h5, h6, h7, h8, h9, h10, h11, h12, h13, h14, h15, h16, h17, h18, h19, _⟩ := hH
          simp only [List.take_succ_cons, List.take_zero, List.drop_succ_cons, List.drop_zero, putAll, h0, h1, h2, h3, h4, h5, h6, h7, h8, h9, h10, h11, h12, h13, h14, h15, h16, h17, h18, h19, Nat.zero_add, Nat.reduceAdd]
          have HQ1 := Lib.hid (HQ.out.more hg)
          clear hg HQ HM HW HR HMd
          go_simp
          go_wp2
          go_loopw [20] (fun vj wj => ∃ j : Nat, vj = .int .i64 (j : Int) ∧ j ≤ 2 ∧ HopI w3 w8 (HX gc0 gc1 hc0 hc1 aa ab) (HZ aa ab) g gl gm gc0 gc1 hc0 hc1 (200 - (i + 1)) D D fy p0 p1 p0 p1 wj) (fun vj _ => 2 - (intOf vj).toNat)
          case atStart => exact ⟨0, rfl, by omega, HQ1.out⟩
          case round =>
            clear HQ1
            obtain ⟨j, rfl, hj, hI⟩ := hrel
            by_cases j0 : j = 0
            · subst j0
              obtain ⟨jn, hjn⟩ : ∃ jn : Nat, jn = 1 ∧ jn ≤ 2 := ⟨1, rfl, by omega⟩
              have HJn := Lib.hid hjn
              clear hjn
              have HI0 := Lib.hid hI
              have HC1 := Lib.hid (fun w' (h : HopI w3 w8 (HX gc0 gc1 hc0 hc1 aa ab) (HZ aa ab) g gl gm gc0 gc1 hc0 hc1 (200 - (i + 1)) D D fy p0 p1 p0 p1 w') => h.cell0)
              have HC2 := Lib.hid (fun w' (h : HopI w3 w8 (HX gc0 gc1 hc0 hc1 aa ab) (HZ aa ab) g gl gm gc0 gc1 hc0 hc1 (200 - (i + 1)) D D fy p0 p1 p0 p1 w') => h.rcell0 HDl.out)
              have HZz := Lib.hid (fun w' (h : HopI w3 w8 (HX gc0 gc1 hc0 hc1 aa ab) (HZ aa ab) g gl gm gc0 gc1 hc0 hc1 (200 - (i + 1)) D D fy p0 p1 p0 p1 w') => And.intro (h.zcell (.inl rfl) HA.out.a0) (h.zcell (.inr rfl) HA.out.b0))
              clear hI
              obtain ⟨P, hP⟩ : ∃ P, cellP p0 = cellP P := ⟨_, rfl⟩
              rw [hP] at HC1 HC2
              clear hP
              as_aux_lemma =>
                obtain ⟨z0, z1⟩ := HZz.out _ HI0.out
                cases P with
                | front =>
                  unfold cellP zcE zeC at HC1 HC2
                  have GA := Lib.hid (fun w' => Gr.alloc w' (.cells #[.string ⟨#[]⟩, .int .i64 0, .int .i64 0, .string ⟨#[]⟩] 41))
                  have HB4 := Lib.hid (fun w' w'' (h : Gr (w'.alloc (.cells #[.string ⟨#[]⟩, .int .i64 0, .int .i64 0, .string ⟨#[]⟩] 41)) w'') => cells_four ((Blk.new w' 41 #[.string ⟨#[]⟩, .int .i64 0, .int .i64 0, .string ⟨#[]⟩]).gr h))
                  go_wp2_with (first
                    | (go_at_call 17; go_must (refine (HC1.out _ HI0.out).mono ?_); rintro e w9 ⟨rfl, g9⟩; have K9 := HI0.out.more (g9.trans (GA.out _)); obtain ⟨_, z4⟩ := HZz.out _ K9; clear z0 z1)
                    | (go_at_call 37; go_must (refine (HC2.out _ K9).mono ?_); rintro e w10 ⟨rfl, g10⟩; have K10 := Lib.hid (K9.more (g10.trans (GA.out _))); obtain ⟨x0, x1, x2, x3⟩ := HB4.out _ _ (g10.trans (GA.out _)); clear z4)
                    | fail)
                  go_roundw
                  case rel => exact ⟨jn, by rw [HJn.out.1]; go_num, HJn.out.2, K10.out⟩
                  case measure => simp [intOf]
                | back =>
                  unfold cellP zcE zeC at HC1 HC2
                  have GA := Lib.hid (fun w' => Gr.alloc w' (.cells #[.string ⟨#[]⟩, .int .i64 0, .int .i64 0, .string ⟨#[]⟩] 41))
                  have HB4 := Lib.hid (fun w' w'' (h : Gr (w'.alloc (.cells #[.string ⟨#[]⟩, .int .i64 0, .int .i64 0, .string ⟨#[]⟩] 41)) w'') => cells_four ((Blk.new w' 41 #[.string ⟨#[]⟩, .int .i64 0, .int .i64 0, .string ⟨#[]⟩]).gr h))
                  go_wp2_with (first
                    | (go_at_call 17; go_must (refine (HC1.out _ HI0.out).mono ?_); rintro e w9 ⟨rfl, g9⟩; have K9 := HI0.out.more (g9.trans (GA.out _)); obtain ⟨_, z4⟩ := HZz.out _ K9; clear z0 z1)
                    | (go_at_call 37; go_must (refine (HC2.out _ K9).mono ?_); rintro e w10 ⟨rfl, g10⟩; have K10 := Lib.hid (K9.more (g10.trans (GA.out _))); obtain ⟨x0, x1, x2, x3⟩ := HB4.out _ _ (g10.trans (GA.out _)); clear z4)
                    | fail)
                  go_roundw
                  case rel => exact ⟨jn, by rw [HJn.out.1]; go_num, HJn.out.2, K10.out⟩
                  case measure => simp [intOf]
                | at_ c =>
                  unfold cellP ceV at HC1 HC2
                  have GA := Lib.hid (fun w' => Gr.alloc w' (.cells #[.string (str c.key), .int .i64 (c.seq : Int), .int .i64 (c.kind : Int), .string (str c.val)] 41))
                  have HB4 := Lib.hid (fun w' w'' (h : Gr (w'.alloc (.cells #[.string (str c.key), .int .i64 (c.seq : Int), .int .i64 (c.kind : Int), .string (str c.val)] 41)) w'') => cells_four ((Blk.new w' 41 #[.string (str c.key), .int .i64 (c.seq : Int), .int .i64 (c.kind : Int), .string (str c.val)]).gr h))
                  go_wp2_with (first
                    | (go_at_call 17; go_must (refine (HC1.out _ HI0.out).mono ?_); rintro e w9 ⟨rfl, g9⟩; have K9 := HI0.out.more (g9.trans (GA.out _)); obtain ⟨_, z4⟩ := HZz.out _ K9; clear z0 z1)
                    | (go_at_call 37; go_must (refine (HC2.out _ K9).mono ?_); rintro e w10 ⟨rfl, g10⟩; have K10 := Lib.hid (K9.more (g10.trans (GA.out _))); obtain ⟨x0, x1, x2, x3⟩ := HB4.out _ _ (g10.trans (GA.out _)); clear z4)
                    | fail)
                  go_roundw
                  case rel => exact ⟨jn, by rw [HJn.out.1]; go_num, HJn.out.2, K10.out⟩
                  case measure => simp [intOf]
            by_cases j1 : j = 1
            · subst j1
              obtain ⟨jn, hjn⟩ : ∃ jn : Nat, jn = 2 ∧ jn ≤ 2 := ⟨2, rfl, by omega⟩
              have HJn := Lib.hid hjn
              clear hjn
              have HI0 := Lib.hid hI
              have HC1 := Lib.hid (fun w' (h : HopI w3 w8 (HX gc0 gc1 hc0 hc1 aa ab) (HZ aa ab) g gl gm gc0 gc1 hc0 hc1 (200 - (i + 1)) D D fy p0 p1 p0 p1 w') => h.swap.cell0)
              have HC2 := Lib.hid (fun w' (h : HopI w3 w8 (HX gc0 gc1 hc0 hc1 aa ab) (HZ aa ab) g gl gm gc0 gc1 hc0 hc1 (200 - (i + 1)) D D fy p0 p1 p0 p1 w') => h.swap.rcell0 HDl.out)
              have HZz := Lib.hid (fun w' (h : HopI w3 w8 (HX gc0 gc1 hc0 hc1 aa ab) (HZ aa ab) g gl gm gc0 gc1 hc0 hc1 (200 - (i + 1)) D D fy p0 p1 p0 p1 w') => And.intro (h.zcell (.inl rfl) HA.out.a1) (h.zcell (.inr rfl) HA.out.b1))
              clear hI
              obtain ⟨P, hP⟩ : ∃ P, cellP p1 = cellP P := ⟨_, rfl⟩
              rw [hP] at HC1 HC2
              clear hP
              as_aux_lemma =>
                obtain ⟨z0, z1⟩ := HZz.out _ HI0.out
                cases P with
                | front =>
                  unfold cellP zcE zeC at HC1 HC2
                  have GA := Lib.hid (fun w' => Gr.alloc w' (.cells #[.string ⟨#[]⟩, .int .i64 0, .int .i64 0, .string ⟨#[]⟩] 41))
                  have HB4 := Lib.hid (fun w' w'' (h : Gr (w'.alloc (.cells #[.string ⟨#[]⟩, .int .i64 0, .int .i64 0, .string ⟨#[]⟩] 41)) w'') => cells_four ((Blk.new w' 41 #[.string ⟨#[]⟩, .int .i64 0, .int .i64 0, .string ⟨#[]⟩]).gr h))
                  go_wp2_with (first
                    | (go_at_call 17; go_must (refine (HC1.out _ HI0.out).mono ?_); rintro e w9 ⟨rfl, g9⟩; have K9 := HI0.out.more (g9.trans (GA.out _)); obtain ⟨_, z4⟩ := HZz.out _ K9; clear z0 z1)
                    | (go_at_call 37; go_must (refine (HC2.out _ K9).mono ?_); rintro e w10 ⟨rfl, g10⟩; have K10 := Lib.hid (K9.more (g10.trans (GA.out _))); obtain ⟨x0, x1, x2, x3⟩ := HB4.out _ _ (g10.trans (GA.out _)); clear z4)
                    | fail)
                  go_roundw
                  case rel => exact ⟨jn, by rw [HJn.out.1]; go_num, HJn.out.2, K10.out⟩
                  case measure => simp [intOf]
                | back =>
                  unfold cellP zcE zeC at HC1 HC2
                  have GA := Lib.hid (fun w' => Gr.alloc w' (.cells #[.string ⟨#[]⟩, .int .i64 0, .int .i64 0, .string ⟨#[]⟩] 41))
                  have HB4 := Lib.hid (fun w' w'' (h : Gr (w'.alloc (.cells #[.string ⟨#[]⟩, .int .i64 0, .int .i64 0, .string ⟨#[]⟩] 41)) w'') => cells_four ((Blk.new w' 41 #[.string ⟨#[]⟩, .int .i64 0, .int .i64 0, .string ⟨#[]⟩]).gr h))
                  go_wp2_with (first
                    | (go_at_call 17; go_must (refine (HC1.out _ HI0.out).mono ?_); rintro e w9 ⟨rfl, g9⟩; have K9 := HI0.out.more (g9.trans (GA.out _)); obtain ⟨_, z4⟩ := HZz.out _ K9; clear z0 z1)
                    | (go_at_call 37; go_must (refine (HC2.out _ K9).mono ?_); rintro e w10 ⟨rfl, g10⟩; have K10 := Lib.hid (K9.more (g10.trans (GA.out _))); obtain ⟨x0, x1, x2, x3⟩ := HB4.out _ _ (g10.trans (GA.out _)); clear z4)
                    | fail)
                  go_roundw
                  case rel => exact ⟨jn, by rw [HJn.out.1]; go_num, HJn.out.2, K10.out⟩
                  case measure => simp [intOf]
                | at_ c =>
                  unfold cellP ceV at HC1 HC2
                  have GA := Lib.hid (fun w' => Gr.alloc w' (.cells #[.string (str c.key), .int .i64 (c.seq : Int), .int .i64 (c.kind : Int), .string (str c.val)] 41))
                  have HB4 := Lib.hid (fun w' w'' (h : Gr (w'.alloc (.cells #[.string (str c.key), .int .i64 (c.seq : Int), .int .i64 (c.kind : Int), .string (str c.val)] 41)) w'') => cells_four ((Blk.new w' 41 #[.string (str c.key), .int .i64 (c.seq : Int), .int .i64 (c.kind : Int), .string (str c.val)]).gr h))
                  go_wp2_with (first
                    | (go_at_call 17; go_must (refine (HC1.out _ HI0.out).mono ?_); rintro e w9 ⟨rfl, g9⟩; have K9 := HI0.out.more (g9.trans (GA.out _)); obtain ⟨_, z4⟩ := HZz.out _ K9; clear z0 z1)
                    | (go_at_call 37; go_must (refine (HC2.out _ K9).mono ?_); rintro e w10 ⟨rfl, g10⟩; have K10 := Lib.hid (K9.more (g10.trans (GA.out _))); obtain ⟨x0, x1, x2, x3⟩ := HB4.out _ _ (g10.trans (GA.out _)); clear z4)
                    | fail)
                  go_roundw
                  case rel => exact ⟨jn, by rw [HJn.out.1]; go_num, HJn.out.2, K10.out⟩
                  case measure => simp [intOf]
            · obtain rfl : j = 2 := by omega
              have HE := Lib.hid (show HopJ w3 w8 (HX gc0 gc1 hc0 hc1 aa ab) (HZ aa ab) g gl gm gc0 gc1 hc0 hc1 (i + 1) wr from ⟨D, fy, p0, p1, by rw [← HME.out]; exact HLe.out, hI⟩)
              clear hI
              go_wp2
              go_roundw
              case rel => exact ⟨i + 1, by go_num, hlt, hlt2, HE.out⟩
              case measure => simp [intOf]; omega
    · have hx : l.length ≤ i ∨ (i < l.length ∧ 150 ≤ i) := by omega
      obtain ⟨C, fz, p0, p1, _, hI⟩ := hJ
      have HF := Lib.hid hI.free
      have HZa := Lib.hid (fun w' (h : HopD w3 w8 (HZ aa ab) g gl gc0 gc1 w') => And.intro (h.zcell (.inl rfl) HA.out.a0) (h.zcell (.inl rfl) HA.out.a1))
      have HCl := Lib.hid (fun w' (h : HopD w3 w8 (HZ aa ab) g gl gc0 gc1 w') => h.cell)
      have HGt := Lib.hid (show ∀ w', HopD w3 w8 (HZ aa ab) g gl gc0 gc1 w' → Calls Try.prog 27 #[.pointer (some ⟨gl, 0, none⟩), .string ⟨#[97]⟩, .int .i64 1] w' (fun e w2 => e = .returned (zcE 12) ∧ Gr w' w2) from fun w' h => h.get [97] 1)
      have HIn := Lib.hid (show ∀ w', HopD w3 w8 (HZ aa ab) g gl gc0 gc1 w' → Calls Try.prog 12 #[.pointer (some ⟨gl, 0, none⟩), .agg #[.string ⟨#[]⟩, .int .i64 0, .int .i64 0, .string ⟨#[]⟩], .int .i64 1] w' (fun e w2 => e = .returned (.int .i64 12) ∧ Gr w' w2) from fun w' h => h.ins)
      unfold zcE zeC at HCl HGt
      clear hI HR HVL
      rcases hx with hx | ⟨hx, hx2⟩
      · as_aux_lemma =>
          have T0 : RowKit.Hid True := trivial
          go_wp2_with (first
            | (go_at_call 20; clear T0; go_must (refine HF.out.mono ?_); rintro e w9 ⟨rfl, D9⟩)
            | (go_at_call 20; go_must (refine D9.free.mono ?_); rintro e w' ⟨rfl, rfl⟩)
            | (go_at_call 21; go_must (refine D9.idl.mono ?_); rintro e w' ⟨rfl, rfl⟩; obtain ⟨z0, z1⟩ := HZa.out _ D9)
            | (go_at_call 17; go_must (refine (HCl.out _ D9).mono ?_); rintro e w10 ⟨rfl, g10⟩; have D10 := D9.more g10; clear z0 z1)
            | (go_at_call 27; go_must (refine (HGt.out _ D10).mono ?_); rintro e w11 ⟨rfl, g11⟩; have D11 := D10.more (g11.trans (Gr.alloc _ (.cells #[.string ⟨#[]⟩, .int .i64 0, .int .i64 0, .string ⟨#[]⟩] 41))); obtain ⟨z0, z1⟩ := HZa.out _ D11)
            | (go_at_call 19; go_must (refine D11.next.mono ?_); rintro e w' ⟨rfl, rfl⟩)
            | (go_at_call 25; go_must (refine D11.cnt.mono ?_); rintro e w' ⟨rfl, rfl⟩)
            | (go_at_call 12; go_must (refine (HIn.out _ D11).mono ?_); rintro e w12 ⟨rfl, g12⟩)
            | fail)
          go_ret
          exact ⟨rfl, GW.out.trans (D11.gr.trans g12)⟩
      · as_aux_lemma =>
          have T0 : RowKit.Hid True := trivial
          go_wp2_with (first
            | (go_at_call 20; clear T0; go_must (refine HF.out.mono ?_); rintro e w9 ⟨rfl, D9⟩)
            | (go_at_call 20; go_must (refine D9.free.mono ?_); rintro e w' ⟨rfl, rfl⟩)
            | (go_at_call 21; go_must (refine D9.idl.mono ?_); rintro e w' ⟨rfl, rfl⟩; obtain ⟨z0, z1⟩ := HZa.out _ D9)
            | (go_at_call 17; go_must (refine (HCl.out _ D9).mono ?_); rintro e w10 ⟨rfl, g10⟩; have D10 := D9.more g10; clear z0 z1)
            | (go_at_call 27; go_must (refine (HGt.out _ D10).mono ?_); rintro e w11 ⟨rfl, g11⟩; have D11 := D10.more (g11.trans (Gr.alloc _ (.cells #[.string ⟨#[]⟩, .int .i64 0, .int .i64 0, .string ⟨#[]⟩] 41))); obtain ⟨z0, z1⟩ := HZa.out _ D11)
            | (go_at_call 19; go_must (refine D11.next.mono ?_); rintro e w' ⟨rfl, rfl⟩)
            | (go_at_call 25; go_must (refine D11.cnt.mono ?_); rintro e w' ⟨rfl, rfl⟩)
            | (go_at_call 12; go_must (refine (HIn.out _ D11).mono ?_); rintro e w12 ⟨rfl, g12⟩)
            | fail)
          go_ret
          exact ⟨rfl, GW.out.trans (D11.gr.trans g12)⟩
end Go.Proofs.Ytnafhjgfkofkbaa
namespace Go.Proofs.Ytnafhjgfkofkbaa.skipHops
set_option linter.unusedSimpArgs false
open Go.ChangeShapes Go.WideShapes Go.ChangeAt Go.RowKit
open Go.ChangeMaps (open_string shut_string)
set_option linter.unusedVariables false
theorem own : ownKnob Try.prog.godebug = none := by kernel_rfl
theorem laidOut : laidOutB Try.prog = true := by kernel_rfl
set_option maxRecDepth 100000 in
theorem contract (H : Type) (enc : TypeId × Value → H) (W : World) (base : Nat) (args : Array Value) (ds gs : List (DataW H)) (before : List MemPlace)
    (hval0 : ∀ (j : Nat) t v, Try.f7.params[j]? = some t → args[j]? = some v → Value.okWide Try.prog W .any base t v)
    (hW : DataW.Whole enc Try.prog Try.f7.params.toList Rows.skipHopsSpec.vars false W args.toList ds gs before)
    (hsz0 : (DataW.weightsEach Try.prog (Try.f7.params.toList ++ Rows.skipHopsSpec.plain.varTypes Try.prog) (ds ++ gs)).all (· ≤ reachBytes) = true) :
    Calls Try.prog 7 args W fun e W' => ∃ v, e = .returned v ∧ Rows.skipHopsSpec.post enc Try.prog Try.f7 false true false false W args v W' := by
  have hval : ∀ (j : Nat) t v, Try.f7.params[j]? = some t → args[j]? = some v → Value.okWide Try.prog W .any base t v := hval0
  have hW' := hW
  obtain ⟨p, q, hA0, hV, rfl, hfz, hnd⟩ := hW
  have hA : DataW.TrodAll enc Try.prog W 0 (fun _ => true) true Try.f7.params.toList args.toList ds p := hA0
  have hsz : (DataW.weightsEach Try.prog (Try.f7.params.toList ++ Rows.skipHopsSpec.plain.varTypes Try.prog) (ds ++ gs)).all (· ≤ reachBytes) = true := hsz0
  rw [Try.params7] at hA hval hsz
  obtain ⟨v0, vs0, d0, ds0, p0, q0, hargs, rfl, rfl, h0, r0⟩ := trodAll_cons hA
  obtain ⟨rfl, rfl, rfl⟩ := trodAll_nil r0
  obtain rfl : args = #[v0] := by cases args; simp_all
  obtain ⟨rfl, rfl⟩ := trodVars_none hV
  have k0 := h0
  have lt0 : ∀ x ∈ p0, x.block < W.heap.size := by obtain ⟨m, hm⟩ := k0; exact DataW.trod_lt m _ _ _ hm
  obtain ⟨ad0, len0, cap0, l0, rfl, hl0, hc0, hm0, hb0, hq0⟩ := open_hops Try.underlying56 (by kernel_rfl) Try.underlying64 ⟨rfl, rfl, rfl, rfl⟩ ⟨by kernel_rfl, by kernel_rfl, by kernel_rfl, by kernel_rfl⟩ Try.underlying3 Try.underlying3 Try.underlying3 Try.underlying41 Try.underlying33 ⟨rfl, rfl, rfl, rfl, rfl⟩ ⟨by kernel_rfl, by kernel_rfl, by kernel_rfl, by kernel_rfl, by kernel_rfl⟩ Try.underlying9 Try.underlying9 Try.underlying3 Try.underlying3 (hval 0 56 v0 rfl rfl) h0
  subst hl0
  clear hA0 hval0
  refine (SkipHops_any ad0 cap0 l0 W hb0 (len_of_ hc0 hm0) (fun c hc => le_of_max (hq0 c hc).2)).mono fun e W' ⟨he, bel⟩ => ?_
  subst he
  exact ⟨_, rfl, _, _, _, [], _, [], hW', trodAll_mk1 (shut_bool Try.underlying4 _), (trodAll_cons_mk (Below.trod laidOut (by kernel_rfl) (of_decide_eq_true (by kernel_rfl)) k0 bel lt0) trodAll_mk0), rfl, bel.frame _, fun h => by cases h⟩
set_option maxRecDepth 100000 in
theorem lifted (os : Os) (started : os.Started) (H : Type) (enc : TypeId × Value → H) :
    ReturnsInHanded {} Try.checked os 7 .any (Rows.skipHopsSpec.pre6 enc Try.prog Try.f7 Rows.skipHopsRow.domain false) (Rows.skipHopsSpec.post enc Try.prog Try.f7 false true false false) := by
  refine returnsInHanded_of_change_sized (C := Try.checked) own started (by kernel_rfl) Try.func7
    (ChangeSpec.witness6 (enc := enc) (C := Try.checked) false ⟨#[], #[.slice none 0 0], []⟩ 8 (by kernel_rfl) (by kernel_rfl) (by kernel_rfl) (by kernel_rfl)) ?_
  intro W base args ds gs before hval0 hW hcnd0 hsz0 _
  exact contract H enc W base args ds gs before hval0 hW hsz0
theorem over : Rows.skipHopsRow.holds Try.pinned (OpenSpec.ofChange Rows.skipHopsSpec) :=
  OpenClaim.holds_of_wide 7 Try.f7 rfl rfl rfl rfl rfl rfl rfl ⟨rfl, rfl, rfl, rfl, rfl⟩ rfl rfl rfl rfl rfl (by kernel_rfl) Try.func7 (by kernel_rfl)
    (of_decide_eq_true (by kernel_rfl)) (by unfold Func.isWrapper; first | (rw [if_pos (by decide +kernel)]; kernel_rfl) | (rw [if_neg (by decide +kernel)]; exact ⟨rfl, rfl⟩))
    (fun os started H enc _ => lifted os started H enc)
theorem proved : Rows.SkipHopsSaid := over
#print axioms proved
end Go.Proofs.Ytnafhjgfkofkbaa.skipHops
