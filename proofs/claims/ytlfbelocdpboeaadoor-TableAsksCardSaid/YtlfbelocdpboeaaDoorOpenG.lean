/- How the arguments of layer 14's statements are opened: cells in a struct, a row of asks. No program is in sight here. -/
import Derived.Test.YtlfbelocdpboeaaDoorBunB4
import Derived.Lib.SmallJoins
namespace Go.Proofs.YtlfbelocdpboeaaDoor
set_option linter.unusedVariables false
set_option linter.unusedSimpArgs false
open Go.ChangeShapes Go.WideShapes Go.ChangeAt Go.RowKit Go.Joins Go.Deep
structure Ak where
  what : Int
  ver : Vr
  most : Int
instance : Inhabited Ak := ⟨⟨0, ⟨[], 0, 0⟩, 0⟩⟩
def akc (t : Ak) : List Value := [.int .i64 t.what, .string (str t.ver.key), .int .i64 t.ver.seq, .int .i64 t.ver.kind, .int .i64 t.most]
def akv (l : List Ak) : List Value := l.flatMap akc
theorem akv_get : ∀ (l : List Ak) (i k : Nat) (h : i < l.length), k < 5 → (akv l)[i * 5 + k]? = (akc l[i])[k]?
  | [], _, _, h, _ => by simp at h
  | x :: l, 0, k, _, hk => by
    unfold akv
    rw [List.flatMap_cons, List.getElem?_append_left (by simp only [akc, List.length_cons, List.length_nil]; omega)]
    simp
  | x :: l, i + 1, k, h, hk => by
    have := akv_get l i k (by simpa using h) hk
    unfold akv at this ⊢
    have h5 : (akc x).length = 5 := rfl
    rw [List.flatMap_cons, List.getElem?_append_right (by omega), h5, show (i + 1) * 5 + k - 5 = i * 5 + k by omega, this]
    simp
theorem akv_len : ∀ l : List Ak, (akv l).length = l.length * 5
  | [] => rfl
  | x :: l => by
    have := akv_len l
    unfold akv at this ⊢
    rw [List.flatMap_cons, List.length_append, this, List.length_cons]
    show 5 + _ = _
    omega
theorem Row.ask {w : World} {ad : Option Addr} {l : List Ak} (h : Row w ad (akv l)) (i : Nat) (hi : i < l.length) :
    ∃ b off, ad = some ⟨b, off, none⟩ ∧ ∀ k u, (akc l[i])[k]? = some u → w.cell? ⟨b, off + (i * 5 + k), none⟩ = some u := by
  obtain ⟨b, off, e, _⟩ := h _ _ ((akv_get l i 0 hi (by decide)).trans rfl)
  refine ⟨b, off, e, fun k u hu => ?_⟩
  have hk : k < 5 := (List.getElem?_eq_some_iff.1 hu).1
  obtain ⟨b', off', e', c⟩ := h _ _ ((akv_get l i k hi hk).trans hu)
  rw [e] at e'
  cases e'
  exact c
section
variable {H : Type} {P : Program} {w : World} {enc : TypeId × Value → H}
theorem open_cells_at {base : Nat} {spare : Nat → Bool} {held : Bool} {t e : TypeId} {f0 f1 g0 g1 g2 : Field} {v : Value} {y : DataW H × List MemPlace} {fuel : Nat} (ht : P.underlying t = some (.slice e)) (ce : P.cellsOf e = 4) (he : P.underlying e = some (.struct #[f0, f1])) (hv : P.underlying f0.type = some (.struct #[g0, g1, g2]))
    (ho : f0.offset = 0 ∧ f1.offset = 3 ∧ g0.offset = 0 ∧ g1.offset = 1 ∧ g2.offset = 2) (hc : P.cellsOf f0.type = 3 ∧ P.cellsOf f1.type = 1 ∧ P.cellsOf g0.type = 1 ∧ P.cellsOf g1.type = 1 ∧ P.cellsOf g2.type = 1)
    (s1 : P.underlying f1.type = some .string) (t0 : P.underlying g0.type = some .string) (t1 : P.underlying g1.type = some (.int .i64)) (t2 : P.underlying g2.type = some (.int .i64))
    (hf : DataW.trod enc P w base spare held fuel t [v] = some y) :
    ∃ ad len cap, ∃ l : List Ci, v = .slice ad len cap ∧ l.length = len ∧ len ≤ cap ∧ cap ≤ maxLen ∧ Row w ad (cv l) ∧ ∀ c ∈ l, c.key.length ≤ maxLen ∧ c.val.length ≤ maxLen ∧ (-9223372036854775808 ≤ c.seq ∧ c.seq ≤ 9223372036854775807) ∧ (-9223372036854775808 ≤ c.kind ∧ c.kind ≤ 9223372036854775807) := by
  rcases open_slice ht hf with ⟨hcs, hx⟩ | ⟨a, len, cap, m, n, D, Pl, hcs, hb, hl, hm, hmm, hx0, hx⟩
  · simp only [List.cons.injEq, and_true] at hcs
    subst hcs
    exact ⟨none, 0, 0, [], rfl, rfl, Nat.le_refl _, Nat.zero_le _, Row.nil _ _, fun c hc => by simp at hc⟩
  · simp only [List.cons.injEq, and_true] at hcs
    subst hcs
    have hlm : len ≤ m := by rw [hmm]; split <;> omega
    have each : ∀ i, i < m → ∃ q : Ci, (∀ k u, (c4 q)[k]? = some u → w.cell? (a.add (i * 4 + k)) = some u) ∧ q.key.length ≤ maxLen ∧ q.val.length ≤ maxLen ∧ (-9223372036854775808 ≤ q.seq ∧ q.seq ≤ 9223372036854775807) ∧ (-9223372036854775808 ≤ q.kind ∧ q.kind ≤ 9223372036854775807) := by
      intro i hi
      obtain ⟨cs', h1, h2⟩ := hx i hi
      rw [ce] at h1
      obtain ⟨_, hlen, hcell⟩ := World.cells?_some h1
      match cs', hlen with
      | [v0, v1, v2, v3], _ =>
        obtain ⟨q, e, hq⟩ := trod_cell (ver := e) he hv ho hc s1 t0 t1 t2 h2
        refine ⟨q, fun k u hku => ?_, hq⟩
        have hk4 : k < 4 := (List.getElem?_eq_some_iff.1 hku).1
        have := hcell k hk4
        rw [add_add] at this
        rw [this, e]
        exact hku
    obtain ⟨q, hq⟩ := choose_lt each
    have hlen : ((List.range len).map q).length = len := by simp
    refine ⟨some a, len, cap, (List.range len).map q, rfl, hlen, hl, hm, ?_, ?_⟩
    · intro i u hi
      have hil : i < len * 4 := by
        have := (List.getElem?_eq_some_iff.1 hi).1
        rw [cv_length, hlen] at this; exact this
      obtain ⟨b, off, spot⟩ := a
      have h0 := (hq 0 (by omega)).1 0 _ rfl
      have hspot : spot = none := by simpa [Addr.add] using World.cell?_spot h0
      subst hspot
      refine ⟨b, off, rfl, ?_⟩
      have hdm := Nat.div_add_mod i 4
      have hj : i / 4 < len := by omega
      have e : i = (i / 4) * 4 + i % 4 := by omega
      have hg := cv_get ((List.range len).map q) (i / 4) (by rw [hlen]; exact hj) (i % 4) (Nat.mod_lt _ (by omega))
      rw [← e, hi] at hg
      simp only [List.getElem_map, List.getElem_range] at hg
      have := (hq (i / 4) (by omega)).1 (i % 4) u hg.symm
      rw [Go.WideShapes.add_plain, ← e] at this
      exact this
    · intro c hc
      obtain ⟨i, hi, rfl⟩ := List.mem_map.1 hc
      exact (hq i (by have := List.mem_range.1 hi; omega)).2
theorem open_spoil {base : Nat} {spare : Nat → Bool} {held : Bool} {r : Reach} {b0 : Nat} {t e : TypeId} {h0 h1 h2 h3 f0 f1 g0 g1 g2 : Field} {v : Value} {d : DataW H} {ps : List MemPlace} (hs : P.underlying t = some (.struct #[h0, h1, h2, h3])) (hone : oneCellFields P #[h0, h1, h2, h3] = true) (hC : P.cellsOf t = 4)
    (k0 : P.underlying h0.type = some (.slice e)) (k1 : P.underlying h1.type = some (.int .i64)) (k2 : P.underlying h2.type = some (.int .i64)) (k3 : P.underlying h3.type = some (.int .u8))
    (ce : P.cellsOf e = 4) (he : P.underlying e = some (.struct #[f0, f1])) (hv : P.underlying f0.type = some (.struct #[g0, g1, g2]))
    (ho : f0.offset = 0 ∧ f1.offset = 3 ∧ g0.offset = 0 ∧ g1.offset = 1 ∧ g2.offset = 2) (hc : P.cellsOf f0.type = 3 ∧ P.cellsOf f1.type = 1 ∧ P.cellsOf g0.type = 1 ∧ P.cellsOf g1.type = 1 ∧ P.cellsOf g2.type = 1)
    (s1 : P.underlying f1.type = some .string) (t0 : P.underlying g0.type = some .string) (t1 : P.underlying g1.type = some (.int .i64)) (t2 : P.underlying g2.type = some (.int .i64))
    (hval : Value.okWide P w r b0 t v) (hd : DataW.Trod enc P w base spare held t v d ps) :
    ∃ (ad : Option Addr) (cap : Nat) (l : List Ci) (a b : Int) (x : UInt8), v = .agg #[.slice ad l.length cap, .int .i64 a, .int .i64 b, .int .u8 (x.toNat : Int)] ∧ l.length ≤ cap ∧ cap ≤ maxLen ∧ Row w ad (cv l) ∧ ∀ c ∈ l, c.key.length ≤ maxLen ∧ c.val.length ≤ maxLen := by
  obtain ⟨c0, c1, c2, c3, y0, y1, y2, y3, m, rfl, _, _, hy0, hy1, hy2, hy3⟩ := open_agg4 hs hone hC hval hd
  obtain ⟨ad, len, cap, l, rfl, rfl, q2, q3, q4, q5⟩ := open_cells_at k0 ce he hv ho hc s1 t0 t1 t2 hy0
  obtain ⟨a, e1, _, w1⟩ := DataW.trod_int k1 hy1
  obtain ⟨b, e2, _, w2⟩ := DataW.trod_int k2 hy2
  obtain ⟨x, e3, _, w3⟩ := DataW.trod_int k3 hy3
  simp only [List.cons.injEq, and_true] at e1 e2 e3
  subst e1 e2 e3
  obtain ⟨y, rfl⟩ := pick_u8 w3
  exact ⟨ad, cap, l, a, b, y, rfl, q2, q3, q4, fun c hc => ⟨(q5 c hc).1, (q5 c hc).2.1⟩⟩
theorem open_asks {base : Nat} {spare : Nat → Bool} {held : Bool} {r : Reach} {b0 : Nat} {t e : TypeId} {h0 h1 h2 g0 g1 g2 : Field} {v : Value} {d : DataW H} {ps : List MemPlace} (ht : P.underlying t = some (.slice e)) (ce : P.cellsOf e = 5) (he : P.underlying e = some (.struct #[h0, h1, h2]))
    (hoff : h0.offset = 0 ∧ h1.offset = 1 ∧ h2.offset = 4) (hcs : P.cellsOf h0.type = 1 ∧ P.cellsOf h1.type = 3 ∧ P.cellsOf h2.type = 1) (k0 : P.underlying h0.type = some (.int .i64)) (k2 : P.underlying h2.type = some (.int .i64))
    (hv : P.underlying h1.type = some (.struct #[g0, g1, g2])) (ho : g0.offset = 0 ∧ g1.offset = 1 ∧ g2.offset = 2) (hc : P.cellsOf g0.type = 1 ∧ P.cellsOf g1.type = 1 ∧ P.cellsOf g2.type = 1)
    (t0 : P.underlying g0.type = some .string) (t1 : P.underlying g1.type = some (.int .i64)) (t2 : P.underlying g2.type = some (.int .i64))
    (hval : Value.okWide P w r b0 t v) (hd : DataW.Trod enc P w base spare held t v d ps) :
    ∃ ad len cap, ∃ l : List Ak, v = .slice ad len cap ∧ l.length = len ∧ len ≤ cap ∧ cap ≤ maxLen ∧ Row w ad (akv l) ∧ ∀ c ∈ l, c.ver.key.length ≤ maxLen ∧ (-9223372036854775808 ≤ c.ver.seq ∧ c.ver.seq ≤ 9223372036854775807) ∧ (-9223372036854775808 ≤ c.ver.kind ∧ c.ver.kind ≤ 9223372036854775807) ∧ (-9223372036854775808 ≤ c.most ∧ c.most ≤ 9223372036854775807) ∧ (-9223372036854775808 ≤ c.what ∧ c.what ≤ 9223372036854775807) := by
  obtain ⟨o0, o1, o2⟩ := hoff
  obtain ⟨d0, d1, d2⟩ := hcs
  obtain ⟨p0, p1, p2⟩ := ho
  obtain ⟨q0, q1, q2⟩ := hc
  obtain ⟨ad, len, cap, rfl⟩ := okWide_slice ht hval
  obtain ⟨fuel, hf⟩ := hd
  rcases open_slice ht hf with ⟨hcs, hx⟩ | ⟨a, l, c, m, n, D, Pl, hcs, hb, hl, hm, hmm, hx0, hx⟩
  · simp [Value.cells] at hcs
    obtain ⟨e1, e2, e3⟩ := hcs
    subst e1 e2 e3
    exact ⟨none, 0, 0, [], rfl, rfl, Nat.le_refl _, Nat.zero_le _, Row.nil _ _, fun c hc => by simp at hc⟩
  · simp [Value.cells] at hcs
    obtain ⟨e1, e2, e3⟩ := hcs
    subst e1 e2 e3
    have hlm : len ≤ m := by rw [hmm]; split <;> omega
    have each : ∀ i, i < m → ∃ q : Ak, (∀ k u, (akc q)[k]? = some u → w.cell? (a.add (i * 5 + k)) = some u) ∧ q.ver.key.length ≤ maxLen ∧ (-9223372036854775808 ≤ q.ver.seq ∧ q.ver.seq ≤ 9223372036854775807) ∧ (-9223372036854775808 ≤ q.ver.kind ∧ q.ver.kind ≤ 9223372036854775807) ∧ (-9223372036854775808 ≤ q.most ∧ q.most ≤ 9223372036854775807) ∧ (-9223372036854775808 ≤ q.what ∧ q.what ≤ 9223372036854775807) := by
      intro i hi
      obtain ⟨cs', z1, z2⟩ := hx i hi
      rw [ce] at z1
      obtain ⟨_, hlen, hcl⟩ := World.cells?_some z1
      obtain ⟨xs, k, hk, hxy, _, hxl, hf⟩ := DataW.trod_struct he z2
      match xs, hxl, cs', hlen with
      | [y0, y1, y2], _, [v0, v1, v2, v3, v4], _ =>
        have r0 := hf 0 h0 rfl
        have r1 := hf 1 h1 rfl
        have r2 := hf 2 h2 rfl
        simp [o0, d0] at r0
        simp [o1, d1] at r1
        simp [o2, d2] at r2
        obtain ⟨n0, w0, _, b0⟩ := DataW.trod_int k0 r0
        obtain ⟨n4, w4, _, b4⟩ := DataW.trod_int k2 r2
        obtain ⟨zs, k', hk', hxy', _, hzl, hf'⟩ := DataW.trod_struct hv r1
        match zs, hzl with
        | [z0, z1, z2], _ =>
          have s0 := hf' 0 g0 rfl
          have s1 := hf' 1 g1 rfl
          have s2 := hf' 2 g2 rfl
          simp [p0, q0] at s0
          simp [p1, q1] at s1
          simp [p2, q2] at s2
          obtain ⟨n1, w1, _, l1⟩ := DataW.trod_string t0 s0
          obtain ⟨n2, w2, _, b2⟩ := DataW.trod_int t1 s1
          obtain ⟨n3, w3, _, b3⟩ := DataW.trod_int t2 s2
          simp only [List.cons.injEq, and_true] at w0 w1 w2 w3 w4
          obtain ⟨u1, rfl⟩ := to_str n1
          subst w0 w1 w2 w3 w4
          refine ⟨⟨n0, ⟨u1, n2, n3⟩, n4⟩, fun k u hku => ?_, by rw [str_size] at l1; exact l1, bounds_i64 b2, bounds_i64 b3, bounds_i64 b4, bounds_i64 b0⟩
          have hk5 : k < 5 := (List.getElem?_eq_some_iff.1 hku).1
          have := hcl k hk5
          rw [add_add] at this
          rw [this]
          exact hku
    obtain ⟨q, hq⟩ := choose_lt each
    have hlen : ((List.range len).map q).length = len := by simp
    refine ⟨some a, len, cap, (List.range len).map q, rfl, hlen, hl, hm, ?_, ?_⟩
    · intro i u hi
      have hil : i < len * 5 := by
        have := (List.getElem?_eq_some_iff.1 hi).1
        rw [akv_len, hlen] at this; exact this
      obtain ⟨b, off, spot⟩ := a
      have h0 := (hq 0 (by omega)).1 0 _ rfl
      have hspot : spot = none := by simpa [Addr.add] using World.cell?_spot h0
      subst hspot
      refine ⟨b, off, rfl, ?_⟩
      have hdm := Nat.div_add_mod i 5
      have hj : i / 5 < len := by omega
      have e : i = (i / 5) * 5 + i % 5 := by omega
      have hg := akv_get ((List.range len).map q) (i / 5) (i % 5) (by rw [hlen]; exact hj) (Nat.mod_lt _ (by omega))
      rw [← e, hi] at hg
      simp only [List.getElem_map, List.getElem_range] at hg
      have := (hq (i / 5) (by omega)).1 (i % 5) u hg.symm
      rw [Go.WideShapes.add_plain, ← e] at this
      exact this
    · intro c hc
      obtain ⟨i, hi, rfl⟩ := List.mem_map.1 hc
      exact (hq i (by have := List.mem_range.1 hi; omega)).2
end
end Go.Proofs.YtlfbelocdpboeaaDoor
