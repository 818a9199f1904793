/- How a slice of calls (five numbers and a text each) is opened. No program is in sight here. -/
import Derived.Test.YtfnimpgphagnfaaOpenL
import Derived.Deep.SlicePairs
namespace Go.Proofs.Ytfnimpgphagnfaa
set_option linter.unusedVariables false
set_option linter.unusedSimpArgs false
open Go.ChangeShapes Go.WideShapes Go.ChangeAt Go.RowKit Go.Deep
structure Tl where
  call : Int
  a : Int
  b : Int
  c : Int
  at_ : Int
  data : List UInt8
instance : Inhabited Tl := ⟨⟨0, 0, 0, 0, 0, []⟩⟩
def tlc (t : Tl) : List Value := [.int .i64 t.call, .int .i64 t.a, .int .i64 t.b, .int .i64 t.c, .int .i64 t.at_, .string (str t.data)]
def tlv (l : List Tl) : List Value := l.flatMap tlc
theorem tlv_get : ∀ (l : List Tl) (i k : Nat) (h : i < l.length), k < 6 → (tlv l)[i * 6 + k]? = (tlc l[i])[k]?
  | [], _, _, h, _ => by simp at h
  | x :: l, 0, k, _, hk => by
    unfold tlv
    rw [List.flatMap_cons, List.getElem?_append_left (by simp only [tlc, List.length_cons, List.length_nil]; omega)]
    simp
  | x :: l, i + 1, k, h, hk => by
    have := tlv_get l i k (by simpa using h) hk
    unfold tlv at this ⊢
    have h6 : (tlc x).length = 6 := rfl
    rw [List.flatMap_cons, List.getElem?_append_right (by omega), h6, show (i + 1) * 6 + k - 6 = i * 6 + k by omega, this]
    simp
theorem tlv_len : ∀ l : List Tl, (tlv l).length = l.length * 6
  | [] => rfl
  | x :: l => by
    have := tlv_len l
    unfold tlv at this ⊢
    rw [List.flatMap_cons, List.length_append, this, List.length_cons]
    show 6 + _ = _
    omega
theorem Row.tilth {w : World} {ad : Option Addr} {l : List Tl} (h : Row w ad (tlv l)) (i : Nat) (hi : i < l.length) :
    ∃ b off, ad = some ⟨b, off, none⟩ ∧ w.cell? ⟨b, off + i * 6, none⟩ = some (.int .i64 l[i].call) ∧ w.cell? ⟨b, off + i * 6 + 1, none⟩ = some (.int .i64 l[i].a) ∧ w.cell? ⟨b, off + i * 6 + 2, none⟩ = some (.int .i64 l[i].b) ∧ w.cell? ⟨b, off + i * 6 + 3, none⟩ = some (.int .i64 l[i].c) ∧ w.cell? ⟨b, off + i * 6 + 4, none⟩ = some (.int .i64 l[i].at_) ∧ w.cell? ⟨b, off + i * 6 + 5, none⟩ = some (.string (str l[i].data)) := by
  obtain ⟨b, off, e, c0⟩ := h _ _ ((tlv_get l i 0 hi (by decide)).trans rfl)
  obtain ⟨b1, o1, e1, c1⟩ := h _ _ ((tlv_get l i 1 hi (by decide)).trans rfl)
  obtain ⟨b2, o2, e2, c2⟩ := h _ _ ((tlv_get l i 2 hi (by decide)).trans rfl)
  obtain ⟨b3, o3, e3, c3⟩ := h _ _ ((tlv_get l i 3 hi (by decide)).trans rfl)
  obtain ⟨b4, o4, e4, c4⟩ := h _ _ ((tlv_get l i 4 hi (by decide)).trans rfl)
  obtain ⟨b5, o5, e5, c5⟩ := h _ _ ((tlv_get l i 5 hi (by decide)).trans rfl)
  rw [e] at e1 e2 e3 e4 e5
  cases e1; cases e2; cases e3; cases e4; cases e5
  exact ⟨b, off, e, c0, c1, c2, c3, c4, c5⟩
section
variable {H : Type} {P : Program} {w : World} {enc : TypeId × Value → H}
theorem open_tilths {base : Nat} {spare : Nat → Bool} {held : Bool} {r : Reach} {b0 : Nat} {t e : TypeId} {f0 f1 f2 f3 f4 f5 : Field} {v : Value} {d : DataW H} {ps : List MemPlace} (ht : P.underlying t = some (.slice e)) (he : P.underlying e = some (.struct #[f0, f1, f2, f3, f4, f5]))
    (ce : P.cellsOf e = 6) (ho : f0.offset = 0 ∧ f1.offset = 1 ∧ f2.offset = 2 ∧ f3.offset = 3 ∧ f4.offset = 4 ∧ f5.offset = 5) (hc : P.cellsOf f0.type = 1 ∧ P.cellsOf f1.type = 1 ∧ P.cellsOf f2.type = 1 ∧ P.cellsOf f3.type = 1 ∧ P.cellsOf f4.type = 1 ∧ P.cellsOf f5.type = 1)
    (s0 : P.underlying f0.type = some (.int .i64)) (s1 : P.underlying f1.type = some (.int .i64)) (s2 : P.underlying f2.type = some (.int .i64)) (s3 : P.underlying f3.type = some (.int .i64)) (s4 : P.underlying f4.type = some (.int .i64)) (s5 : P.underlying f5.type = some .string)
    (hval : Value.okWide P w r b0 t v) (hd : DataW.Trod enc P w base spare held t v d ps) :
    ∃ ad len cap, ∃ l : List Tl, v = .slice ad len cap ∧ l.length = len ∧ len ≤ cap ∧ cap ≤ maxLen ∧ Row w ad (tlv l) := by
  obtain ⟨o0, o1, o2, o3, o4, o5⟩ := ho
  obtain ⟨c0, c1, c2, c3, c4, c5⟩ := hc
  obtain ⟨ad, len, cap, rfl⟩ := okWide_slice ht hval
  obtain ⟨fuel, hf⟩ := hd
  rcases open_slice ht hf with ⟨hcs, hx⟩ | ⟨a, l, c, m, n, D, Pl, hcs, hb, hl, hm, hmm, hx0, hx⟩
  · simp [Value.cells] at hcs
    obtain ⟨e1, e2, e3⟩ := hcs
    subst e1 e2 e3
    exact ⟨none, 0, 0, [], rfl, rfl, Nat.le_refl _, Nat.zero_le _, Row.nil _ _⟩
  · simp [Value.cells] at hcs
    obtain ⟨e1, e2, e3⟩ := hcs
    subst e1 e2 e3
    have hlm : len ≤ m := by rw [hmm]; split <;> omega
    have each : ∀ i, i < m → ∃ q : Tl, ∀ k u, (tlc q)[k]? = some u → w.cell? (a.add (i * 6 + k)) = some u := by
      intro i hi
      obtain ⟨cs', h1, h2⟩ := hx i hi
      rw [ce] at h1
      obtain ⟨_, hlen, hcell⟩ := World.cells?_some h1
      obtain ⟨xs, k, hk, hxy, _, hxl, hf⟩ := DataW.trod_struct he h2
      match xs, hxl, cs', hlen with
      | [y0, y1, y2, y3, y4, y5], _, [v0, v1, v2, v3, v4, v5], _ =>
        have g0 := hf 0 f0 rfl
        have g1 := hf 1 f1 rfl
        have g2 := hf 2 f2 rfl
        have g3 := hf 3 f3 rfl
        have g4 := hf 4 f4 rfl
        have g5 := hf 5 f5 rfl
        simp [o0, c0] at g0
        simp [o1, c1] at g1
        simp [o2, c2] at g2
        simp [o3, c3] at g3
        simp [o4, c4] at g4
        simp [o5, c5] at g5
        obtain ⟨n0, q0, _, _⟩ := DataW.trod_int s0 g0
        obtain ⟨n1, q1, _, _⟩ := DataW.trod_int s1 g1
        obtain ⟨n2, q2, _, _⟩ := DataW.trod_int s2 g2
        obtain ⟨n3, q3, _, _⟩ := DataW.trod_int s3 g3
        obtain ⟨n4, q4, _, _⟩ := DataW.trod_int s4 g4
        obtain ⟨n5, q5, _, _⟩ := DataW.trod_string s5 g5
        simp only [List.cons.injEq, and_true] at q0 q1 q2 q3 q4 q5
        obtain ⟨t5, ht5⟩ := to_str n5
        subst q0 q1 q2 q3 q4 q5 ht5
        refine ⟨⟨n0, n1, n2, n3, n4, t5⟩, fun k u hku => ?_⟩
        have hk6 : k < 6 := (List.getElem?_eq_some_iff.1 hku).1
        have := hcell k hk6
        rw [add_add] at this
        rw [this]
        exact hku
    obtain ⟨q, hq⟩ := choose_lt each
    have hlen : ((List.range len).map q).length = len := by simp
    refine ⟨some a, len, cap, (List.range len).map q, rfl, hlen, hl, hm, ?_⟩
    intro i u hi
    have hil : i < len * 6 := by
      have := (List.getElem?_eq_some_iff.1 hi).1
      rw [tlv_len, hlen] at this; exact this
    obtain ⟨b, off, spot⟩ := a
    have h0 := hq 0 (by omega) 0 _ rfl
    have hspot : spot = none := by simpa [Addr.add] using World.cell?_spot h0
    subst hspot
    refine ⟨b, off, rfl, ?_⟩
    have hdm := Nat.div_add_mod i 6
    have hj : i / 6 < len := by omega
    have e : i = (i / 6) * 6 + i % 6 := by omega
    have hg := tlv_get ((List.range len).map q) (i / 6) (i % 6) (by rw [hlen]; exact hj) (Nat.mod_lt _ (by omega))
    rw [← e, hi] at hg
    simp only [List.getElem_map, List.getElem_range] at hg
    have := hq (i / 6) (by omega) (i % 6) u hg.symm
    rw [Go.WideShapes.add_plain, ← e] at this
    exact this
end
end Go.Proofs.Ytfnimpgphagnfaa
