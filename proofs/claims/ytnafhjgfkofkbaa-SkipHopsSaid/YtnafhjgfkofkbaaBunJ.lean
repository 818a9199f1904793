/- Layer 11 (skip): a cursor that goes forth and back. -/
import Derived.Test.YtnafhjgfkofkbaaBunA
import Derived.ShutString
import Derived.ChangeOld
import Derived.SliceStrings
import Derived.SizedLaws
import Derived.Lib.SmallJoins
import Derived.Test.YtnafhjgfkofkbaaBunI
import Derived.Deep.SlicePairs
/- How the arguments of a statement's function are opened. No program is in sight here. -/
namespace Go.Proofs.Ytnafhjgfkofkbaa
set_option linter.unusedVariables false
set_option linter.unusedSimpArgs false
open Go.ChangeShapes Go.WideShapes Go.ChangeAt Go.RowKit
section
variable {H : Type} {P : Program} {w : World} {enc : TypeId × Value → H}

theorem wf_bounds {k : IntKind} {n : Int} (h : (Lit.int k n).wf = true) : k.min ≤ n ∧ n ≤ k.max := by
  simpa [Lit.wf] using h
theorem bounds_i64 {n : Int} (h : (Lit.int .i64 n).wf = true) : -9223372036854775808 ≤ n ∧ n ≤ 9223372036854775807 := wf_bounds h
theorem pick_u32 {n : Int} (h : (Lit.int .u32 n).wf = true) : ∃ x : BitVec 32, n = U x := by
  have hb := wf_bounds h
  have h1 : (0 : Int) ≤ n := hb.1
  have h2 : n ≤ 4294967295 := hb.2
  obtain ⟨m, rfl⟩ := Int.eq_ofNat_of_zero_le h1
  exact ⟨BitVec.ofNat 32 m, U_lit m rfl (by omega)⟩
theorem pick_u64 {n : Int} (h : (Lit.int .u64 n).wf = true) : ∃ m : Nat, n = (m : Int) ∧ m < 18446744073709551616 := by
  have hb := wf_bounds h
  have h1 : (0 : Int) ≤ n := hb.1
  have h2 : n ≤ 18446744073709551615 := hb.2
  obtain ⟨m, rfl⟩ := Int.eq_ofNat_of_zero_le h1
  exact ⟨m, rfl, by omega⟩
theorem pick_u8 {n : Int} (h : (Lit.int .u8 n).wf = true) : ∃ x : UInt8, n = (x.toNat : Int) := by
  have hb := wf_bounds h
  have h1 : (0 : Int) ≤ n := hb.1
  have h2 : n ≤ 255 := hb.2
  obtain ⟨m, rfl⟩ := Int.eq_ofNat_of_zero_le h1
  exact ⟨UInt8.ofNat m, by rw [UInt8.toNat_ofNat', Nat.mod_eq_of_lt (by omega)]⟩

/-- a slice of numbers that came in -/
theorem open_nums {base : Nat} {spare : Nat → Bool} {held : Bool} {r : Reach} {b0 : Nat} {t e : TypeId} {k : IntKind} {v : Value} {d : DataW H} {ps : List MemPlace} (ht : P.underlying t = some (.slice e)) (he : P.underlying e = some (.int k)) (hc : P.cellsOf e = 1)
    (hval : Value.okWide P w r b0 t v) (hd : DataW.Trod enc P w base spare held t v d ps) :
    ∃ ad len cap, ∃ zs : List Int, v = .slice ad len cap ∧ zs.length = len ∧ len ≤ cap ∧ cap ≤ maxLen ∧ Row w ad (zs.map (Value.int k)) ∧ (∀ n ∈ zs, (Lit.int k n).wf = true) ∧
      ((d = .nil ∧ len = 0) ∨ ∃ x y, d = .slice x y ∧ len ≤ x.length) := by
  obtain ⟨ad, len, cap, rfl⟩ := okWide_slice ht hval
  obtain ⟨fuel, hf⟩ := hd
  rcases open_ints ht he hc hf with ⟨hcs, hx⟩ | ⟨x, l, c, zs, hcs, _, hl, hm, hz, hx, hcell, hwz⟩
  · simp [Value.cells] at hcs
    obtain ⟨e1, e2, e3⟩ := hcs
    subst e1 e2 e3
    simp only [Prod.mk.injEq] at hx
    exact ⟨none, 0, 0, [], rfl, rfl, Nat.le_refl _, Nat.zero_le _, Row.nil _ _, by simp, .inl ⟨hx.1, rfl⟩⟩
  · simp [Value.cells] at hcs
    obtain ⟨e1, e2, e3⟩ := hcs
    subst e1 e2 e3
    have hzl : len ≤ zs.length := by rw [hz]; split <;> omega
    have htl : (zs.take len).length = len := by simp; omega
    simp only [Prod.mk.injEq] at hx
    refine ⟨some x, len, cap, zs.take len, rfl, htl, hl, hm, ?_, fun n hn => hwz n (List.mem_of_mem_take hn), .inr ⟨_, _, hx.1, by simp [lits]; omega⟩⟩
    intro i u hi
    have hil : i < len := by
      have := (List.getElem?_eq_some_iff.1 hi).1
      rw [List.length_map, htl] at this; exact this
    obtain ⟨b, off, rfl, hcc⟩ := ints_at hcell (by omega)
    refine ⟨b, off, rfl, ?_⟩
    rw [hcc i (by omega)]
    rw [List.getElem?_map, List.getElem?_take, if_pos hil] at hi
    rw [List.getD_eq_getElem?_getD]
    have : i < zs.length := by omega
    simp [this] at hi ⊢
    exact hi
/-- a slice of bytes that came in -/
theorem open_bytes {base : Nat} {spare : Nat → Bool} {held : Bool} {r : Reach} {b0 : Nat} {t e : TypeId} {v : Value} {d : DataW H} {ps : List MemPlace} (ht : P.underlying t = some (.slice e)) (he : P.underlying e = some (.int .u8)) (hc : P.cellsOf e = 1)
    (hval : Value.okWide P w r b0 t v) (hd : DataW.Trod enc P w base spare held t v d ps) :
    ∃ ad len cap, ∃ l : List UInt8, v = .slice ad len cap ∧ l.length = len ∧ len ≤ cap ∧ cap ≤ maxLen ∧ Bytes w ad l ∧ ((d = .nil ∧ len = 0) ∨ ∃ x y, d = .slice x y ∧ len ≤ x.length) := by
  obtain ⟨ad, len, cap, zs, hv, h1, h2, h3, h4, h5, h6⟩ := open_nums ht he hc hval hd
  refine ⟨ad, len, cap, zs.map (fun n => UInt8.ofNat n.toNat), hv, by simpa using h1, h2, h3, ?_, h6⟩
  have : bv (zs.map (fun n => UInt8.ofNat n.toNat)) = zs.map (Value.int .u8) := by
    unfold bv
    rw [List.map_map]
    apply List.map_congr_left
    intro n hn
    obtain ⟨x, rfl⟩ := pick_u8 (h5 n hn)
    simp
  exact Row.bytes (by rw [this]; exact h4)
theorem sized_len {ts : List TypeId} {ds : List (DataW H)} (h : (DataW.weightsEach P ts ds).all (· ≤ reachBytes) = true) {j : Nat} {t e : TypeId} {d : DataW H} {len bytes : Nat} (ht : ts[j]? = some t) (hd : ds[j]? = some d) (hu : P.underlying t = some (.slice e)) (hb : P.bytesOf e = bytes)
    (hc : (d = .nil ∧ len = 0) ∨ ∃ x y, d = .slice x y ∧ len ≤ x.length) : len * bytes ≤ 140737488351232 := by
  rcases hc with ⟨_, rfl⟩ | ⟨x, y, rfl, hl⟩
  · simp
  · have h1 := sized_slice h ht hd hu
    rw [hb] at h1
    exact Nat.le_trans (Nat.mul_le_mul_right _ (by omega)) h1
theorem str_eta (t : ByteArray) : str t.data.toList = t := by
  apply ByteArray.ext
  simp [str]
theorem to_str (t : ByteArray) : ∃ l, t = str l := ⟨t.data.toList, (str_eta t).symm⟩

end
end Go.Proofs.Ytnafhjgfkofkbaa
/- How slices of texts and of 64-bit numbers are opened. No program is in sight here. -/
namespace Go.Proofs.Ytnafhjgfkofkbaa
set_option linter.unusedVariables false
set_option linter.unusedSimpArgs false
open Go.ChangeShapes Go.WideShapes Go.ChangeAt Go.RowKit
section
variable {H : Type} {P : Program} {w : World} {enc : TypeId × Value → H}
/-- texts, as Go's values -/
def tv (l : List (List UInt8)) : List Value := l.map fun s => Value.string (str s)
theorem open_strs {base : Nat} {spare : Nat → Bool} {held : Bool} {r : Reach} {b0 : Nat} {t e : TypeId} {v : Value} {d : DataW H} {ps : List MemPlace} (ht : P.underlying t = some (.slice e)) (he : P.underlying e = some .string) (hc : P.cellsOf e = 1)
    (hval : Value.okWide P w r b0 t v) (hd : DataW.Trod enc P w base spare held t v d ps) :
    ∃ ad len cap, ∃ l : List (List UInt8), v = .slice ad len cap ∧ l.length = len ∧ len ≤ cap ∧ cap ≤ maxLen ∧ Row w ad (tv l) ∧ (∀ s ∈ l, s.length ≤ 9223372036854775807) ∧
      ((d = .nil ∧ len = 0) ∨ ∃ x y, d = .slice x y ∧ len ≤ x.length) := by
  obtain ⟨ad, len, cap, rfl⟩ := okWide_slice ht hval
  obtain ⟨fuel, hf⟩ := hd
  rcases open_strings ht he hc hf with ⟨hcs, hx⟩ | ⟨a, l, c, ss, hcs, _, hl, hm, hz, hx, hcell, hwz⟩
  · simp [Value.cells] at hcs
    obtain ⟨e1, e2, e3⟩ := hcs
    subst e1 e2 e3
    simp only [Prod.mk.injEq] at hx
    exact ⟨none, 0, 0, [], rfl, rfl, Nat.le_refl _, Nat.zero_le _, Row.nil _ _, by simp, .inl ⟨hx.1, rfl⟩⟩
  · simp [Value.cells] at hcs
    obtain ⟨e1, e2, e3⟩ := hcs
    subst e1 e2 e3
    have hzl : len ≤ ss.length := by rw [hz]; split <;> omega
    simp only [Prod.mk.injEq] at hx
    have hlen : ((ss.take len).map fun s => s.data.toList).length = len := by simp; omega
    refine ⟨some a, len, cap, (ss.take len).map fun s => s.data.toList, rfl, hlen, hl, hm, ?_, ?_, .inr ⟨_, _, hx.1, by simp [strs]; omega⟩⟩
    · intro i u hi
      have hil : i < len := by
        have := (List.getElem?_eq_some_iff.1 hi).1
        unfold tv at this
        rw [List.length_map, hlen] at this; exact this
      have h0 := hcell 0 (by omega)
      obtain ⟨b, off, spot⟩ := a
      have hspot : spot = none := by simpa [Addr.add] using World.cell?_spot h0
      subst hspot
      refine ⟨b, off, rfl, ?_⟩
      have hi2 := hcell i (by omega)
      rw [Go.WideShapes.add_plain] at hi2
      rw [hi2]
      have hss : i < ss.length := by omega
      unfold tv at hi
      simp only [List.getElem?_map, List.getElem?_take, hil, if_true, List.getElem?_eq_getElem hss, Option.map_some, Option.some.injEq] at hi
      rw [← hi, str_eta, List.getD_eq_getElem?_getD, List.getElem?_eq_getElem hss, Option.getD_some]
    · intro s hs
      obtain ⟨x, hx1, rfl⟩ := List.mem_map.1 hs
      have := hwz x (List.mem_of_mem_take hx1)
      unfold maxLen at this
      simpa using this
theorem open_u64s {base : Nat} {spare : Nat → Bool} {held : Bool} {r : Reach} {b0 : Nat} {t e : TypeId} {v : Value} {d : DataW H} {ps : List MemPlace} (ht : P.underlying t = some (.slice e)) (he : P.underlying e = some (.int .u64)) (hc : P.cellsOf e = 1)
    (hval : Value.okWide P w r b0 t v) (hd : DataW.Trod enc P w base spare held t v d ps) :
    ∃ ad len cap, ∃ l : List Nat, v = .slice ad len cap ∧ l.length = len ∧ len ≤ cap ∧ cap ≤ maxLen ∧ Row w ad (l.map fun (n : Nat) => Value.int .u64 (n : Int)) ∧ (∀ n ∈ l, n < 18446744073709551616) ∧
      ((d = .nil ∧ len = 0) ∨ ∃ x y, d = .slice x y ∧ len ≤ x.length) := by
  obtain ⟨ad, len, cap, zs, hv, h1, h2, h3, h4, h5, h6⟩ := open_nums ht he hc hval hd
  refine ⟨ad, len, cap, zs.map Int.toNat, hv, by simpa using h1, h2, h3, ?_, ?_, h6⟩
  · have : (zs.map Int.toNat).map (fun (n : Nat) => Value.int .u64 (n : Int)) = zs.map (Value.int .u64) := by
      rw [List.map_map]
      apply List.map_congr_left
      intro n hn
      obtain ⟨m, rfl, _⟩ := pick_u64 (h5 n hn)
      simp
    rw [this]; exact h4
  · intro n hn
    obtain ⟨z, hz, rfl⟩ := List.mem_map.1 hn
    obtain ⟨m, rfl, hm⟩ := pick_u64 (h5 z hz)
    simpa using hm
end
end Go.Proofs.Ytnafhjgfkofkbaa
/- How a struct of a text and two numbers is opened. No program is in sight here. -/
namespace Go.Proofs.Ytnafhjgfkofkbaa
set_option linter.unusedVariables false
set_option linter.unusedSimpArgs false
open Go.ChangeShapes Go.WideShapes Go.ChangeAt Go.RowKit Go.Joins Go.Deep
section
variable {H : Type} {P : Program} {w : World} {enc : TypeId × Value → H}
theorem open_sii {base : Nat} {spare : Nat → Bool} {held : Bool} {r : Reach} {b0 : Nat} {t : TypeId} {f0 f1 f2 : Field} {v : Value} {d : DataW H} {ps : List MemPlace} (hs : P.underlying t = some (.struct #[f0, f1, f2])) (hone : oneCellFields P #[f0, f1, f2] = true) (hC : P.cellsOf t = 3)
    (h0 : P.underlying f0.type = some .string) (h1 : P.underlying f1.type = some (.int .i64)) (h2 : P.underlying f2.type = some (.int .i64))
    (hval : Value.okWide P w r b0 t v) (hd : DataW.Trod enc P w base spare held t v d ps) :
    ∃ (k : List UInt8) (s e : Int), v = .agg #[.string (str k), .int .i64 s, .int .i64 e] ∧ k.length ≤ maxLen ∧ (-9223372036854775808 ≤ s ∧ s ≤ 9223372036854775807) ∧ (-9223372036854775808 ≤ e ∧ e ≤ 9223372036854775807) := by
  obtain ⟨c0, c1, c2, y0, y1, y2, m, rfl, _, _, hy0, hy1, hy2⟩ := open_agg3 hs hone hC hval hd
  obtain ⟨t, e0, _, hl⟩ := DataW.trod_string h0 hy0
  obtain ⟨a, e1, _, w1⟩ := DataW.trod_int h1 hy1
  obtain ⟨b, e2, _, w2⟩ := DataW.trod_int h2 hy2
  simp only [List.cons.injEq, and_true] at e0 e1 e2
  subst e0 e1 e2
  obtain ⟨k, rfl⟩ := to_str t
  exact ⟨k, a, b, rfl, by rw [str_size] at hl; exact hl, bounds_i64 w1, bounds_i64 w2⟩
theorem open_ssii {base : Nat} {spare : Nat → Bool} {held : Bool} {r : Reach} {b0 : Nat} {t : TypeId} {f0 f1 f2 f3 : Field} {v : Value} {d : DataW H} {ps : List MemPlace} (hs : P.underlying t = some (.struct #[f0, f1, f2, f3])) (hone : oneCellFields P #[f0, f1, f2, f3] = true) (hC : P.cellsOf t = 4)
    (h0 : P.underlying f0.type = some .string) (h1 : P.underlying f1.type = some .string) (h2 : P.underlying f2.type = some (.int .i64)) (h3 : P.underlying f3.type = some (.int .i64))
    (hval : Value.okWide P w r b0 t v) (hd : DataW.Trod enc P w base spare held t v d ps) :
    ∃ (k m : List UInt8) (s e : Int), v = .agg #[.string (str k), .string (str m), .int .i64 s, .int .i64 e] ∧ k.length ≤ maxLen ∧ m.length ≤ maxLen ∧ (-9223372036854775808 ≤ s ∧ s ≤ 9223372036854775807) ∧ (-9223372036854775808 ≤ e ∧ e ≤ 9223372036854775807) := by
  obtain ⟨c0, c1, c2, c3, y0, y1, y2, y3, m, rfl, _, _, hy0, hy1, hy2, hy3⟩ := open_agg4 hs hone hC hval hd
  obtain ⟨t0, e0, _, hl0⟩ := DataW.trod_string h0 hy0
  obtain ⟨t1, e1, _, hl1⟩ := DataW.trod_string h1 hy1
  obtain ⟨a, e2, _, w2⟩ := DataW.trod_int h2 hy2
  obtain ⟨b, e3, _, w3⟩ := DataW.trod_int h3 hy3
  simp only [List.cons.injEq, and_true] at e0 e1 e2 e3
  subst e0 e1 e2 e3
  obtain ⟨k, rfl⟩ := to_str t0
  obtain ⟨k1, rfl⟩ := to_str t1
  exact ⟨k, k1, a, b, rfl, by rw [str_size] at hl0; exact hl0, by rw [str_size] at hl1; exact hl1, bounds_i64 w2, bounds_i64 w3⟩
end
end Go.Proofs.Ytnafhjgfkofkbaa
/- How a slice of cells (a version and a text each) is opened. No program is in sight here. -/
namespace Go.Proofs.Ytnafhjgfkofkbaa
set_option linter.unusedVariables false
set_option linter.unusedSimpArgs false
open Go.ChangeShapes Go.WideShapes Go.ChangeAt Go.RowKit Go.Deep
theorem len_of_ {n cap : Nat} (hc : n ≤ cap) (hm : cap ≤ maxLen) : n ≤ 9223372036854775807 := by
  have : maxLen ≤ 9223372036854775807 := by decide
  omega
theorem le_of_max {n : Nat} (h : n ≤ maxLen) : n ≤ 9223372036854775807 := Nat.le_trans h (by decide)
instance : Inhabited Ci := ⟨⟨[], 0, 0, []⟩⟩
section
variable {H : Type} {P : Program} {w : World} {enc : TypeId × Value → H}
/-- what a struct of a version and a text tells -/
theorem trod_cell {base : Nat} {spare : Nat → Bool} {held : Bool} {e ver : TypeId} {f0 f1 g0 g1 g2 : Field} {fuel : Nat} {v0 v1 v2 v3 : Value} {d : DataW H} {ps : List MemPlace} (he : P.underlying e = some (.struct #[f0, f1])) (hv : P.underlying f0.type = some (.struct #[g0, g1, g2]))
    (ho : f0.offset = 0 ∧ f1.offset = 3 ∧ g0.offset = 0 ∧ g1.offset = 1 ∧ g2.offset = 2) (hc : P.cellsOf f0.type = 3 ∧ P.cellsOf f1.type = 1 ∧ P.cellsOf g0.type = 1 ∧ P.cellsOf g1.type = 1 ∧ P.cellsOf g2.type = 1)
    (s1 : P.underlying f1.type = some .string) (t0 : P.underlying g0.type = some .string) (t1 : P.underlying g1.type = some (.int .i64)) (t2 : P.underlying g2.type = some (.int .i64))
    (h : DataW.trod enc P w base spare held fuel e [v0, v1, v2, v3] = some (d, ps)) : ∃ q : Ci, [v0, v1, v2, v3] = c4 q ∧ q.key.length ≤ maxLen ∧ q.val.length ≤ maxLen ∧ (-9223372036854775808 ≤ q.seq ∧ q.seq ≤ 9223372036854775807) ∧ (-9223372036854775808 ≤ q.kind ∧ q.kind ≤ 9223372036854775807) := by
  obtain ⟨o0, o1, p0, p1, p2⟩ := ho
  obtain ⟨c0, c1, k0, k1, k2⟩ := hc
  obtain ⟨xs, k, hk, hxy, _, hxl, hf⟩ := DataW.trod_struct he h
  match xs, hxl with
  | [y0, y1], _ =>
    have g0' := hf 0 f0 rfl
    have g1' := hf 1 f1 rfl
    simp [o0, c0] at g0'
    simp [o1, c1] at g1'
    obtain ⟨zs, k', hk', hxy', _, hzl, hf'⟩ := DataW.trod_struct hv g0'
    match zs, hzl with
    | [z0, z1, z2], _ =>
      have a0 := hf' 0 g0 rfl
      have a1 := hf' 1 g1 rfl
      have a2 := hf' 2 g2 rfl
      simp [p0, k0] at a0
      simp [p1, k1] at a1
      simp [p2, k2] at a2
      obtain ⟨n0, q0, _, l0⟩ := DataW.trod_string t0 a0
      obtain ⟨n1, q1, _, w1⟩ := DataW.trod_int t1 a1
      obtain ⟨n2, q2, _, w2⟩ := DataW.trod_int t2 a2
      obtain ⟨n3, q3, _, l3⟩ := DataW.trod_string s1 g1'
      simp only [List.cons.injEq, and_true] at q0 q1 q2 q3
      obtain ⟨t0, rfl⟩ := to_str n0
      obtain ⟨t3, rfl⟩ := to_str n3
      subst q0 q1 q2 q3
      exact ⟨⟨t0, n1, n2, t3⟩, rfl, by rw [str_size] at l0; exact l0, by rw [str_size] at l3; exact l3, bounds_i64 w1, bounds_i64 w2⟩
theorem open_cells {base : Nat} {spare : Nat → Bool} {held : Bool} {r : Reach} {b0 : Nat} {t e : TypeId} {f0 f1 g0 g1 g2 : Field} {v : Value} {d : DataW H} {ps : List MemPlace} (ht : P.underlying t = some (.slice e)) (ce : P.cellsOf e = 4) (he : P.underlying e = some (.struct #[f0, f1])) (hv : P.underlying f0.type = some (.struct #[g0, g1, g2]))
    (ho : f0.offset = 0 ∧ f1.offset = 3 ∧ g0.offset = 0 ∧ g1.offset = 1 ∧ g2.offset = 2) (hc : P.cellsOf f0.type = 3 ∧ P.cellsOf f1.type = 1 ∧ P.cellsOf g0.type = 1 ∧ P.cellsOf g1.type = 1 ∧ P.cellsOf g2.type = 1)
    (s1 : P.underlying f1.type = some .string) (t0 : P.underlying g0.type = some .string) (t1 : P.underlying g1.type = some (.int .i64)) (t2 : P.underlying g2.type = some (.int .i64))
    (hval : Value.okWide P w r b0 t v) (hd : DataW.Trod enc P w base spare held t v d ps) :
    ∃ ad len cap, ∃ l : List Ci, v = .slice ad len cap ∧ l.length = len ∧ len ≤ cap ∧ cap ≤ maxLen ∧ Row w ad (cv l) ∧ ∀ c ∈ l, c.key.length ≤ maxLen ∧ c.val.length ≤ maxLen ∧ (-9223372036854775808 ≤ c.seq ∧ c.seq ≤ 9223372036854775807) ∧ (-9223372036854775808 ≤ c.kind ∧ c.kind ≤ 9223372036854775807) := by
  obtain ⟨ad, len, cap, rfl⟩ := okWide_slice ht hval
  obtain ⟨fuel, hf⟩ := hd
  rcases open_slice ht hf with ⟨hcs, hx⟩ | ⟨a, l, c, m, n, D, Pl, hcs, hb, hl, hm, hmm, hx0, hx⟩
  · simp [Value.cells] at hcs
    obtain ⟨e1, e2, e3⟩ := hcs
    subst e1 e2 e3
    exact ⟨none, 0, 0, [], rfl, rfl, Nat.le_refl _, Nat.zero_le _, Row.nil _ _, fun c hc => by simp at hc⟩
  · simp [Value.cells] at hcs
    obtain ⟨e1, e2, e3⟩ := hcs
    subst e1 e2 e3
    have hlm : len ≤ m := by rw [hmm]; split <;> omega
    have each : ∀ i, i < m → ∃ q : Ci, (∀ k u, (c4 q)[k]? = some u → w.cell? (a.add (i * 4 + k)) = some u) ∧ q.key.length ≤ maxLen ∧ q.val.length ≤ maxLen ∧ (-9223372036854775808 ≤ q.seq ∧ q.seq ≤ 9223372036854775807) ∧ (-9223372036854775808 ≤ q.kind ∧ q.kind ≤ 9223372036854775807) := by
      intro i hi
      obtain ⟨cs', h1, h2⟩ := hx i hi
      rw [ce] at h1
      obtain ⟨_, hlen, hcell⟩ := World.cells?_some h1
      match cs', hlen with
      | [v0, v1, v2, v3], _ =>
        obtain ⟨q, e, hq⟩ := trod_cell (ver := e) he hv ho hc s1 t0 t1 t2 h2
        refine ⟨q, fun k u hku => ?_, hq⟩
        have hk4 : k < 4 := (List.getElem?_eq_some_iff.1 hku).1
        have := hcell k hk4
        rw [add_add] at this
        rw [this, e]
        exact hku
    obtain ⟨q, hq⟩ := choose_lt each
    have hlen : ((List.range len).map q).length = len := by simp
    refine ⟨some a, len, cap, (List.range len).map q, rfl, hlen, hl, hm, ?_, ?_⟩
    · intro i u hi
      have hil : i < len * 4 := by
        have := (List.getElem?_eq_some_iff.1 hi).1
        rw [cv_length, hlen] at this; exact this
      obtain ⟨b, off, spot⟩ := a
      have h0 := (hq 0 (by omega)).1 0 _ rfl
      have hspot : spot = none := by simpa [Addr.add] using World.cell?_spot h0
      subst hspot
      refine ⟨b, off, rfl, ?_⟩
      have hdm := Nat.div_add_mod i 4
      have hj : i / 4 < len := by omega
      have e : i = (i / 4) * 4 + i % 4 := by omega
      have hg := cv_get ((List.range len).map q) (i / 4) (by rw [hlen]; exact hj) (i % 4) (Nat.mod_lt _ (by omega))
      rw [← e, hi] at hg
      simp only [List.getElem_map, List.getElem_range] at hg
      have := (hq (i / 4) (by omega)).1 (i % 4) u hg.symm
      rw [Go.WideShapes.add_plain, ← e] at this
      exact this
    · intro c hc
      obtain ⟨i, hi, rfl⟩ := List.mem_map.1 hc
      exact (hq i (by have := List.mem_range.1 hi; omega)).2
end
end Go.Proofs.Ytnafhjgfkofkbaa
/- Layer 11 (skip): SkipSeeks answers true. -/
namespace Go.Proofs.Ytnafhjgfkofkbaa
set_option linter.unusedVariables false
set_option linter.unusedSimpArgs false
open Go.RowKit Ikey Varint
def noC : Ci := ⟨[], 0, 0, []⟩
/-- the cells after so many of a row were inserted -/
def putN (l : List Ci) (h : Nat → Int) : Nat → List Ce
  | 0 => []
  | i + 1 => (insF (putN l h i) false (l.getD i noC).key (l.getD i noC).seq (l.getD i noC).kind (l.getD i noC).val (h i)).2
theorem putN_len (l : List Ci) (h : Nat → Int) : ∀ i, (putN l h i).length ≤ i
  | 0 => Nat.le_refl _
  | i + 1 => by
    have h1 := putN_len l h i
    have h2 := ins_len (putN l h i) false (l.getD i noC).key (l.getD i noC).seq (l.getD i noC).kind (l.getD i noC).val (h i)
    rw [putN]; omega
theorem PrI.gr {w0 w : World} {X : Nat → Prop} {g gl gm r n : Nat} {C1 C2 : List Ce} {fz : Bool} (h : PrI w0 X g gl gm r C1 C2 fz n w) : Gr w0 w := by
  obtain ⟨S, p, L, N, ad, cap, h1, _⟩ := h
  exact h1.sl.gr
/-- two empty lists -/
theorem PrI.start {w0 w w' : World} {S : Nat → Prop} {g gl n : Nat} (h : Sl w0 w S g gl (fieldP n) (newL 0) []) (k : Gr w w') (hb : Blk w' w.heap.size 38 [.slice none 0 0, .bool false]) : PrI w0 (fun _ => False) g gl w.heap.size 0 [] [] false n w' :=
  ⟨S, fieldP n, newL 0, [], none, 0, ⟨h.more k, ⟨hb, Owns.empty _ _ _ _, h.gr.size, fun x hx => by cases hx⟩, fun e => Nat.lt_irrefl _ (h.sk.pool.lt _ e), fun e => by have := h.sk.blk.lt; omega, fun x hx => by (cases hx), fun j hj => hj.elim⟩, rfl, rfl, rfl, by rw [countF_field]; exact Nat.le_refl _⟩
/-- the stages of a round: nothing yet, one list, both -/
def KK (a b c : World → Prop) (k : Nat) (w : World) : Prop := if k = 0 then a w else if k = 1 then b w else c w
def seekH (i : Nat) : Int := ((1 + i * 5 % 12 : Nat) : Int)
theorem f2_ne {i j : Nat} (h : i < j) : (∀ k, k ≠ i → (if k = i then 0 else if k = j then 1 else 2) ≠ 0) ∧ ∀ k, k ≠ j → (if k = i then 0 else if k = j then 1 else 2) ≠ 1 := by
  constructor
  · intro k hk
    rw [if_neg hk]
    split <;> omega
  · intro k hk
    split
    · omega
    · first | omega | (rw [if_neg hk]; omega)
set_option maxRecDepth 100000 in
set_option maxHeartbeats 4000000 in
theorem SkipSeeks_any (ad : Option Addr) (cap : Nat) (l : List Ci) (k : List UInt8) (s d : Int) (w : World) (hr : Row w ad (cv l)) (hl : l.length ≤ 9223372036854775807) (hvl : ∀ c ∈ l, c.val.length ≤ 9223372036854775807) :
    Calls Try.prog 4 #[.slice ad l.length cap, ver k s d] w fun e w' => e = .returned (.bool true) ∧ Gr w w' := by
  have HR := Lib.hid hr.ci
  have HVL := Lib.hid hvl
  clear hr hvl
  unfold ver
  go_enter Try.func4, Try.ntmps4
  go_wp2_with (first
    | (go_at_call 8; go_must (refine (skips_any _).mono ?_); rintro e V0 ⟨rfl, g1⟩)
    | (go_at_call 11; go_must (refine (field_any V0 V0 (Gr.refl _) 200 (by decide) (by decide)).mono ?_); rintro e w2 ⟨g, gl, S0, rfl, k2, hsl, _, _⟩
       have HP := Lib.hid (PrI.start hsl (Gr.alloc w2 (.cells #[.slice none 0 0, .bool false] 38)) (Blk.new w2 _ _)))
    | fail)
  generalize w2.heap.size = gm at *
  go_loopw [9] (fun vi wr => ∃ i : Nat, vi = .int .i64 (i : Int) ∧ i ≤ l.length ∧ i ≤ 80 ∧ PrI V0 (fun _ => False) g gl gm 0 (putN l seekH i) (putN l seekH i) false (200 - i) wr) (fun vi _ => 80 - (intOf vi).toNat)
  case atStart => exact ⟨0, rfl, Nat.zero_le _, Nat.zero_le _, HP.out⟩
  case round =>
    clear HP
    obtain ⟨i, rfl, hi, hi80, hP⟩ := hrel
    by_cases hlt : i < l.length ∧ i < 80
    · obtain ⟨hlt, hlt2⟩ := hlt
      obtain ⟨b, off, rfl, e0, e1, e2, e3⟩ := HR.out i hlt
      have hv := HVL.out l[i] (List.getElem_mem hlt)
      have HG := Lib.hid (show l.getD i noC = l[i] by rw [List.getD_eq_getElem?_getD, List.getElem?_eq_getElem hlt, Option.getD_some])
      have hS := putN_len l seekH i
      have HI := Lib.hid (show putN l seekH (i + 1) = (insF (putN l seekH i) false (l.getD i noC).key (l.getD i noC).seq (l.getD i noC).kind (l.getD i noC).val (seekH i)).2 from rfl)
      rw [HG.out] at HI
      clear HG HR
      generalize l[i] = c at *
      generalize hC : putN l seekH i = C at *
      obtain ⟨n, hn⟩ : ∃ n, n = 199 - i := ⟨_, rfl⟩
      have hn1 : 200 - i = n + 1 := by omega
      rw [hn1] at hP
      have hn2 : 200 - (i + 1) = n := by omega
      have HN := Lib.hid hn2
      have gW := g1.trans hP.gr
      have gB : Gr w (w.alloc (.cells #[.string (str k), .int .i64 s, .int .i64 d] 33)) := Gr.alloc _ _
      obtain ⟨t, ht⟩ : ∃ t : Int, t = seekH i := ⟨_, rfl⟩
      rw [← ht] at HI
      have HT := Lib.hid ht
      obtain ⟨E, hE⟩ : ∃ E : Int, E = ((insF C false c.key c.seq c.kind c.val t).1 : Int) := ⟨_, rfl⟩
      have HI1 := Lib.hid (fun w' (h : PrI V0 (fun _ => False) g gl gm 0 C C false (n + 1) w') => h.ins1 c.key c.seq c.kind c.val t hv (by omega))
      have HI2 := Lib.hid (fun w' (h : PrI V0 (fun _ => False) g gl gm 0 (insF C false c.key c.seq c.kind c.val t).2 C false n w') => h.ins2 c.key c.seq c.kind c.val t hv (by omega))
      rw [← hE] at HI1 HI2
      unfold celV at HI1 HI2
      have f0 := gW.cell (gB.cell e0)
      have f1 := gW.cell (gB.cell e1)
      have f2 := gW.cell (gB.cell e2)
      have f3 := gW.cell (gB.cell e3)
      have HP := Lib.hid hP
      generalize hC2 : (insF C false c.key c.seq c.kind c.val t).2 = C2 at *
      have HK0 := Lib.hid (KInv.mk (K := KK (PrI V0 (fun _ => False) g gl gm 0 C C false (n + 1)) (PrI V0 (fun _ => False) g gl gm 0 C2 C false n) (PrI V0 (fun _ => False) g gl gm 0 C2 C2 false n)) (m := 2) (s := (wr.drew, 0)) (Nat.zero_le _) (HP.out.more (Gr.drew wr)))
      have H7 := Lib.hid (show ((i : Int) * 5).tmod 12 = t - 1 by rw [ht]; unfold seekH; rw [Int.tmod_eq_emod_of_nonneg (by omega)]; omega)
      have H8 := Lib.hid (show IntKind.i64.wrap (1 + (t - 1)) = t by rw [show 1 + (t - 1) = t by omega]; exact IntWalk.i64_in _ (by rw [ht]; unfold seekH; constructor <;> omega))
      have HB := Lib.hid (show ¬ Tt V0 (fun _ => False) b from fun e => by
        have h1 := World.block_lt_of_cell? _ _ (gB.cell e0)
        have h2 := g1.size
        have h3 := e.1
        simp only at h1; omega)
      clear hP hC hn hn1 hn2 ht hE hC2 e0 e1 e2 e3 hv gW gB hS g1 k2 hsl
      go_wp2
      have d0 := (Gr.drew wr).cell f0
      have d1 := (Gr.drew wr).cell f1
      have d2 := (Gr.drew wr).cell f2
      have d3 := (Gr.drew wr).cell f3
      have HD := Lib.hid (And.intro d0 (And.intro d1 (And.intro d2 d3)))
      clear d0 d1 d2 d3 f0 f1 f2 f3
      refine region_ghostA (Le := KLe (Tt V0 (fun _ => False)) (KK (PrI V0 (fun _ => False) g gl gm 0 C C false (n + 1)) (PrI V0 (fun _ => False) g gl gm 0 C2 C false n) (PrI V0 (fun _ => False) g gl gm 0 C2 C2 false n)) 2) (PreK fun k => if k = 9 then 0 else if k = 19 then 1 else 2) KLe.refl KLe.trans 0 PreK.start _ [IsG (.pointer (some ⟨gl, 0, none⟩)), IsG (.slice (some ⟨b, off, none⟩) l.length cap), IsG (.int .i64 (i : Int)), IsG (.pointer (some ⟨b, off + i * 4, none⟩)), IsG (.agg #[.string (str c.key), .int .i64 c.seq, .int .i64 c.kind, .string (str c.val)]), IsG (.int .i64 (i : Int)), IsG (.int .i64 ((i : Int) * 5)), IsG (.int .i64 (t - 1)), IsG (.int .i64 t), IsS (.int .i64 E) (AtK 1), IsG (.pointer (some ⟨gm, 0, none⟩)), IsG (.slice (some ⟨b, off, none⟩) l.length cap), IsG (.int .i64 (i : Int)), IsG (.pointer (some ⟨b, off + i * 4, none⟩)), IsG (.agg #[.string (str c.key), .int .i64 c.seq, .int .i64 c.kind, .string (str c.val)]), IsG (.int .i64 (i : Int)), IsG (.int .i64 ((i : Int) * 5)), IsG (.int .i64 (t - 1)), IsG (.int .i64 t), IsS (.int .i64 E) (AtK 2), IsG (.bool false)] (by kernel_rfl) (by kernel_rfl) (by kernel_rfl) rfl rfl ⟨IsG.stable _, IsG.stable _, IsG.stable _, IsG.stable _, IsG.stable _, IsG.stable _, IsG.stable _, IsG.stable _, IsG.stable _, AtK.stable _ _, IsG.stable _, IsG.stable _, IsG.stable _, IsG.stable _, IsG.stable _, IsG.stable _, IsG.stable _, IsG.stable _, IsG.stable _, AtK.stable _ _, IsG.stable _, trivial⟩ ⟨?s0, ?s1, ?s2, ?s3, ?s4, ?s5, ?s6, ?s7, ?s8, ?s9, ?s10, ?s11, ?s12, ?s13, ?s14, ?s15, ?s16, ?s17, ?s18, ?s19, ?s20, trivial⟩ ?fin
      case' s0 | s1 | s2 | s3 | s4 | s5 | s6 | s7 | s8 | s10 | s11 | s12 | s13 | s14 | s15 | s16 | s17 | s18 | s20 =>
        intro ρ wr gh hρ hg hK
        simp [readsOf, slotsOf, Op.operands, Call.operands, tmpOf, List.filterMap_cons, List.filterMap_nil, KnownAll, knownOf, srcOf, depsOf, dstOf, Region.binds, nthG, IsG, IsS] at hK
        obtain ⟨hc, hf, hgl⟩ := hρ
        try simp only [wantedBy, dstOf, boolOf, nthG, List.getD_cons_zero, List.getD_cons_succ, List.getElem?_cons_zero, List.getElem?_cons_succ, Option.bind_some, if_true, hK, BEq.rfl]
        try go_simp
        first | exact rfl | exact pureG KLe.refl rfl | (refine pureG KLe.refl ?_; go_simp; done) | (refine pureG KLe.refl ?_; rfl) | (rw [if_pos (by omega)]; exact pureG KLe.refl rfl) | (rw [dif_pos (by omega)]; exact pureG KLe.refl rfl) | exact pureG KLe.refl (congrArg (Value.int _) (IntWalk.i64_in _ ⟨by omega, by omega⟩)) | skip
      case' s9 | s19 =>
        intro ρ wr gh hρ hg hK
        simp [readsOf, slotsOf, Op.operands, Call.operands, tmpOf, List.filterMap_cons, List.filterMap_nil, KnownAll, knownOf, srcOf, depsOf, dstOf, Region.binds, nthG, IsG, IsS] at hK
        obtain ⟨hc, hf, hgl⟩ := hρ
        try simp only [wantedBy, dstOf, boolOf, nthG, List.getD_cons_zero, List.getD_cons_succ, List.getElem?_cons_zero, List.getElem?_cons_succ, Option.bind_some, if_true, hK, BEq.rfl]
      case s4 | s14 =>
        obtain ⟨d0, d1, d2, d3⟩ := HD.out
        have z0 := hg.1.chg.cell d0 HB.out; have z1 := hg.1.chg.cell d1 HB.out; have z2 := hg.1.chg.cell d2 HB.out; have z3 := hg.1.chg.cell d3 HB.out
        clear d0 d1 d2 d3
        go_simp
        exact pureG KLe.refl rfl
      case s7 | s17 => rw [H7.out]; exact pureG KLe.refl rfl
      case s8 | s18 => rw [H8.out]; exact pureG KLe.refl rfl
      case s9 =>
        have HI := hg.1.inv HK0.out
        have hz : gh ≤ 0 := hg.2.1 9 (by kernel_rfl)
        obtain rfl : gh = 0 := by omega
        have hP : PrI V0 (fun _ => False) g gl gm 0 C C false (n + 1) wr := HI.at_
        have HPh := Lib.hid hP
        clear HI hP hz hg
        go_simp
        exact enterK (f2_ne (by decide)).1 (by decide) (HI1.out _ HPh.out)
      case s19 =>
        have HI := hg.1.inv HK0.out
        have hz : gh ≤ 1 := hg.2.1 19 (by kernel_rfl)
        obtain ⟨v9, _, h9⟩ := hg.2.2 9 (by decide)
        have h9 : 1 ≤ gh := h9
        obtain rfl : gh = 1 := by omega
        have hP : PrI V0 (fun _ => False) g gl gm 0 C2 C false n wr := HI.at_
        have HPh := Lib.hid hP
        clear HI hP hz hg h9
        go_simp
        exact enterK (f2_ne (by decide)).2 (by decide) (HI2.out _ HPh.out)
      case fin =>
        intro w1 g1 val hg hH
        simp only [HoldsG, IsG, IsS, Nat.zero_add, Nat.reduceAdd] at hH
        obtain ⟨h0, h1, h2, h3, h4, h5, h6, h7, h8, h9, h10, h11, h12, h13, h14, h15, h16, h17, h18, h19, h20, _⟩ := hH
        simp only [List.take_succ_cons, List.take_zero, List.drop_succ_cons, List.drop_zero, putAll, h0, h1, h2, h3, h4, h5, h6, h7, h8, h10, h11, h12, h13, h14, h15, h16, h17, h18, h20, Nat.zero_add, Nat.reduceAdd]
        have HI := hg.inv HK0.out
        have h19b := h19.2
        have h19b : 2 ≤ g1 := h19b
        have hle := HI.le
        obtain rfl : g1 = 2 := by simp only at hle; omega
        have hP : PrI V0 (fun _ => False) g gl gm 0 C2 C2 false n w1 := HI.at_
        have HPn := Lib.hid hP
        clear HI hP hle h19b h19 h9 hg HP HK0 HI1 HI2 HD HB
        go_simp
        go_wp2
        go_roundw
        case rel => exact ⟨i + 1, by go_num, hlt, hlt2, by rw [HI.out, HN.out]; exact HPn.out⟩
        case measure => simp [intOf]; omega
    · have hx : l.length ≤ i ∨ (i < l.length ∧ 80 ≤ i) := by omega
      have gB : Gr w (w.alloc (.cells #[.string (str k), .int .i64 s, .int .i64 d] 33)) := Gr.alloc _ _
      have gW := g1.trans hP.gr
      generalize hCe : putN l seekH i = C at *
      obtain ⟨S, p, L, N, ad2, cap2, hPr, rfl, hfz, _, _⟩ := hP
      obtain ⟨hA, hB⟩ := split_sorted ⟨k, s, d⟩ hPr.sl.st.sorted
      have hsp : N = N.takeWhile (fun x => aheadC ⟨k, s, d⟩ x.c) ++ N.dropWhile (fun x => aheadC ⟨k, s, d⟩ x.c) := (List.takeWhile_append_dropWhile).symm
      have hrank : ((cellsN N).takeWhile (aheadC ⟨k, s, d⟩)).length = (N.takeWhile (fun x => aheadC ⟨k, s, d⟩ x.c)).length := by rw [take_map]; simp [cellsN]
      generalize N.takeWhile (fun x => aheadC ⟨k, s, d⟩ x.c) = A at *
      generalize N.dropWhile (fun x => aheadC ⟨k, s, d⟩ x.c) = B at *
      have hlen : (cellsN N).length ≤ 1000000 := by have := putN_len l seekH i; rw [hCe] at this; omega
      have HRK := Lib.hid (fun w' (h : Rl w' V0.heap.size gm (cellsN N) L.fz ad2 cap2) => h.rank hlen ⟨k, s, d⟩)
      rw [hrank] at HRK
      clear HVL HR hCe
      obtain ⟨n, hn⟩ : ∃ n, n = A.length := ⟨_, rfl⟩
      rw [← hn] at HRK
      obtain ⟨M, hM⟩ : ∃ M, M = (cellsN N).length := ⟨_, rfl⟩
      have hMN : M = N.length := by rw [hM]; simp [cellsN]
      have hMab : M = A.length + B.length := by rw [hMN, hsp, List.length_append]
      have HB0 := Lib.hid (fun w' (h : Rl w' V0.heap.size gm (cellsN N) L.fz ad2 cap2) => h.blk.cell (i := 0) rfl)
      rw [← hM] at HB0
      have had : ∀ x, 0 < (cellsN N).length → x = ad2 → ∃ b2 off2, ad2 = some ⟨b2, off2, none⟩ := fun x h0 _ => by
        obtain ⟨c, hc⟩ : ∃ c, (cellsN N)[0]? = some c := ⟨_, List.getElem?_eq_getElem h0⟩
        obtain ⟨b2, off2, e, _⟩ := hPr.rl.at_ hc
        exact ⟨b2, off2, e⟩
      have hnn : ∀ (P Q : List Nd) (z : Nd), N = P ++ z :: Q → (cellsN N)[P.length]? = some z.c := fun P Q z e => by rw [e]; simp [cellsN]
      have hlN : (cellsN N).length = N.length := by simp [cellsN]
      have hMle : M ≤ 1000000 := by omega
      clear hlen
      cases B with
      | nil =>
        have HSK := Lib.hid (fun w' (h : Cu V0 w' (fun _ => False) S g gl gm p L N (cellsN N) ad2 cap2 wr.heap.size 0 (0, 0)) => h.seek ⟨k, s, d⟩ hsp hA hB)
        have HC1 := Lib.hid (fun w' (h : Cu V0 w' (fun _ => False) S g gl gm p L N (cellsN N) ad2 cap2 wr.heap.size 2 (0, 0)) => h.cell_off (by decide))
        have HPV := Lib.hid (fun w6 w' (h : Cu V0 w6 (fun _ => False) S g gl gm p L N (cellsN N) ad2 cap2 wr.heap.size 2 (0, 0)) (k : Gr w6 w') => (h.more k).prev_back)
        have GA := Lib.hid (fun w' => Gr.alloc w' (.cells #[.string ⟨#[]⟩, .int .i64 0, .int .i64 0, .string ⟨#[]⟩] 41))
        have GP := Lib.hid (fun w' => Gr.alloc w' (.cells #[.string ⟨#[]⟩, .int .i64 0, .int .i64 0, .string ⟨#[]⟩] 41))
        simp only [List.head?_nil, stE, stS, stQ] at HSK
        unfold zcE zeC at HC1
        rw [List.append_nil] at hsp
        have hnM : n = M := by simp at hMab; omega
        subst hnM
        rcases List.eq_nil_or_concat A with rfl | ⟨A', y, rfl⟩
        · subst hsp
          have HC2 := Lib.hid (fun w' (h : Cu V0 w' (fun _ => False) S g gl gm p L [] (cellsN []) ad2 cap2 wr.heap.size 0 (0, 0)) => h.cell_off (by decide))
          have GA2 := GA
          unfold zcE zeC at HC2
          simp only [List.getLast?_nil, stE, stS, stQ] at HPV
          have hn0 : n = 0 := hn
          subst hn0
          clear hA hB hn hMN hMab hM had hnn hlN hMle
          rcases hx with hx | ⟨hx, hx2⟩
          all_goals
            go_wp2_with (first
              | (go_at_call 14; go_must (refine (Cursor_any gl _).mono ?_); rintro e w3 ⟨rfl, b3, g3⟩; have S3 := Cu.new hPr g3 b3; obtain ⟨d0, d1, d2, _⟩ := (Blk.of1 (g1.trans S3.pr.sl.gr)).three)
              | (go_at_call 15; go_must (refine (HRK.out _ S3.pr.rl).mono ?_); rintro e w4 ⟨rfl, g4⟩; have S4 := S3.more g4; have f0 := g4.cell d0; have f1 := g4.cell d1; have f2 := g4.cell d2; clear S3 d0 d1 d2)
              | (go_at_call 16; go_must (refine (HSK.out _ S4).mono ?_); rintro e w5 ⟨rfl, S5⟩; clear S4 f0 f1 f2)
              | (go_at_call 17; (with_reducible refine (HC1.out _ S5).mono ?_); rintro e w6 ⟨rfl, S6, g6⟩; have m0 := (GA.out w6).cell (HB0.out _ S6.pr.rl); clear S5 HC1 g6)
              | (go_at_call 18; go_must (first | refine (HPV.out _ _ S6 (GP.out _)).mono ?_ | refine (HPV.out _ _ S6 (GP.out _ _)).mono ?_); rintro e w8 ⟨rfl, S8⟩; clear S6)
              | (go_at_call 17; (with_reducible refine (HC2.out _ S8).mono ?_); rintro e w9 ⟨rfl, S9, g9⟩; have m0 := (GA2.out w9).cell (HB0.out _ S9.pr.rl); clear S8)
              | fail)
            go_ret
            exact ⟨rfl, (gB.trans g1).trans (S9.pr.sl.gr.trans (GA2.out _))⟩
        · rw [List.concat_eq_append] at hsp hn
          obtain ⟨b2, off2, rfl⟩ := had _ (by rw [hlN, hsp]; simp) rfl
          have hnz : n = A'.length + 1 := by rw [hn]; simp
          have hat := hnn A' [] y hsp
          have HC2 := Lib.hid (fun w' (h : Cu V0 w' (fun _ => False) S g gl gm p L N (cellsN N) (some ⟨b2, off2, none⟩) cap2 wr.heap.size 1 (y.off, y.size)) => h.cell_at (a := A') (b := []) (x := y) hsp rfl)
          have HRw := Lib.hid (fun w' (h : Rl w' V0.heap.size gm (cellsN N) L.fz (some ⟨b2, off2, none⟩) cap2) => h.at2 hat)
          have GA2 := Lib.hid (fun w' => Gr.alloc w' (.cells #[.string (str y.c.key), .int .i64 (y.c.seq : Int), .int .i64 (y.c.kind : Int), .string (str y.c.val)] 41))
          unfold ceV at HC2
          have hgl : N.getLast? = some y := by rw [hsp]; simp
          rw [hgl] at HPV
          simp only [stE, stS, stQ] at HPV
          obtain ⟨yk, ys, yd, yv⟩ : ∃ yk ys yd yv, y.c = ⟨yk, ys, yd, yv⟩ := ⟨_, _, _, _, rfl⟩
          obtain ⟨z, rfl⟩ : ∃ z, n = z + 1 := ⟨A'.length, hnz⟩
          have hz : A'.length = z := by omega
          rw [hz] at HRw
          have hw1 : IntKind.i64.wrap (z : Int) = (z : Int) := IntWalk.i64_in _ (by constructor <;> omega)
          have hz9 : z ≤ 1000000 := by omega
          clear hA hB hn hMN hMab hsp hgl hnz hat had hnn hlN hz hM hMle
          rcases hx with hx | ⟨hx, hx2⟩
          all_goals
            go_wp2_with (first
              | (go_at_call 14; go_must (refine (Cursor_any gl _).mono ?_); rintro e w3 ⟨rfl, b3, g3⟩; have S3 := Cu.new hPr g3 b3; obtain ⟨d0, d1, d2, _⟩ := (Blk.of1 (g1.trans S3.pr.sl.gr)).three)
              | (go_at_call 15; go_must (refine (HRK.out _ S3.pr.rl).mono ?_); rintro e w4 ⟨rfl, g4⟩; have S4 := S3.more g4; have f0 := g4.cell d0; have f1 := g4.cell d1; have f2 := g4.cell d2; clear S3 d0 d1 d2)
              | (go_at_call 16; go_must (refine (HSK.out _ S4).mono ?_); rintro e w5 ⟨rfl, S5⟩; clear S4 f0 f1 f2)
              | (go_at_call 17; (with_reducible refine (HC1.out _ S5).mono ?_); rintro e w6 ⟨rfl, S6, g6⟩; have m0 := (GA.out w6).cell (HB0.out _ S6.pr.rl); clear S5 HC1 g6)
              | (go_at_call 18; go_must (first | refine (HPV.out _ _ S6 (GP.out _)).mono ?_ | refine (HPV.out _ _ S6 (GP.out _ _)).mono ?_); rintro e w8 ⟨rfl, S8⟩; clear S6)
              | (go_at_call 17; (with_reducible refine (HC2.out _ S8).mono ?_); rintro e w9 ⟨rfl, S9, g9⟩; have m0 := (GA2.out w9).cell (HB0.out _ S9.pr.rl); clear S8)
              | fail)
            obtain ⟨z0, z1, z2, z3⟩ := HRw.out _ S9.pr.rl
            have y0 := (GA2.out w9).cell z0
            have y1 := (GA2.out w9).cell z1
            have y2 := (GA2.out w9).cell z2
            have y3 := (GA2.out w9).cell z3
            clear z0 z1 z2 z3
            go_quiet (fail)
            go_wp2
            go_ret
            exact ⟨rfl, (gB.trans g1).trans (S9.pr.sl.gr.trans ((GA2.out _).trans (Gr.drewN _ _)))⟩
      | cons x B =>
        obtain ⟨b2, off2, rfl⟩ := had _ (by rw [hlN, hsp]; simp; omega) rfl
        have hatx := hnn A B x hsp
        rw [← hn] at hatx
        have HSK := Lib.hid (fun w' (h : Cu V0 w' (fun _ => False) S g gl gm p L N (cellsN N) (some ⟨b2, off2, none⟩) cap2 wr.heap.size 0 (0, 0)) => h.seek ⟨k, s, d⟩ hsp hA hB)
        have HC1 := Lib.hid (fun w' (h : Cu V0 w' (fun _ => False) S g gl gm p L N (cellsN N) (some ⟨b2, off2, none⟩) cap2 wr.heap.size 1 (x.off, x.size)) => h.cell_at (a := A) (b := B) (x := x) hsp rfl)
        have HPV := Lib.hid (fun w6 w' (h : Cu V0 w6 (fun _ => False) S g gl gm p L N (cellsN N) (some ⟨b2, off2, none⟩) cap2 wr.heap.size 1 (x.off, x.size)) (k : Gr w6 w') => (h.more k).prev_at (a := A) (b := B) (x := x) hsp rfl)
        have HRx := Lib.hid (fun w' (h : Rl w' V0.heap.size gm (cellsN N) L.fz (some ⟨b2, off2, none⟩) cap2) => h.at2 hatx)
        have GA := Lib.hid (fun w' => Gr.alloc w' (.cells #[.string (str x.c.key), .int .i64 (x.c.seq : Int), .int .i64 (x.c.kind : Int), .string (str x.c.val)] 41))
        have GP := Lib.hid (fun w' n => (Gr.alloc w' (.cells #[.string (str x.c.key), .int .i64 (x.c.seq : Int), .int .i64 (x.c.kind : Int), .string (str x.c.val)] 41)).trans (Gr.drewN _ n))
        simp only [List.head?_cons, stE, stS, stQ] at HSK
        unfold ceV at HC1
        have hnM : n < M := by simp at hMab; omega
        have bnM : ((n : Int) == (M : Int)) = false := by rw [beq_eq_false_iff_ne]; omega
        rcases List.eq_nil_or_concat A with rfl | ⟨A', y, rfl⟩
        · have HC2 := Lib.hid (fun w' (h : Cu V0 w' (fun _ => False) S g gl gm p L N (cellsN N) (some ⟨b2, off2, none⟩) cap2 wr.heap.size 0 (x.off, x.size)) => h.cell_off (by decide))
          have GA2 := Lib.hid (fun w' => Gr.alloc w' (.cells #[.string ⟨#[]⟩, .int .i64 0, .int .i64 0, .string ⟨#[]⟩] 41))
          unfold zcE zeC at HC2
          simp only [List.getLast?_nil, stE, stS, stQ] at HPV
          have bn0 : ((n : Int) == 0) = true := by rw [beq_iff_eq]; simp at hn; omega
          clear hA hB hn hMN hMab hM had hnn hlN hMle hatx hsp
          rcases hx with hx | ⟨hx, hx2⟩
          all_goals
            go_wp2_with (first
              | (go_at_call 14; go_must (refine (Cursor_any gl _).mono ?_); rintro e w3 ⟨rfl, b3, g3⟩; have S3 := Cu.new hPr g3 b3; obtain ⟨d0, d1, d2, _⟩ := (Blk.of1 (g1.trans S3.pr.sl.gr)).three)
              | (go_at_call 15; go_must (refine (HRK.out _ S3.pr.rl).mono ?_); rintro e w4 ⟨rfl, g4⟩; have S4 := S3.more g4; have f0 := g4.cell d0; have f1 := g4.cell d1; have f2 := g4.cell d2; clear S3 d0 d1 d2)
              | (go_at_call 16; go_must (refine (HSK.out _ S4).mono ?_); rintro e w5 ⟨rfl, S5⟩; clear S4 f0 f1 f2)
              | (go_at_call 17; (with_reducible refine (HC1.out _ S5).mono ?_); rintro e w6 ⟨rfl, S6, g6⟩; have m0 := (GA.out w6).cell (HB0.out _ S6.pr.rl); clear S5 HC1 g6)
              | (go_at_call 18; go_must (first | refine (HPV.out _ _ S6 (GP.out _)).mono ?_ | refine (HPV.out _ _ S6 (GP.out _ _)).mono ?_); rintro e w8 ⟨rfl, S8⟩; clear S6)
              | (go_at_call 17; (with_reducible refine (HC2.out _ S8).mono ?_); rintro e w9 ⟨rfl, S9, g9⟩; have m0 := (GA2.out w9).cell (HB0.out _ S9.pr.rl); clear S8)
              | fail)
            obtain ⟨z0, z1, z2, z3⟩ := HRx.out _ S6.pr.rl
            have y0 := (GA.out w6).cell z0
            have y1 := (GA.out w6).cell z1
            have y2 := (GA.out w6).cell z2
            have y3 := (GA.out w6).cell z3
            clear z0 z1 z2 z3
            go_quiet (fail)
            clear y0 y1 y2 y3 m0
            go_wp2_with (first
              | (go_at_call 14; go_must (refine (Cursor_any gl _).mono ?_); rintro e w3 ⟨rfl, b3, g3⟩; have S3 := Cu.new hPr g3 b3; obtain ⟨d0, d1, d2, _⟩ := (Blk.of1 (g1.trans S3.pr.sl.gr)).three)
              | (go_at_call 15; go_must (refine (HRK.out _ S3.pr.rl).mono ?_); rintro e w4 ⟨rfl, g4⟩; have S4 := S3.more g4; have f0 := g4.cell d0; have f1 := g4.cell d1; have f2 := g4.cell d2; clear S3 d0 d1 d2)
              | (go_at_call 16; go_must (refine (HSK.out _ S4).mono ?_); rintro e w5 ⟨rfl, S5⟩; clear S4 f0 f1 f2)
              | (go_at_call 17; (with_reducible refine (HC1.out _ S5).mono ?_); rintro e w6 ⟨rfl, S6, g6⟩; have m0 := (GA.out w6).cell (HB0.out _ S6.pr.rl); clear S5 HC1 g6)
              | (go_at_call 18; go_must (first | refine (HPV.out _ _ S6 (GP.out _)).mono ?_ | refine (HPV.out _ _ S6 (GP.out _ _)).mono ?_); rintro e w8 ⟨rfl, S8⟩; clear S6)
              | (go_at_call 17; (with_reducible refine (HC2.out _ S8).mono ?_); rintro e w9 ⟨rfl, S9, g9⟩; have m0 := (GA2.out w9).cell (HB0.out _ S9.pr.rl); clear S8)
              | fail)
            go_ret
            exact ⟨rfl, (gB.trans g1).trans (S9.pr.sl.gr.trans (GA2.out _))⟩
        · rw [List.concat_eq_append] at hsp hn HPV
          have hsp2 : N = A' ++ y :: (x :: B) := by rw [hsp]; simp
          have hnz : n = A'.length + 1 := by rw [hn]; simp
          have hat := hnn A' (x :: B) y hsp2
          have HC2 := Lib.hid (fun w' (h : Cu V0 w' (fun _ => False) S g gl gm p L N (cellsN N) (some ⟨b2, off2, none⟩) cap2 wr.heap.size 1 (y.off, y.size)) => h.cell_at (a := A') (b := x :: B) (x := y) hsp2 rfl)
          have HRw := Lib.hid (fun w' (h : Rl w' V0.heap.size gm (cellsN N) L.fz (some ⟨b2, off2, none⟩) cap2) => h.at2 hat)
          have GA2 := Lib.hid (fun w' => Gr.alloc w' (.cells #[.string (str y.c.key), .int .i64 (y.c.seq : Int), .int .i64 (y.c.kind : Int), .string (str y.c.val)] 41))
          unfold ceV at HC2
          have hgl : (A' ++ [y]).getLast? = some y := by simp
          rw [hgl] at HPV
          simp only [stE, stS, stQ] at HPV
          obtain ⟨z, rfl⟩ : ∃ z, n = z + 1 := ⟨A'.length, hnz⟩
          have hz : A'.length = z := by omega
          rw [hz] at HRw
          have hw1 : IntKind.i64.wrap (z : Int) = (z : Int) := IntWalk.i64_in _ (by constructor <;> omega)
          have hz9 : z ≤ 1000000 := by omega
          have hzM : z < M := by omega
          clear hA hB hn hMN hMab hsp hgl hnz hat had hnn hlN hz hM hMle hatx hsp2
          rcases hx with hx | ⟨hx, hx2⟩
          all_goals
            go_wp2_with (first
              | (go_at_call 14; go_must (refine (Cursor_any gl _).mono ?_); rintro e w3 ⟨rfl, b3, g3⟩; have S3 := Cu.new hPr g3 b3; obtain ⟨d0, d1, d2, _⟩ := (Blk.of1 (g1.trans S3.pr.sl.gr)).three)
              | (go_at_call 15; go_must (refine (HRK.out _ S3.pr.rl).mono ?_); rintro e w4 ⟨rfl, g4⟩; have S4 := S3.more g4; have f0 := g4.cell d0; have f1 := g4.cell d1; have f2 := g4.cell d2; clear S3 d0 d1 d2)
              | (go_at_call 16; go_must (refine (HSK.out _ S4).mono ?_); rintro e w5 ⟨rfl, S5⟩; clear S4 f0 f1 f2)
              | (go_at_call 17; (with_reducible refine (HC1.out _ S5).mono ?_); rintro e w6 ⟨rfl, S6, g6⟩; have m0 := (GA.out w6).cell (HB0.out _ S6.pr.rl); clear S5 HC1 g6)
              | (go_at_call 18; go_must (first | refine (HPV.out _ _ S6 (GP.out _)).mono ?_ | refine (HPV.out _ _ S6 (GP.out _ _)).mono ?_); rintro e w8 ⟨rfl, S8⟩; clear S6)
              | (go_at_call 17; (with_reducible refine (HC2.out _ S8).mono ?_); rintro e w9 ⟨rfl, S9, g9⟩; have m0 := (GA2.out w9).cell (HB0.out _ S9.pr.rl); clear S8)
              | fail)
            obtain ⟨z0, z1, z2, z3⟩ := HRx.out _ S6.pr.rl
            have y0 := (GA.out w6).cell z0
            have y1 := (GA.out w6).cell z1
            have y2 := (GA.out w6).cell z2
            have y3 := (GA.out w6).cell z3
            clear z0 z1 z2 z3
            go_quiet (fail)
            clear y0 y1 y2 y3 m0
            go_wp2_with (first
              | (go_at_call 14; go_must (refine (Cursor_any gl _).mono ?_); rintro e w3 ⟨rfl, b3, g3⟩; have S3 := Cu.new hPr g3 b3; obtain ⟨d0, d1, d2, _⟩ := (Blk.of1 (g1.trans S3.pr.sl.gr)).three)
              | (go_at_call 15; go_must (refine (HRK.out _ S3.pr.rl).mono ?_); rintro e w4 ⟨rfl, g4⟩; have S4 := S3.more g4; have f0 := g4.cell d0; have f1 := g4.cell d1; have f2 := g4.cell d2; clear S3 d0 d1 d2)
              | (go_at_call 16; go_must (refine (HSK.out _ S4).mono ?_); rintro e w5 ⟨rfl, S5⟩; clear S4 f0 f1 f2)
              | (go_at_call 17; (with_reducible refine (HC1.out _ S5).mono ?_); rintro e w6 ⟨rfl, S6, g6⟩; have m0 := (GA.out w6).cell (HB0.out _ S6.pr.rl); clear S5 HC1 g6)
              | (go_at_call 18; go_must (first | refine (HPV.out _ _ S6 (GP.out _)).mono ?_ | refine (HPV.out _ _ S6 (GP.out _ _)).mono ?_); rintro e w8 ⟨rfl, S8⟩; clear S6)
              | (go_at_call 17; (with_reducible refine (HC2.out _ S8).mono ?_); rintro e w9 ⟨rfl, S9, g9⟩; have m0 := (GA2.out w9).cell (HB0.out _ S9.pr.rl); clear S8)
              | fail)
            obtain ⟨z0, z1, z2, z3⟩ := HRw.out _ S9.pr.rl
            have y0 := (GA2.out w9).cell z0
            have y1 := (GA2.out w9).cell z1
            have y2 := (GA2.out w9).cell z2
            have y3 := (GA2.out w9).cell z3
            clear z0 z1 z2 z3
            go_quiet (fail)
            go_wp2
            go_ret
            exact ⟨rfl, (gB.trans g1).trans (S9.pr.sl.gr.trans ((GA2.out _).trans (Gr.drewN _ _)))⟩
end Go.Proofs.Ytnafhjgfkofkbaa
namespace Go.Proofs.Ytnafhjgfkofkbaa
set_option linter.unusedVariables false
set_option linter.unusedSimpArgs false
open Go.RowKit Ikey Varint
/-- so many steps were gone forth -/
def Fw (N : List Nd) (j : Nat) (side : Int) (q : Nat × Nat) : Prop := (j = 0 ∧ side = 0) ∨ ∃ (a b : List Nd) (x : Nd), N = a ++ x :: b ∧ j = a.length + 1 ∧ side = 1 ∧ q = (x.off, x.size)
/-- so many nodes lie ahead -/
def Bw (N : List Nd) (k : Nat) (side : Int) (q : Nat × Nat) : Prop := (k = N.length ∧ side = 2) ∨ ∃ (a b : List Nd) (x : Nd), N = a ++ x :: b ∧ k = a.length ∧ side = 1 ∧ q = (x.off, x.size)
section
variable {w0 w : World} {X S : Nat → Prop} {g gl gm : Nat} {p : PoolF} {L : Ls} {N : List Nd} {C : List Ce} {ad : Option Addr} {cap gc : Nat} {side : Int} {q : Nat × Nat}
theorem Cu.fw (h : Cu w0 w X S g gl gm p L N C ad cap gc side q) {j : Nat} (hf : Fw N j side q) {x : Nd} {a b : List Nd} (hN : N = a ++ x :: b) (hj : j = a.length) :
    Calls Try.prog 19 #[.pointer (some ⟨gc, 0, none⟩)] w fun e w' => e = .returned (.int .i64 0) ∧ Cu w0 w' X S g gl gm p L N C ad cap gc 1 (x.off, x.size) := by
  rcases hf with ⟨rfl, rfl⟩ | ⟨a', b', y, e1, rfl, rfl, rfl⟩
  · obtain rfl : a = [] := List.eq_nil_of_length_eq_zero hj.symm
    have := h.next_front
    rw [show N.head? = some x by rw [hN]; rfl] at this
    exact this
  · have e2 : a' ++ [y] = a ∧ b' = x :: b := by
      have e3 : (a' ++ [y]) ++ b' = a ++ x :: b := by rw [← hN, e1]; simp
      exact List.append_inj e3 (by simp; omega)
    have := h.next_at e1 rfl
    rw [show b'.head? = some x by rw [e2.2]; rfl] at this
    exact this
theorem Cu.fw_end (h : Cu w0 w X S g gl gm p L N C ad cap gc side q) (hf : Fw N N.length side q) :
    Calls Try.prog 19 #[.pointer (some ⟨gc, 0, none⟩)] w fun e w' => e = .returned (.int .i64 15) ∧ ∃ q', Cu w0 w' X S g gl gm p L N C ad cap gc 2 q' := by
  rcases hf with ⟨e0, rfl⟩ | ⟨a', b', y, e1, e2, rfl, rfl⟩
  · have hn := List.eq_nil_of_length_eq_zero e0
    have := h.next_front
    rw [show N.head? = none by rw [hn]; rfl] at this
    exact this.mono fun e w' ⟨h1, h2⟩ => ⟨h1, _, h2⟩
  · have hb : b' = [] := by
      have e3 := congrArg List.length e1
      simp only [List.length_append, List.length_cons] at e3
      exact List.eq_nil_of_length_eq_zero (by omega)
    have := h.next_at e1 rfl
    rw [hb] at this
    exact this.mono fun e w' ⟨h1, h2⟩ => ⟨h1, _, h2⟩
theorem Cu.bw (h : Cu w0 w X S g gl gm p L N C ad cap gc side q) {k : Nat} (hf : Bw N k side q) {x : Nd} {a b : List Nd} (hN : N = a ++ x :: b) (hk : k = a.length + 1) :
    Calls Try.prog 18 #[.pointer (some ⟨gc, 0, none⟩)] w fun e w' => e = .returned (.int .i64 0) ∧ Cu w0 w' X S g gl gm p L N C ad cap gc 1 (x.off, x.size) := by
  rcases hf with ⟨e0, rfl⟩ | ⟨a', b', y, e1, rfl, rfl, rfl⟩
  · have hb : b = [] := by
      have e3 := congrArg List.length hN
      simp only [List.length_append, List.length_cons] at e3
      exact List.eq_nil_of_length_eq_zero (by omega)
    have := h.prev_back
    rw [show N.getLast? = some x by rw [hN, hb]; simp] at this
    exact this
  · have e2 : a' = a ++ [x] ∧ y :: b' = b := by
      have e3 : a' ++ (y :: b') = (a ++ [x]) ++ b := by rw [← e1, hN]; simp
      exact List.append_inj e3 (by simp; omega)
    have := h.prev_at e1 rfl
    rw [show a'.getLast? = some x by rw [e2.1]; simp] at this
    exact this
theorem Cu.bw_end (h : Cu w0 w X S g gl gm p L N C ad cap gc side q) (hf : Bw N 0 side q) :
    Calls Try.prog 18 #[.pointer (some ⟨gc, 0, none⟩)] w fun e w' => e = .returned (.int .i64 15) ∧ ∃ q', Cu w0 w' X S g gl gm p L N C ad cap gc 0 q' := by
  rcases hf with ⟨e0, rfl⟩ | ⟨a', b', y, e1, e2, rfl, rfl⟩
  · have hn := List.eq_nil_of_length_eq_zero e0.symm
    have := h.prev_back
    rw [show N.getLast? = none by rw [hn]; rfl] at this
    exact this.mono fun e w' ⟨h1, h2⟩ => ⟨h1, _, h2⟩
  · obtain rfl : a' = [] := List.eq_nil_of_length_eq_zero e2.symm
    have := h.prev_at e1 rfl
    exact this.mono fun e w' ⟨h1, h2⟩ => ⟨h1, _, h2⟩
end
theorem Fw.step {N a b : List Nd} {x : Nd} (hN : N = a ++ x :: b) : Fw N (a.length + 1) 1 (x.off, x.size) := .inr ⟨a, b, x, hN, rfl, rfl, rfl⟩
theorem Bw.step {N a b : List Nd} {x : Nd} (hN : N = a ++ x :: b) : Bw N a.length 1 (x.off, x.size) := .inr ⟨a, b, x, hN, rfl, rfl, rfl⟩
theorem nd_split {N : List Nd} {j : Nat} (h : j < N.length) : ∃ a x b, N = a ++ x :: b ∧ a.length = j :=
  ⟨N.take j, N[j], N.drop (j + 1), by rw [← List.drop_eq_getElem_cons h, List.take_append_drop], by rw [List.length_take]; omega⟩
theorem nd_get {N a b : List Nd} {x : Nd} (h : N = a ++ x :: b) : (cellsN N)[a.length]? = some x.c := by rw [h]; simp [cellsN]
end Go.Proofs.Ytnafhjgfkofkbaa
