/- Layer 8 (frame): what is scanned of bytes that were cut, or whose last byte is another one, in plain Lean. No program is in sight here. -/
import Derived.Test.YtmjhffohfppnaaaFrameMath
namespace Go.Proofs.Ytmjhffohfppnaaa.Fr
set_option linter.unusedVariables false
set_option linter.unusedSimpArgs false
/-- less than these bytes: a beginning of them, or one whose last byte is another one -/
def Brk (L Y : List UInt8) : Prop := (∃ T, T ≠ [] ∧ L = Y ++ T) ∨ (∃ Y0 x y T, x ≠ y ∧ L = Y0 ++ x :: T ∧ Y = Y0 ++ [y])
theorem brk_split {P R Y : List UInt8} (h : Brk (P ++ R) Y) : (Y.length < P.length ∧ ∀ i, i + 1 < Y.length → Y[i]? = P[i]?) ∨ (∃ P0 x y, x ≠ y ∧ P = P0 ++ [x] ∧ Y = P0 ++ [y]) ∨ (∃ Y', Y = P ++ Y' ∧ Brk R Y') := by
  rcases h with ⟨T, hT, h⟩ | ⟨Y0, x, y, T, hxy, h, rfl⟩
  · rcases List.append_eq_append_iff.1 h with ⟨c, h1, h2⟩ | ⟨c, h1, h2⟩
    · exact .inr (.inr ⟨c, h1, .inl ⟨T, hT, h2⟩⟩)
    · by_cases hc : c = []
      · subst hc
        rw [List.append_nil] at h1
        subst h1
        rw [List.nil_append] at h2
        exact .inr (.inr ⟨[], (List.append_nil _).symm, .inl ⟨T, hT, by rw [← h2]; rfl⟩⟩)
      · refine .inl ⟨?_, fun i hi => ?_⟩
        · rw [h1, List.length_append]
          have := List.length_pos_iff.2 hc
          omega
        · rw [h1, List.getElem?_append_left (by omega)]
  · rcases List.append_eq_append_iff.1 h with ⟨c, h1, h2⟩ | ⟨c, h1, h2⟩
    · refine .inr (.inr ⟨c ++ [y], by rw [h1, List.append_assoc], .inr ⟨c, x, y, T, hxy, h2, rfl⟩⟩)
    · cases c with
      | nil =>
        rw [List.nil_append] at h2
        rw [List.append_nil] at h1
        subst h1
        exact .inr (.inr ⟨[y], rfl, .inr ⟨[], x, y, T, hxy, by rw [← h2]; rfl, rfl⟩⟩)
      | cons x' c =>
        obtain ⟨rfl, h3⟩ : x = x' ∧ T = c ++ R := by simpa using h2
        by_cases hc : c = []
        · subst hc
          exact .inr (.inl ⟨Y0, x, y, hxy, h1, rfl⟩)
        · refine .inl ⟨?_, fun i hi => ?_⟩
          · have := List.length_pos_iff.2 hc
            rw [h1]; simp; omega
          · simp only [List.length_append, List.length_cons, List.length_nil] at hi
            rw [h1, List.getElem?_append_left (by omega), List.getElem?_append_left (by omega)]
theorem byteF_inj (R : BitVec 32) {x y : UInt8} (h : Crc.byteF R x = Crc.byteF R y) : x = y := by
  unfold Crc.byteF at h
  rw [Crc.iterF_xor, Crc.iterF_xor] at h
  have h2 := Crc.xor_cancel_left _ _ _ h
  have h3 : Crc.iterF 8 (BitVec.ofNat 32 x.toNat ^^^ BitVec.ofNat 32 y.toNat) = 0#32 := by rw [Crc.iterF_xor, h2, BitVec.xor_self]
  have h4 := Crc.iterF_eq_zero 8 _ h3
  have h5 : BitVec.ofNat 32 x.toNat = BitVec.ofNat 32 y.toNat := by
    have := congrArg (· ^^^ BitVec.ofNat 32 y.toNat) h4
    simpa [BitVec.xor_assoc] using this
  have h6 := congrArg BitVec.toNat h5
  have hx := x.toNat_lt; have hy := y.toNat_lt
  rw [BitVec.toNat_ofNat, BitVec.toNat_ofNat, Nat.mod_eq_of_lt (by omega), Nat.mod_eq_of_lt (by omega)] at h6
  exact UInt8.toNat_inj.1 h6
theorem sum_last {C : List UInt8} {x y : UInt8} (h : x ≠ y) : Crc.maskF (Crc.sumF (C ++ [x])) ≠ Crc.maskF (Crc.sumF (C ++ [y])) := by
  intro e
  have e2 := congrArg Crc.unmaskF e
  rw [Crc.unmask_mask, Crc.unmask_mask] at e2
  unfold Crc.sumF Crc.moreF at e2
  rw [Crc.foldF_snoc, Crc.foldF_snoc] at e2
  have e3 := congrArg (~~~ ·) e2
  simp only [BitVec.not_not] at e3
  exact h (byteF_inj _ e3)
/-- a piece that lacks bytes at its end isn't taken -/
theorem take_cut {pre Y s : List UInt8} {k : UInt8} {a : Nat} (hp : pre.length = a + padF a) (hs : s.length < 65536) (hl : Y.length < (pieceF k s).length) (hi : ∀ i, i + 1 < Y.length → Y[i]? = (pieceF k s)[i]?) : takeF (pre ++ Y) a = none := by
  rw [pieceF_len] at hl
  by_cases h7 : Y.length < 7
  · exact take_short (by rw [List.length_append]; omega)
  · have h4 := hi 4 (by omega)
    have h5 := hi 5 (by omega)
    unfold takeF
    rw [← hp, List.drop_left]
    match Y, h7, hl, h4, h5 with
    | [], h, _, _, _ => exact absurd h (by simp)
    | [_], h, _, _, _ => exact absurd h (by simp)
    | [_, _], h, _, _, _ => exact absurd h (by simp)
    | [_, _, _], h, _, _, _ => exact absurd h (by simp)
    | [_, _, _, _], h, _, _, _ => exact absurd h (by simp)
    | [_, _, _, _, _], h, _, _, _ => exact absurd h (by simp)
    | [_, _, _, _, _, _], h, _, _, _ => exact absurd h (by simp)
    | x0 :: x1 :: x2 :: x3 :: y0 :: y1 :: k' :: t, _, hl, h4, h5 =>
      have e4 : y0 = UInt8.ofNat s.length := by simpa [pieceF, Varint.bytesN] using h4
      have e5 : y1 = UInt8.ofNat (s.length / 256) := by simpa [pieceF, Varint.bytesN] using h5
      simp only
      rw [e4, e5, le_two _ hs, if_pos (.inr (by simp at hl; omega))]
/-- a piece whose last byte is another one isn't taken -/
theorem take_bad {pre P0 s : List UInt8} {k x y : UInt8} {a : Nat} (hp : pre.length = a + padF a) (hs : s.length < 65536) (hxy : x ≠ y) (hP : pieceF k s = P0 ++ [x]) : takeF (pre ++ (P0 ++ [y])) a = none := by
  obtain ⟨C, x', hC⟩ : ∃ C x', k :: s = C ++ [x'] := by
    rcases List.eq_nil_or_concat (k :: s) with h | ⟨C, x', h⟩
    · cases h
    · exact ⟨C, x', by rw [h, List.concat_eq_append]⟩
  have h1 : P0 = Varint.bytesN 4 (sumB k s).toNat ++ (Varint.bytesN 2 s.length ++ C) ∧ [x] = [x'] := by
    refine List.append_inj' (hP.symm.trans ?_) rfl
    simp only [pieceF, hC, List.append_assoc]
  obtain ⟨h1, h2⟩ := h1
  cases h2
  obtain ⟨k', s', hk⟩ : ∃ k' s', C ++ [y] = k' :: s' := by
    cases C with
    | nil => exact ⟨y, [], rfl⟩
    | cons c C => exact ⟨c, C ++ [y], rfl⟩
  have hl : s'.length = s.length := by
    have a1 := congrArg List.length hC
    have a2 := congrArg List.length hk
    simp at a1 a2; omega
  have hsum : sumB k s ≠ sumB k' s' := by
    unfold sumB
    rw [hC, ← hk]
    exact sum_last hxy
  unfold takeF
  rw [← hp, List.drop_left, h1]
  simp only [Varint.bytesN, List.append_assoc, List.cons_append, List.nil_append]
  rw [hk]
  simp only
  rw [le_two _ hs, le_four _ (sumB_lt _ _), ← hl, List.take_length]
  split
  · rfl
  · rw [if_neg (fun h => hsum (BitVec.eq_of_toNat_eq h.2.2))]
theorem lay_dead : ∀ (f : Nat) (bg : Bool) (p : Nat) (r Y acc pre : List UInt8) (out : List (List UInt8)) (e a : Nat), pre.length = p → padF p = 0 → a + padF a = p → r.length + 1 ≤ f → (roomF p = 0 → r.length + 2 ≤ f) →
    Brk (layN f bg p r) Y → scanW (pre ++ Y) a e (!bg) acc out = (out, e)
  | 0, _, _, _, _, _, _, _, _, _, _, _, _, h, _, _ => absurd h (by omega)
  | f + 1, bg, p, r, Y, acc, pre, out, e, a, hpre, hp0, ha, hf, hf0, hb => by
    obtain ⟨hl7, hroom⟩ := pad_room p hp0
    have hleft : leftF p = 128 - p % 128 := rfl
    rw [layN] at hb
    by_cases hn : min (roomF p) r.length = r.length
    · rw [if_pos hn, ← List.append_nil (pieceF _ _)] at hb
      rcases brk_split hb with ⟨h1, h2⟩ | ⟨P0, x, y, h1, h2, rfl⟩ | ⟨Y', rfl, h2⟩
      · exact scanW_none (take_cut (by omega) (by omega) h1 h2)
      · exact scanW_none (take_bad (by omega) (by omega) h1 h2)
      · exfalso
        rcases h2 with ⟨T, h3, h4⟩ | ⟨_, _, _, _, _, h4, _⟩
        · exact h3 (by simp at h4; exact h4.2)
        · simp at h4
    · rw [if_neg hn] at hb
      have hlt : roomF p < r.length := by omega
      have htl : (r.take (roomF p)).length = roomF p := by simp; omega
      rcases brk_split hb with ⟨h1, h2⟩ | ⟨P0, x, y, h1, h2, rfl⟩ | ⟨Y', rfl, h2⟩
      · exact scanW_none (take_cut (by omega) (by omega) h1 h2)
      · exact scanW_none (take_bad (by omega) (by omega) h1 h2)
      · obtain ⟨k1, k2, k3, k4⟩ := kind_ok bg false
        have ht := take_piece (pre := pre) (post := Y') (s := r.take (roomF p)) (k := kindF bg false) (a := a) (by omega) k1 k2 (by omega)
        rw [htl, hpre] at ht
        obtain ⟨q1, q2⟩ := pad_of_mod _ (pad_next p hp0)
        have ih := lay_dead f false (p + 7 + roomF p) (r.drop (roomF p)) Y' ((if !bg then acc else []) ++ r.take (roomF p)) (pre ++ pieceF (kindF bg false) (r.take (roomF p))) out e (p + 7 + roomF p)
          (by rw [List.length_append, pieceF_len, htl, hpre]; omega) q1 (by rw [q1]; rfl) (by simp; omega) (by omega) h2
        rw [scanW_some ht, k3, k4]
        have hx : ((!bg) != !bg) = false := by simp
        rw [hx]
        simp only [Bool.false_eq_true, if_false, Bool.not_false, if_true, List.append_assoc] at ih ⊢
        exact ih
theorem frame_dead (a : Nat) (r Y pre acc : List UInt8) (out : List (List UInt8)) (e : Nat) (hpre : pre.length = a) (hb : Brk (frameF a r) Y) : scanW (pre ++ Y) a e false acc out = (out, e) := by
  rcases brk_split hb with ⟨h1, _⟩ | ⟨P0, x, y, _, h1, rfl⟩ | ⟨Y', rfl, h2⟩
  · refine scanW_none (take_short ?_)
    rw [List.length_replicate] at h1
    rw [List.length_append]; omega
  · refine scanW_none (take_short ?_)
    have := congrArg List.length h1
    rw [List.length_replicate] at this
    simp at this ⊢
    omega
  · have := lay_dead (r.length + 2) true (a + padF a) r Y' acc (pre ++ List.replicate (padF a) 0) out e a (by simp [hpre]) (pad_twice a) rfl (by omega) (fun _ => Nat.le_refl _) h2
    simpa using this
/-- whole records, and less than one behind them -/
theorem scan_broken (xs : List (List UInt8)) (r Y : List UInt8) (hb : Brk (frameF (laysF 0 xs).length r) Y) : scanF (laysF 0 xs ++ Y) = (xs, (laysF 0 xs).length) := by
  obtain ⟨acc, h⟩ := scan_lays xs 0 [] Y [] [] 0 rfl
  simp only [List.nil_append, Nat.zero_add] at h
  unfold scanF
  rw [h, frame_dead _ r Y _ acc xs _ rfl hb]
  by_cases hx : xs = []
  · subst hx; simp [laysF]
  · rw [if_neg hx]
theorem frameF_pos (a : Nat) (r : List UInt8) : 0 < (frameF a r).length := by
  rw [frameF_length]; split <;> omega
theorem brk_take {L : List UInt8} {m : Nat} (h : m < L.length) : Brk L (L.take m) :=
  .inl ⟨L.drop m, fun e => by have := congrArg List.length e; simp at this; omega, (List.take_append_drop m L).symm⟩
theorem brk_set {L : List UInt8} {m : Nat} {y : UInt8} (h : m < L.length) (hy : L[m] ≠ y) : Brk L ((L.take (m + 1)).set m y) := by
  refine .inr ⟨L.take m, L[m], y, L.drop (m + 1), hy, ?_, ?_⟩
  · rw [← List.drop_eq_getElem_cons h, List.take_append_drop]
  · rw [List.take_succ_eq_append_getElem h, List.set_append_right _ _ (by simp; omega)]
    have : m - (L.take m).length = 0 := by simp; omega
    rw [this]; rfl
theorem lays_take (rs : List (List UInt8)) (i : Nat) (h : i < rs.length) : laysF 0 rs = laysF 0 (rs.take i) ++ (frameF (laysF 0 (rs.take i)).length rs[i] ++ laysF ((laysF 0 (rs.take i)).length + (frameF (laysF 0 (rs.take i)).length rs[i]).length) (rs.drop (i + 1))) := by
  have e : rs = rs.take i ++ (rs[i] :: rs.drop (i + 1)) := by rw [← List.drop_eq_getElem_cons h, List.take_append_drop]
  have := lays_append (rs.take i) (rs[i] :: rs.drop (i + 1)) 0
  rw [← e, Nat.zero_add] at this
  rw [this]
  rfl
theorem lays_take_succ (rs : List (List UInt8)) (i : Nat) (h : i < rs.length) : laysF 0 (rs.take (i + 1)) = laysF 0 (rs.take i) ++ frameF (laysF 0 (rs.take i)).length rs[i] := by
  rw [List.take_succ_eq_append_getElem h, lays_append, Nat.zero_add]; simp [laysF]
/-- how many bytes the first so many records have -/
def upTo (rs : List (List UInt8)) (i : Nat) : Nat := (laysF 0 (rs.take i)).length
theorem upTo_zero (rs : List (List UInt8)) : upTo rs 0 = 0 := rfl
theorem upTo_succ (rs : List (List UInt8)) (i : Nat) (h : i < rs.length) : upTo rs (i + 1) = upTo rs i + (frameF (upTo rs i) rs[i]).length := by
  unfold upTo; rw [lays_take_succ rs i h, List.length_append]
theorem upTo_all (rs : List (List UInt8)) : upTo rs rs.length = (laysF 0 rs).length := by unfold upTo; rw [List.take_length]
/-- A FILE THAT IS CUT: the records that it has wholly -/
theorem scan_cut (rs : List (List UInt8)) (c W : Nat) (hc : c ≤ (laysF 0 rs).length) (hW : W ≤ rs.length) (h1 : upTo rs W ≤ c) (h2 : W = rs.length ∨ (∃ h : W < rs.length, c < upTo rs (W + 1))) :
    scanF ((laysF 0 rs).take c) = (rs.take W, upTo rs W) := by
  rcases h2 with rfl | ⟨h, h3⟩
  · rw [upTo_all] at h1 ⊢
    rw [List.take_of_length_le h1, List.take_length, scan_all]
  · rw [upTo_succ rs W h] at h3
    have hcut : (laysF 0 rs).take c = laysF 0 (rs.take W) ++ (frameF (upTo rs W) rs[W]).take (c - upTo rs W) := by
      rw [lays_take rs W h, List.take_append]
      have e1 : (laysF 0 (rs.take W)).length = upTo rs W := rfl
      rw [e1, List.take_of_length_le (show (laysF 0 (rs.take W)).length ≤ c from h1), List.take_append_of_le_length (by omega)]
    rw [hcut]
    exact scan_broken _ _ _ (brk_take (by show _ < (frameF (upTo rs W) rs[W]).length; omega))
/-- ..and whose last byte is another one then -/
theorem scan_spoil (rs : List (List UInt8)) (c W : Nat) (y : UInt8) (hc : c ≤ (laysF 0 rs).length) (hc0 : 0 < c) (hW : W ≤ rs.length) (h1 : upTo rs W < c) (h2 : ∃ h : W < rs.length, c ≤ upTo rs (W + 1)) (hy : ∀ h : c - 1 < (laysF 0 rs).length, (laysF 0 rs)[c - 1]'h ≠ y) :
    (scanF (((laysF 0 rs).take c).set (c - 1) y)).1 = rs.take W := by
  have hy := hy (by omega)
  obtain ⟨h, h3⟩ := h2
  rw [upTo_succ rs W h] at h3
  have e1 : (laysF 0 (rs.take W)).length = upTo rs W := rfl
  have hcut : ((laysF 0 rs).take c).set (c - 1) y = laysF 0 (rs.take W) ++ ((frameF (upTo rs W) rs[W]).take (c - 1 - upTo rs W + 1)).set (c - 1 - upTo rs W) y := by
    rw [lays_take rs W h, List.take_append, e1, List.take_of_length_le (show (laysF 0 (rs.take W)).length ≤ c by rw [e1]; omega), List.take_append_of_le_length (by omega), List.set_append_right _ _ (by rw [e1]; omega), e1]
    rw [show c - upTo rs W = c - 1 - upTo rs W + 1 by omega]
  have hat : (laysF 0 rs)[c - 1]'(by omega) = (frameF (upTo rs W) rs[W])[c - 1 - upTo rs W]'(by omega) := by
    have : (laysF 0 rs)[c - 1]? = (frameF (upTo rs W) rs[W])[c - 1 - upTo rs W]? := by
      rw [lays_take rs W h, List.getElem?_append_right (by rw [e1]; omega), e1, List.getElem?_append_left (by omega)]
    rw [List.getElem?_eq_getElem (by omega), List.getElem?_eq_getElem (by omega)] at this
    exact Option.some.inj this
  rw [hat] at hy
  rw [hcut]
  exact congrArg Prod.fst (scan_broken (rs.take W) rs[W] _ (brk_set (by show _ < (frameF (upTo rs W) rs[W]).length; omega) hy))
theorem ends_get : ∀ (rs : List (List UInt8)) (a i : Nat), i < rs.length → (endsF a rs)[i]? = some (a + (laysF a (rs.take (i + 1))).length)
  | [], _, _, h => absurd h (by simp)
  | r :: rs, a, 0, _ => by simp [endsF, laysF]
  | r :: rs, a, i + 1, h => by
    simp only [endsF, List.getElem?_cons_succ, List.take_succ_cons, laysF, List.length_append]
    rw [ends_get rs _ i (by simpa using h), Nat.add_assoc]
end Go.Proofs.Ytmjhffohfppnaaa.Fr
