/- Layer 8 (frame): pieces, records, and what is scanned, in plain Lean. No program is in sight here. -/
import Derived.Test.YtmjhffohfppnaaaCrcMath
import Derived.Test.YtmjhffohfppnaaaVarintMath
namespace Go.Proofs.Ytmjhffohfppnaaa.Fr
set_option linter.unusedVariables false
set_option linter.unusedSimpArgs false
section
open Varint
theorem le_bytesN : ∀ k n, n < 256 ^ k → le (bytesN k n) = n
  | 0, n, h => by simp at h; subst h; rfl
  | k + 1, n, h => by
    rw [Nat.pow_succ] at h
    show (UInt8.ofNat n).toNat + 256 * le (bytesN k (n / 256)) = n
    rw [le_bytesN k (n / 256) (by omega), UInt8.toNat_ofNat']
    omega
theorem bytesN_le : ∀ l : List UInt8, bytesN l.length (le l) = l
  | [] => rfl
  | x :: l => by
    have hx := x.toNat_lt
    show UInt8.ofNat (x.toNat + 256 * le l) :: bytesN l.length ((x.toNat + 256 * le l) / 256) = x :: l
    have h1 : (x.toNat + 256 * le l) / 256 = le l := by omega
    have h2 : UInt8.ofNat (x.toNat + 256 * le l) = x := by
      apply UInt8.toNat_inj.1
      rw [UInt8.toNat_ofNat']; omega
    rw [h1, h2, bytesN_le l]
end
def leftF (a : Nat) : Nat := 128 - a % 128
def padF (a : Nat) : Nat := if leftF a < 7 then leftF a else 0
def roomF (a : Nat) : Nat := if leftF a < 7 then 121 else leftF a - 7
def sumB (k : UInt8) (s : List UInt8) : BitVec 32 := Crc.maskF (Crc.sumF (k :: s))
def pieceF (k : UInt8) (s : List UInt8) : List UInt8 := Varint.bytesN 4 (sumB k s).toNat ++ (Varint.bytesN 2 s.length ++ k :: s)
def kindF (b e : Bool) : UInt8 := if b && e then 1 else if b then 2 else if e then 4 else 3
def layN : Nat → Bool → Nat → List UInt8 → List UInt8
  | 0, _, _, _ => []
  | f + 1, b, a, r =>
    if min (roomF a) r.length = r.length then pieceF (kindF b true) r
    else pieceF (kindF b false) (r.take (roomF a)) ++ layN f false (a + 7 + roomF a) (r.drop (roomF a))
/-- a record's bytes, at a place -/
def frameF (a : Nat) (r : List UInt8) : List UInt8 := List.replicate (padF a) 0 ++ layN (r.length + 2) true (a + padF a) r
def takeF (b : List UInt8) (a : Nat) : Option (UInt8 × List UInt8 × Nat) :=
  match b.drop (a + padF a) with
  | x0 :: x1 :: x2 :: x3 :: y0 :: y1 :: k :: t =>
    if 128 < (a + padF a) % 128 + 7 + (y0.toNat + 256 * y1.toNat) ∨ t.length < y0.toNat + 256 * y1.toNat then none
    else if 1 ≤ k.toNat ∧ k.toNat ≤ 4 ∧ Varint.le [x0, x1, x2, x3] = (sumB k (t.take (y0.toNat + 256 * y1.toNat))).toNat then some (k, t.take (y0.toNat + 256 * y1.toNat), a + padF a + 7 + (y0.toNat + 256 * y1.toNat)) else none
  | _ => none
def midF (k : UInt8) : Bool := k == 3 || k == 4
def goesF (k : UInt8) : Bool := k == 2 || k == 3
def scanN (b : List UInt8) : Nat → Nat → Nat → Bool → List UInt8 → List (List UInt8) → List (List UInt8) × Nat
  | 0, _, e, _, _, out => (out, e)
  | f + 1, a, e, o, r, out =>
    match takeF b a with
    | none => (out, e)
    | some (k, s, t) =>
      if o != midF k then (out, e)
      else if goesF k then scanN b f t e true ((if o then r else []) ++ s) out
      else scanN b f t t false ((if o then r else []) ++ s) (out ++ [(if o then r else []) ++ s])
def scanW (b : List UInt8) (a e : Nat) (o : Bool) (r : List UInt8) (out : List (List UInt8)) : List (List UInt8) × Nat := scanN b (b.length + 1 - a) a e o r out
def scanF (b : List UInt8) : List (List UInt8) × Nat := scanW b 0 0 false [] []

theorem pieceF_len (k : UInt8) (s : List UInt8) : (pieceF k s).length = 7 + s.length := by
  simp [pieceF, Varint.bytesN_len]; omega
theorem sumB_lt (k : UInt8) (s : List UInt8) : (sumB k s).toNat < 4294967296 := (sumB k s).isLt
theorem left_pos (a : Nat) : 1 ≤ leftF a ∧ leftF a ≤ 128 := by unfold leftF; have := Nat.mod_lt a (show 0 < 128 by decide); omega
theorem pad_room (a : Nat) (h : padF a = 0) : 7 ≤ leftF a ∧ roomF a = leftF a - 7 := by
  have := left_pos a
  unfold padF at h
  unfold roomF
  by_cases h7 : leftF a < 7
  · rw [if_pos h7] at h; omega
  · rw [if_neg h7]; exact ⟨by omega, rfl⟩
theorem pad_next (a : Nat) (h : padF a = 0) : (a + 7 + roomF a) % 128 = 0 := by
  obtain ⟨h1, h2⟩ := pad_room a h
  unfold leftF at h1 h2
  omega
theorem pad_of_mod (a : Nat) (h : a % 128 = 0) : padF a = 0 ∧ roomF a = 121 := by
  unfold padF roomF leftF; rw [h]; exact ⟨rfl, rfl⟩
theorem pad_twice (a : Nat) : padF (a + padF a) = 0 := by
  have := left_pos a
  have hl : leftF a = 128 - a % 128 := rfl
  by_cases h7 : leftF a < 7
  · have e : padF a = leftF a := by unfold padF; rw [if_pos h7]
    exact (pad_of_mod _ (by rw [e, hl]; omega)).1
  · have e : padF a = 0 := by unfold padF; rw [if_neg h7]
    rw [e]; exact e
theorem drop7 {b : List UInt8} {p : Nat} (h : p + 7 ≤ b.length) : b.drop p = b[p] :: b[p + 1] :: b[p + 2] :: b[p + 3] :: b[p + 4] :: b[p + 5] :: b[p + 6] :: b.drop (p + 7) := by
  rw [List.drop_eq_getElem_cons (by omega), List.drop_eq_getElem_cons (i := p + 1) (by omega), List.drop_eq_getElem_cons (i := p + 2) (by omega), List.drop_eq_getElem_cons (i := p + 3) (by omega), List.drop_eq_getElem_cons (i := p + 4) (by omega), List.drop_eq_getElem_cons (i := p + 5) (by omega), List.drop_eq_getElem_cons (i := p + 6) (by omega)]
theorem take_short {b : List UInt8} {a : Nat} (h : b.length < a + padF a + 7) : takeF b a = none := by
  unfold takeF
  have hl : (b.drop (a + padF a)).length < 7 := by simp; omega
  generalize b.drop (a + padF a) = d at *
  match d, hl with
  | [], _ => rfl
  | [_], _ => rfl
  | [_, _], _ => rfl
  | [_, _, _], _ => rfl
  | [_, _, _, _], _ => rfl
  | [_, _, _, _, _], _ => rfl
  | [_, _, _, _, _, _], _ => rfl
  | _ :: _ :: _ :: _ :: _ :: _ :: _ :: _, h => simp at h; omega
def lenAt (b : List UInt8) (p : Nat) (h : p + 7 ≤ b.length) : Nat := b[p + 4].toNat + 256 * b[p + 5].toNat
theorem take_long {b : List UInt8} {a p : Nat} (hp : a + padF a = p) (h : p + 7 ≤ b.length) : takeF b a =
    if 128 < p % 128 + 7 + lenAt b p h ∨ b.length < p + 7 + lenAt b p h then none
    else if 1 ≤ b[p + 6].toNat ∧ b[p + 6].toNat ≤ 4 ∧ Varint.le ((b.drop p).take 4) = (sumB b[p + 6] ((b.drop (p + 7)).take (lenAt b p h))).toNat then some (b[p + 6], (b.drop (p + 7)).take (lenAt b p h), p + 7 + lenAt b p h) else none := by
  subst hp
  unfold takeF
  rw [drop7 h]
  simp only [lenAt, List.take_succ_cons, List.take_zero, List.length_drop]
  congr 1
  simp only [eq_iff_iff]
  omega
theorem take_lt {b : List UInt8} {a : Nat} {k : UInt8} {s : List UInt8} {t : Nat} (h : takeF b a = some (k, s, t)) : a + 7 ≤ t ∧ t ≤ b.length ∧ 1 ≤ k.toNat ∧ k.toNat ≤ 4 ∧ t = a + padF a + 7 + s.length ∧ s = (b.drop (a + padF a + 7)).take s.length := by
  rcases Nat.lt_or_ge b.length (a + padF a + 7) with hs | hs
  · rw [take_short hs] at h; cases h
  · rw [take_long rfl hs] at h
    split at h
    · cases h
    · rename_i h1
      split at h
      · rename_i h2
        cases h
        have hsl : ((b.drop (a + padF a + 7)).take (lenAt b (a + padF a) hs)).length = lenAt b (a + padF a) hs := by simp; omega
        refine ⟨by omega, by omega, h2.1, h2.2.1, by rw [hsl], by rw [hsl]⟩
      · cases h
theorem scanN_fuel (b : List UInt8) : ∀ f f' a e o r out, b.length + 1 ≤ a + f → b.length + 1 ≤ a + f' → scanN b f a e o r out = scanN b f' a e o r out
  | 0, f', a, e, o, r, out, h, h' => by
    cases f' with
    | zero => rfl
    | succ f' => simp [scanN, take_short (b := b) (a := a) (by omega)]
  | f + 1, 0, a, e, o, r, out, h, h' => by simp [scanN, take_short (b := b) (a := a) (by omega)]
  | f + 1, f' + 1, a, e, o, r, out, h, h' => by
    simp only [scanN]
    cases ht : takeF b a with
    | none => rfl
    | some x =>
      obtain ⟨k, s, t⟩ := x
      have := take_lt ht
      simp only
      rw [scanN_fuel b f f' t _ _ _ _ (by omega) (by omega), scanN_fuel b f f' t _ _ _ _ (by omega) (by omega)]
section
variable {b : List UInt8} {a e : Nat} {o : Bool} {r : List UInt8} {out : List (List UInt8)} {k : UInt8} {s : List UInt8} {t : Nat}
theorem scanW_none (h : takeF b a = none) : scanW b a e o r out = (out, e) := by
  unfold scanW
  cases b.length + 1 - a with
  | zero => rfl
  | succ f => simp [scanN, h]
theorem scanW_some (h : takeF b a = some (k, s, t)) : scanW b a e o r out =
    if o != midF k then (out, e) else if goesF k then scanW b t e true ((if o then r else []) ++ s) out else scanW b t t false ((if o then r else []) ++ s) (out ++ [(if o then r else []) ++ s]) := by
  have hl := take_lt h
  unfold scanW
  rw [show b.length + 1 - a = (b.length - a) + 1 by omega]
  simp only [scanN, h]
  rw [scanN_fuel b (b.length - a) (b.length + 1 - t) t _ _ _ _ (by omega) (by omega), scanN_fuel b (b.length - a) (b.length + 1 - t) t _ _ _ _ (by omega) (by omega)]
end
theorem le_two (n : Nat) (h : n < 65536) : (UInt8.ofNat n).toNat + 256 * (UInt8.ofNat (n / 256)).toNat = n := by
  simp only [UInt8.toNat_ofNat']; omega
theorem le_four (n : Nat) (h : n < 4294967296) : Varint.le [UInt8.ofNat n, UInt8.ofNat (n / 256), UInt8.ofNat (n / 256 / 256), UInt8.ofNat (n / 256 / 256 / 256)] = n := by
  simp only [Varint.le, UInt8.toNat_ofNat']; omega
/-- a piece that stands somewhere is taken -/
theorem take_piece {pre post s : List UInt8} {k : UInt8} {a : Nat} (hp : pre.length = a + padF a) (h1 : 1 ≤ k.toNat) (h4 : k.toNat ≤ 4) (hs : pre.length % 128 + 7 + s.length ≤ 128) :
    takeF (pre ++ (pieceF k s ++ post)) a = some (k, s, pre.length + 7 + s.length) := by
  unfold takeF
  rw [← hp, List.drop_left]
  simp only [pieceF, Varint.bytesN, List.cons_append, List.nil_append]
  rw [le_two _ (by omega), le_four _ (sumB_lt _ _)]
  have h5 : (s ++ post).take s.length = s := List.take_left
  rw [h5, if_neg (by simp; omega), if_pos ⟨h1, h4, rfl⟩]
theorem kind_ok (b e : Bool) : 1 ≤ (kindF b e).toNat ∧ (kindF b e).toNat ≤ 4 ∧ midF (kindF b e) = !b ∧ goesF (kindF b e) = !e := by
  cases b <;> cases e <;> decide
/-- a record that is laid is scanned -/
theorem scan_lay : ∀ (f : Nat) (bg : Bool) (p : Nat) (r acc pre post : List UInt8) (out : List (List UInt8)) (e a : Nat), pre.length = p → padF p = 0 → a + padF a = p → r.length + 1 ≤ f → (roomF p = 0 → r.length + 2 ≤ f) →
    scanW (pre ++ (layN f bg p r ++ post)) a e (!bg) acc out = scanW (pre ++ (layN f bg p r ++ post)) (p + (layN f bg p r).length) (p + (layN f bg p r).length) false ((if bg then [] else acc) ++ r) (out ++ [(if bg then [] else acc) ++ r])
  | 0, _, _, _, _, _, _, _, _, _, _, _, _, h, _ => absurd h (by omega)
  | f + 1, bg, p, r, acc, pre, post, out, e, a, hpre, hp0, ha, hf, hf0 => by
    obtain ⟨hl7, hroom⟩ := pad_room p hp0
    have hleft : leftF p = 128 - p % 128 := rfl
    rw [layN]
    by_cases hn : min (roomF p) r.length = r.length
    · rw [if_pos hn]
      obtain ⟨k1, k2, k3, k4⟩ := kind_ok bg true
      have ht := take_piece (pre := pre) (post := post) (s := r) (k := kindF bg true) (a := a) (by omega) k1 k2 (by omega)
      rw [scanW_some ht, k3, k4, pieceF_len, hpre, show p + (7 + r.length) = p + 7 + r.length by omega]
      cases bg <;> simp
    · rw [if_neg hn]
      have hlt : roomF p < r.length := by omega
      obtain ⟨k1, k2, k3, k4⟩ := kind_ok bg false
      have htl : (r.take (roomF p)).length = roomF p := by simp; omega
      have ht := take_piece (pre := pre) (post := layN f false (p + 7 + roomF p) (r.drop (roomF p)) ++ post) (s := r.take (roomF p)) (k := kindF bg false) (a := a) (by omega) k1 k2 (by omega)
      rw [htl, hpre] at ht
      have hnext := pad_next p hp0
      obtain ⟨q1, q2⟩ := pad_of_mod _ hnext
      have ih := scan_lay f false (p + 7 + roomF p) (r.drop (roomF p)) ((if !bg then acc else []) ++ r.take (roomF p)) (pre ++ pieceF (kindF bg false) (r.take (roomF p))) post out e (p + 7 + roomF p)
        (by rw [List.length_append, pieceF_len, htl, hpre]; omega) q1 (by rw [q1]; rfl) (by simp; omega) (by omega)
      simp only [List.append_assoc] at ih ht ⊢
      rw [scanW_some ht, k3, k4]
      simp only [Bool.not_false, if_true] at ih ⊢
      have hx : ((!bg) != !bg) = false := by simp
      rw [hx]
      simp only [Bool.false_eq_true, if_false] at ih ⊢
      rw [ih, List.append_assoc (if (!bg) = true then acc else []) (r.take (roomF p)) (r.drop (roomF p)), List.take_append_drop, List.length_append, pieceF_len, htl]
      rw [show p + 7 + roomF p + (layN f false (p + 7 + roomF p) (List.drop (roomF p) r)).length = p + (7 + roomF p + (layN f false (p + 7 + roomF p) (List.drop (roomF p) r)).length) by omega]
      cases bg <;> rfl
theorem scan_frame (a : Nat) (r pre post acc : List UInt8) (out : List (List UInt8)) (e : Nat) (hpre : pre.length = a) :
    scanW (pre ++ (frameF a r ++ post)) a e false acc out = scanW (pre ++ (frameF a r ++ post)) (a + (frameF a r).length) (a + (frameF a r).length) false r (out ++ [r]) := by
  unfold frameF
  have h := scan_lay (r.length + 2) true (a + padF a) r acc (pre ++ List.replicate (padF a) 0) post out e a (by simp [hpre]) (pad_twice a) rfl (by omega) (fun _ => Nat.le_refl _)
  simp only [List.append_assoc, Bool.not_true, if_true, List.nil_append] at h ⊢
  rw [h]
  simp only [List.length_append, List.length_replicate, Nat.add_assoc]
/-- records, one behind the other -/
def laysF : Nat → List (List UInt8) → List UInt8
  | _, [] => []
  | a, r :: rs => frameF a r ++ laysF (a + (frameF a r).length) rs
theorem scan_lays : ∀ (rs : List (List UInt8)) (a : Nat) (pre post acc : List UInt8) (out : List (List UInt8)) (e : Nat), pre.length = a →
    ∃ acc', scanW (pre ++ (laysF a rs ++ post)) a e false acc out = scanW (pre ++ (laysF a rs ++ post)) (a + (laysF a rs).length) (if rs = [] then e else a + (laysF a rs).length) false acc' (out ++ rs)
  | [], a, pre, post, acc, out, e, h => ⟨acc, by simp [laysF]⟩
  | r :: rs, a, pre, post, acc, out, e, h => by
    have h1 := scan_frame a r pre (laysF (a + (frameF a r).length) rs ++ post) acc out e h
    obtain ⟨acc', h2⟩ := scan_lays rs (a + (frameF a r).length) (pre ++ frameF a r) post r (out ++ [r]) (a + (frameF a r).length) (by simp [h])
    refine ⟨acc', ?_⟩
    simp only [laysF, List.append_assoc] at h1 h2 ⊢
    rw [h1, h2]
    simp only [List.length_append, Nat.add_assoc, List.append_assoc, List.cons_append, List.nil_append, reduceCtorEq, if_false]
    by_cases hr : rs = []
    · subst hr; simp [laysF]
    · rw [if_neg hr]
theorem take_end (b : List UInt8) : takeF b b.length = none := take_short (by omega)
theorem scan_all (rs : List (List UInt8)) : scanF (laysF 0 rs) = (rs, (laysF 0 rs).length) := by
  obtain ⟨acc, h⟩ := scan_lays rs 0 [] [] [] [] 0 rfl
  simp only [List.nil_append, List.append_nil, Nat.zero_add] at h
  unfold scanF
  rw [h, scanW_none (take_end _)]
  by_cases hr : rs = []
  · subst hr; simp [laysF]
  · rw [if_neg hr]
theorem lays_append : ∀ (xs ys : List (List UInt8)) (a : Nat), laysF a (xs ++ ys) = laysF a xs ++ laysF (a + (laysF a xs).length) ys
  | [], ys, a => by simp [laysF]
  | x :: xs, ys, a => by simp only [List.cons_append, laysF, lays_append xs ys, List.append_assoc, List.length_append, Nat.add_assoc]
/-- what is laid depends on the place in a block alone -/
theorem layN_mod : ∀ (f : Nat) (bg : Bool) (p q : Nat) (r : List UInt8), p % 128 = q % 128 → layN f bg p r = layN f bg q r
  | 0, _, _, _, _, _ => rfl
  | f + 1, bg, p, q, r, h => by
    have hr : roomF p = roomF q := by unfold roomF leftF; rw [h]
    rw [layN, layN, hr, layN_mod f false (p + 7 + roomF q) (q + 7 + roomF q) _ (by omega)]
theorem frameF_mod (p q : Nat) (r : List UInt8) (h : p % 128 = q % 128) : frameF p r = frameF q r := by
  have hp : padF p = padF q := by unfold padF leftF; rw [h]
  unfold frameF
  rw [hp, layN_mod _ _ (p + padF q) (q + padF q) _ (by omega)]
theorem layN_fuel : ∀ (f g : Nat) (bg : Bool) (p : Nat) (r : List UInt8), padF p = 0 → r.length + 1 ≤ f → (roomF p = 0 → r.length + 2 ≤ f) → r.length + 1 ≤ g → (roomF p = 0 → r.length + 2 ≤ g) → layN f bg p r = layN g bg p r
  | 0, _, _, _, _, _, h, _, _, _ => absurd h (by omega)
  | _ + 1, 0, _, _, _, _, _, _, h, _ => absurd h (by omega)
  | f + 1, g + 1, bg, p, r, hp, h1, h2, h3, h4 => by
    rw [layN, layN]
    by_cases hn : min (roomF p) r.length = r.length
    · rw [if_pos hn, if_pos hn]
    · rw [if_neg hn, if_neg hn]
      obtain ⟨q1, q2⟩ := pad_of_mod _ (pad_next p hp)
      have hdl : (r.drop (roomF p)).length = r.length - roomF p := by simp
      rw [layN_fuel f g false _ _ q1 (by omega) (by omega) (by omega) (by omega)]
/-- a record's bytes from a place that has room for a head: with the fuel that it needs -/
def layF (bg : Bool) (p : Nat) (r : List UInt8) : List UInt8 := layN (r.length + 2) bg p r
theorem layF_end {bg : Bool} {p : Nat} {r : List UInt8} (h : r.length ≤ roomF p) : layF bg p r = pieceF (kindF bg true) r := by
  unfold layF; rw [layN, if_pos (by omega)]
theorem layF_on {bg : Bool} {p : Nat} {r : List UInt8} (hp : padF p = 0) (h : roomF p < r.length) :
    layF bg p r = pieceF (kindF bg false) (r.take (roomF p)) ++ layF false (p + 7 + roomF p) (r.drop (roomF p)) := by
  unfold layF
  rw [layN, if_neg (by omega)]
  obtain ⟨q1, q2⟩ := pad_of_mod _ (pad_next p hp)
  have hdl : (r.drop (roomF p)).length = r.length - roomF p := by simp
  rw [layN_fuel (r.length + 1) ((r.drop (roomF p)).length + 2) false _ _ q1 (by omega) (by omega) (by omega) (by omega)]
theorem layN_len : ∀ (f : Nat) (bg : Bool) (p : Nat) (r : List UInt8), (layN f bg p r).length ≤ r.length + 7 * f
  | 0, _, _, _ => by simp [layN]
  | f + 1, bg, p, r => by
    rw [layN]
    split
    · rw [pieceF_len]; omega
    · have := layN_len f false (p + 7 + roomF p) (r.drop (roomF p))
      rw [List.length_append, pieceF_len]
      simp only [List.length_take, List.length_drop] at this ⊢
      omega
theorem frameF_len (a : Nat) (r : List UInt8) : (frameF a r).length ≤ 8 * r.length + 20 := by
  have h := layN_len (r.length + 2) true (a + padF a) r
  have hp : padF a ≤ 6 := by unfold padF; split <;> omega
  unfold frameF
  rw [List.length_append, List.length_replicate]
  omega
theorem frameF_start (a : Nat) (r : List UInt8) : frameF a r = List.replicate (padF (a % 128)) 0 ++ layF true (a % 128 + padF (a % 128)) r := by
  rw [frameF_mod a (a % 128) r (by omega)]; rfl
theorem room_pad (a : Nat) : roomF (a + padF a) = roomF a := by
  have hl : leftF a = 128 - a % 128 := rfl
  by_cases h7 : leftF a < 7
  · have e : padF a = leftF a := by unfold padF; rw [if_pos h7]
    have := left_pos a
    have h0 : (a + padF a) % 128 = 0 := by rw [e, hl]; omega
    rw [(pad_of_mod _ h0).2]; unfold roomF; rw [if_pos h7]
  · have e : padF a = 0 := by unfold padF; rw [if_neg h7]
    rw [e]; rfl
theorem layF_length : ∀ (N : Nat) (bg : Bool) (p : Nat) (r : List UInt8), r.length ≤ N → padF p = 0 → (layF bg p r).length = r.length + 7 * (if r.length ≤ roomF p then 1 else 1 + (r.length - roomF p + 120) / 121)
  | N, bg, p, r, hN, hp => by
    by_cases h : r.length ≤ roomF p
    · rw [layF_end h, pieceF_len, if_pos h]; omega
    · rw [layF_on hp (by omega), List.length_append, pieceF_len, if_neg h, List.length_take]
      obtain ⟨q1, q2⟩ := pad_of_mod _ (pad_next p hp)
      have hdl : (r.drop (roomF p)).length = r.length - roomF p := by simp
      by_cases h0 : roomF p = 0
      · by_cases hs : r.length ≤ 121
        · rw [layF_end (by rw [hdl, q2]; omega), pieceF_len, hdl]; omega
        · cases N with
          | zero => omega
          | succ N =>
            rw [layF_on q1 (by rw [hdl, q2]; omega), List.length_append, pieceF_len, List.length_take, q2, hdl]
            obtain ⟨u1, u2⟩ := pad_of_mod _ (pad_next _ q1)
            rw [q2] at u1 u2
            have hdl2 : ((r.drop (roomF p)).drop 121).length = r.length - roomF p - 121 := by simp; omega
            have := layF_length N false _ ((r.drop (roomF p)).drop 121) (by omega) u1
            rw [this, u2, hdl2]
            split <;> omega
      · cases N with
        | zero => omega
        | succ N =>
          have := layF_length N false _ (r.drop (roomF p)) (by omega) q1
          rw [this, q2, hdl]
          split <;> omega
  termination_by N => N
theorem frameF_length (a : Nat) (r : List UInt8) : (frameF a r).length = padF a + r.length + 7 * (if r.length ≤ roomF a then 1 else 1 + (r.length - roomF a + 120) / 121) := by
  show (List.replicate (padF a) 0 ++ layF true (a + padF a) r).length = _
  rw [List.length_append, List.length_replicate, layF_length _ true _ r (Nat.le_refl _) (pad_twice a), room_pad]
  omega
/-- where each record ends -/
def endsF : Nat → List (List UInt8) → List Nat
  | _, [] => []
  | a, r :: rs => (a + (frameF a r).length) :: endsF (a + (frameF a r).length) rs
theorem endsF_len : ∀ (rs : List (List UInt8)) (a : Nat), (endsF a rs).length = rs.length
  | [], _ => rfl
  | r :: rs, a => by simp [endsF, endsF_len rs]
theorem endsF_snoc : ∀ (rs : List (List UInt8)) (r : List UInt8) (a : Nat), endsF a (rs ++ [r]) = endsF a rs ++ [a + (laysF a (rs ++ [r])).length]
  | [], r, a => by simp [endsF, laysF]
  | x :: rs, r, a => by
    simp only [List.cons_append, endsF, endsF_snoc rs, laysF, List.length_append, Nat.add_assoc]
end Go.Proofs.Ytmjhffohfppnaaa.Fr
