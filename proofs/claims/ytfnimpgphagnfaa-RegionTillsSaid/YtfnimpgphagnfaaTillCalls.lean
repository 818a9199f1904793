/- Layer 1 (region): the reference's Load, Store walked. -/
import Derived.Test.YtfnimpgphagnfaaTillPiece
import Derived.Test.YtfnimpgphagnfaaStr
import Derived.Outline
namespace Go.Proofs.Ytfnimpgphagnfaa
set_option linter.unusedVariables false
set_option linter.unusedSimpArgs false
open Go.RowKit
theorem sv_at {bytes : List (List UInt8)} {s : Nat} (h : s < bytes.length) : (sv bytes)[s]? = some (.string (str (bytes.getD s []))) := by
  rw [sv_get _ _ h, List.getD_eq_getElem?_getD, List.getElem?_eq_getElem h, Option.getD_some]
set_option maxRecDepth 100000 in
set_option maxHeartbeats 1000000 in
theorem rLoad_any (w : World) (S : Nat → Prop) (g : Nat) (p : PoolF) (x : Hd) (h : RPool w S g p) (hp : PoolOk p) :
    Calls Try.prog 29 #[.pointer (some ⟨g, 0, none⟩), hdv x] w fun e w' => e = .returned (.tuple #[.string (str (loadF p x).1), .int .i64 ((loadF p x).2 : Int)]) ∧ Gr w w' := by
  obtain ⟨xr, xg, xo, xl⟩ := x
  have HT := Lib.hid (fun w' (k : Gr w w') => place_any w' S g p ⟨xr, xg, xo, xl⟩ (h.gr k) hp)
  have GB := Lib.hid (Gr.alloc w (.cells #[.int .i64 xr, .int .i64 xg, .int .i64 xo, .int .i64 xl] 61))
  have HB := Lib.hid (Blk.new w 61 #[.int .i64 xr, .int .i64 xg, .int .i64 xo, .int .i64 xl])
  unfold hdv at HT ⊢
  simp only at HT ⊢
  obtain ⟨⟨s, k⟩, en, he⟩ : ∃ x e, pieceF p ⟨xr, xg, xo, xl⟩ = (x, e) := ⟨_, _, rfl⟩
  rw [he] at HT
  simp only at HT
  cases en with
  | succ n =>
    have HL := Lib.hid (loadF_err he)
    clear h hp he
    go_enter Try.func29, Try.ntmps29
    go_wp2_with (first
      | (go_at_call 41; go_must (refine (HT.out _ GB.out).mono ?_); rintro e w2 ⟨rfl, g2⟩)
      | fail)
    go_ret2
    exact ⟨by rw [HL.out]; rfl, GB.out.trans g2⟩
  | zero =>
    have HL := Lib.hid (loadF_ok he)
    obtain ⟨i, o, l, -, -, -, q4, -, -, q7, -, -, -, -, q12, q13⟩ := pieceF_ok hp he
    simp only at q4
    subst q4
    have hbl : (bytesAt p s).length = p.size := bytesAt_len hp q13
    have hs2 := hp.s2
    have HROW := Lib.hid (fun w' (k : Gr w w') => by
      obtain ⟨O, ads, cs, adt, ct, A, C, hx⟩ := h.gr k
      obtain ⟨bt, hbt, _, c⟩ := hx.row.at (sv_at (bytes := p.bytes) q13)
      exact show ∃ bt cs, w'.cell? ⟨g, 1, none⟩ = some (.slice (some ⟨bt, 0, none⟩) p.bytes.length cs) ∧ w'.cell? ⟨bt, s, none⟩ = some (.string (str (bytesAt p s))) from ⟨bt, cs, by rw [← hbt]; exact hx.head.2.1, c⟩)
    have hpn := hp.n2
    simp only [Int.toNat_natCast] at HL
    generalize bytesAt p s = B at *
    obtain ⟨z, hz⟩ : ∃ z, z = p.size := ⟨_, rfl⟩
    rw [← hz] at hbl q12 hs2
    clear h hp he hz
    go_enter Try.func29, Try.ntmps29
    go_wp2_with (first
      | (go_at_call 41; go_must (refine (HT.out _ GB.out).mono ?_); rintro e w2 ⟨rfl, g2⟩)
      | fail)
    obtain ⟨b0, b1, b2, b3, _⟩ := Blk.four (HB.out.gr g2)
    obtain ⟨bt, cs, c1, c2⟩ := HROW.out _ (GB.out.trans g2)
    obtain ⟨m, hm⟩ : ∃ m, m = k + l := ⟨_, rfl⟩
    have hkl : (k : Int) + (l : Int) = (m : Int) := by omega
    have HM := Lib.hid (show m - k = l by omega)
    have hmz : m ≤ z := by omega
    have hkm : k ≤ m := by omega
    clear hm q12
    go_quiet (fail)
    go_wp2
    go_ret2
    refine ⟨?_, GB.out.trans (g2.trans (Gr.drewN _ _))⟩
    rw [HL.out, ← HM.out]
    rfl
set_option maxRecDepth 100000 in
set_option maxHeartbeats 4000000 in
theorem rStore_any (w : World) (S : Nat → Prop) (g : Nat) (p : PoolF) (x : Hd) (a : Int) (b : List UInt8) (h : RPool w S g p) (hp : PoolOk p) (hb : b.length ≤ 9223372036854775807) :
    Calls Try.prog 30 #[.pointer (some ⟨g, 0, none⟩), hdv x, .int .i64 a, .string (str b)] w fun e w' => e = .returned (.int .i64 ((storeF p x a b).1 : Int)) ∧ RMoved S g (storeF p x a b).2 w w' S := by
  obtain ⟨xr, xg, xo, xl⟩ := x
  have HT := Lib.hid (fun w' (k : Gr w w') => place_any w' S g p ⟨xr, xg, xo, xl⟩ (h.gr k) hp)
  have HPO := Lib.hid h
  have GB := Lib.hid (Gr.alloc w (.cells #[.int .i64 xr, .int .i64 xg, .int .i64 xo, .int .i64 xl] 61))
  have HB := Lib.hid (Blk.new w 61 #[.int .i64 xr, .int .i64 xg, .int .i64 xo, .int .i64 xl])
  unfold hdv at HT ⊢
  simp only at HT ⊢
  obtain ⟨⟨s, k⟩, en, he⟩ : ∃ x e, pieceF p ⟨xr, xg, xo, xl⟩ = (x, e) := ⟨_, _, rfl⟩
  rw [he] at HT
  simp only at HT
  cases en with
  | succ n =>
    have HL := Lib.hid (storeF_err (a := a) (b := b) he)
    clear h hp he
    go_enter Try.func30, Try.ntmps30
    go_wp2_with (first
      | (go_at_call 41; go_must (refine (HT.out _ GB.out).mono ?_); rintro e w2 ⟨rfl, g2⟩)
      | fail)
    go_ret
    rw [HL.out]
    exact ⟨rfl, (RMoved.refl HPO.out).gr (GB.out.trans g2)⟩
  | zero =>
    obtain ⟨i, o, l, -, -, -, q4, -, -, q7, -, -, -, -, q12, q13⟩ := pieceF_ok hp he
    simp only at q4
    subst q4
    by_cases k1 : a < 0
    · have HL := Lib.hid (storeF_bad (a := a) (b := b) he (.inl k1))
      clear h hp he
      go_enter Try.func30, Try.ntmps30
      go_wp2_with (first
        | (go_at_call 41; go_must (refine (HT.out _ GB.out).mono ?_); rintro e w2 ⟨rfl, g2⟩; obtain ⟨b0, b1, b2, b3, _⟩ := Blk.four (HB.out.gr g2))
        | fail)
      go_ret
      rw [HL.out]
      exact ⟨rfl, (RMoved.refl HPO.out).gr (GB.out.trans g2)⟩
    by_cases k2 : a > (l : Int)
    · have HL := Lib.hid (storeF_bad (a := a) (b := b) he (.inr (.inl k2)))
      clear h hp he
      go_enter Try.func30, Try.ntmps30
      go_wp2_with (first
        | (go_at_call 41; go_must (refine (HT.out _ GB.out).mono ?_); rintro e w2 ⟨rfl, g2⟩; obtain ⟨b0, b1, b2, b3, _⟩ := Blk.four (HB.out.gr g2))
        | fail)
      go_ret
      rw [HL.out]
      exact ⟨rfl, (RMoved.refl HPO.out).gr (GB.out.trans g2)⟩
    obtain ⟨t, rfl⟩ := Int.eq_ofNat_of_zero_le (by omega : 0 ≤ a)
    by_cases k3 : (b.length : Int) > (l : Int) - (t : Int)
    · have HL := Lib.hid (storeF_bad (a := (t : Int)) (b := b) he (.inr (.inr k3)))
      clear h hp he
      go_enter Try.func30, Try.ntmps30
      go_wp2_with (first
        | (go_at_call 41; go_must (refine (HT.out _ GB.out).mono ?_); rintro e w2 ⟨rfl, g2⟩; obtain ⟨b0, b1, b2, b3, _⟩ := Blk.four (HB.out.gr g2))
        | fail)
      go_ret
      rw [HL.out]
      exact ⟨rfl, (RMoved.refl HPO.out).gr (GB.out.trans g2)⟩
    · have hL := storeF_ok (a := (t : Int)) (b := b) he (by simp only; omega)
      rw [Int.toNat_natCast] at hL
      have hbl : (bytesAt p s).length = p.size := bytesAt_len hp q13
      have hs2 := hp.s2
      have hpn := hp.n2
      obtain ⟨n1, hn1⟩ : ∃ m, m = k + t := ⟨_, rfl⟩
      obtain ⟨n2, hn2⟩ : ∃ m, m = n1 + b.length := ⟨_, rfl⟩
      rw [← hn1, ← hn2] at hL
      have e1 : (k : Int) + (t : Int) = (n1 : Int) := by omega
      have e2 : (n1 : Int) + (b.length : Int) = (n2 : Int) := by omega
      obtain ⟨z, hz⟩ : ∃ z, z = p.size := ⟨_, rfl⟩
      have hnz : n2 ≤ z := by omega
      have hn1z : n1 ≤ z := by omega
      have hc1 : (9223372036854775807 < n1 + b.length) = False := by simp only [eq_iff_iff, iff_false]; omega
      have hc5 : (9223372036854775807 < z) = False := by simp only [eq_iff_iff, iff_false]; omega
      have hc2 : (9223372036854775807 < n2 + (z - n2)) = False := by simp only [eq_iff_iff, iff_false]; omega
      have hc3 : (9223372036854775807 < n1 + b.length + (z - n2)) = False := by simp only [eq_iff_iff, iff_false]; omega
      have hc4 : (9223372036854775807 < n1 + (b.length + (z - n2))) = False := by simp only [eq_iff_iff, iff_false]; omega
      have hb9 : b.length ≤ 65536 := by omega
      have hl9 : l ≤ 65536 := by omega
      have ht9 : t ≤ l := by omega
      have hw1 : IntKind.i64.wrap (n1 : Int) = (n1 : Int) := by rw [IntKind.wrap_i64]; omega
      have hw2 : IntKind.i64.wrap (n2 : Int) = (n2 : Int) := by rw [IntKind.wrap_i64]; omega
      rw [← hz] at hbl hs2
      generalize hB : bytesAt p s = B at *
      have hxe : B.take n1 ++ b ++ B.drop n2 = B.take n1 ++ (b ++ (B.drop n2).take (z - n2)) := by rw [List.append_assoc, List.take_of_length_le (l := B.drop n2) (by rw [List.length_drop]; omega)]
      rw [hxe] at hL
      have HL := Lib.hid hL
      have HX := Lib.hid (fun w' (k : Gr w w') => h.gr k)
      have HSV := Lib.hid (show (sv p.bytes)[s]? = some (.string (str B)) by rw [← hB]; exact sv_at q13)
      have HPO2 := Lib.hid q13
      clear h hp he hL hxe hz hn1 hn2 q12 hB
      go_enter Try.func30, Try.ntmps30
      go_wp2_with (first
        | (go_at_call 41; go_must (refine (HT.out _ GB.out).mono ?_); rintro e w2 ⟨rfl, g2⟩; obtain ⟨b0, b1, b2, b3, _⟩ := Blk.four (HB.out.gr g2))
        | fail)
      clear b0 b1 b2 b3
      obtain ⟨O, ads, cs, adt, ct, A, C, hx⟩ := HX.out _ (GB.out.trans (g2.trans (Gr.drew _)))
      obtain ⟨bt, hbt, _, c2⟩ := hx.row.at HSV.out
      obtain ⟨_, c1, _⟩ := hx.head
      rw [hbt] at c1
      have hfz := hx.row.unfrozen hbt (show s < p.bytes.length * 1 by omega)
      have HPS := Lib.hid (hx.put_str hbt HPO2.out (B.take n1 ++ (b ++ (B.drop n2).take (z - n2))))
      have HCH := Lib.hid (Chg.grown (S := S) (grown_set w2.drew bt s (.string (str (B.take n1 ++ (b ++ (B.drop n2).take (z - n2)))))) (hx.srow _ hbt))
      have hl1 : (B.take n1).length = n1 := by rw [List.length_take]; omega
      have hl2 : (B.take n1 ++ b).length = n2 := by rw [List.length_append, hl1]; omega
      clear hx
      go_still_tail 34, (by kernel_rfl)
      change wpList _ _ _ _ _ w2.drew
      generalize hW : w2.drew = W at *
      clear hl1 hl2 c1
      go_wp2
      go_ret
      rw [HL.out]
      exact ⟨rfl, (GB.out.trans (g2.trans (hW ▸ Gr.drew w2))).chg.trans HCH.out (fun j hj => .inl hj), fun j hj => .inl hj, _, _, _, _, _, _, _, HPS.out⟩
end Go.Proofs.Ytfnimpgphagnfaa
