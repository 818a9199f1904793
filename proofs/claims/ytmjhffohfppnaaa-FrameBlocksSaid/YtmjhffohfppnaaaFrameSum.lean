/- Layer 8 (frame): Room, pad, kind, sum and piece. -/
import Derived.Test.YtmjhffohfppnaaaFrameFns
import Derived.Test.YtmjhffohfppnaaaFrameMath
namespace Go.Proofs.Ytmjhffohfppnaaa
set_option linter.unusedVariables false
set_option linter.unusedSimpArgs false
open Go.RowKit Fr
theorem pad_any (a : Nat) (w : World) (ha : a ≤ 9223372036854775807) : Calls Try.prog 20 #[.int .i64 (a : Int)] w fun e w' => e = .returned (.int .i64 (padF a : Nat)) ∧ w = w' := by
  have hm := Nat.mod_lt a (show 0 < 128 by decide)
  have hl : leftF a = 128 - a % 128 := rfl
  by_cases h : leftF a < 7
  · have H := Lib.hid (show (padF a : Int) = 128 - (a : Int) % 128 by unfold padF; rw [if_pos h, hl]; omega)
    have h2 : 128 - (a : Int) % 128 < 7 := by omega
    clear h hl hm
    go_enter Try.func20, Try.ntmps20
    go_wp2
    go_ret
    exact ⟨ret_int H.out.symm, rfl⟩
  · have H := Lib.hid (show (padF a : Int) = 0 by unfold padF; rw [if_neg h]; rfl)
    have h2 : ¬ 128 - (a : Int) % 128 < 7 := by omega
    clear h hl hm
    go_enter Try.func20, Try.ntmps20
    go_wp2
    go_ret
    exact ⟨ret_int H.out.symm, rfl⟩
theorem Room_any (a : Nat) (w : World) (ha : a ≤ 9223372036854775807) : Calls Try.prog 13 #[.int .i64 (a : Int)] w fun e w' => e = .returned (.int .i64 (roomF a : Nat)) ∧ w = w' := by
  have hm := Nat.mod_lt a (show 0 < 128 by decide)
  have hl : leftF a = 128 - a % 128 := rfl
  by_cases h : leftF a < 7
  · have H := Lib.hid (show (roomF a : Int) = 121 by unfold roomF; rw [if_pos h]; rfl)
    have h2 : ¬ 0 ≤ 128 - (a : Int) % 128 - 7 := by omega
    clear h hl hm
    go_enter Try.func13, Try.ntmps13
    go_wp2
    go_ret
    exact ⟨ret_int H.out.symm, rfl⟩
  · have H := Lib.hid (show (roomF a : Int) = 128 - (a : Int) % 128 - 7 by unfold roomF; rw [if_neg h, hl]; omega)
    have h2 : 0 ≤ 128 - (a : Int) % 128 - 7 := by omega
    clear h hl hm
    go_enter Try.func13, Try.ntmps13
    go_wp2
    go_ret
    exact ⟨ret_int H.out.symm, rfl⟩
theorem Room_neg (a : Int) (w : World) (h1 : -9223372036854775808 ≤ a) (ha : a < 0) : Calls Try.prog 13 #[.int .i64 a] w fun e w' => e = .returned (.int .i64 0) ∧ w = w' := by
  go_enter Try.func13, Try.ntmps13
  go_wp2
  go_ret
  exact ⟨rfl, rfl⟩
theorem kind_any (b e : Bool) (w : World) : Calls Try.prog 22 #[.bool b, .bool e] w fun x w' => x = .returned (.int .u8 ((kindF b e).toNat : Int)) ∧ w = w' := by
  cases b <;> cases e
  all_goals
    go_enter Try.func22, Try.ntmps22
    go_wp2
    go_ret
    exact ⟨rfl, rfl⟩
theorem fsum_any (k : UInt8) (ad : Option Addr) (cap : Nat) (s : List UInt8) (w : World) (hm : s.length ≤ maxLen) (hb : Bytes w ad s) :
    Calls Try.prog 27 #[.int .u8 (k.toNat : Int), .slice ad s.length cap] w fun e w' => e = .returned (.int .u32 (U (sumB k s))) ∧ Gr w w' := by
  have H := Lib.hid (show sumB k s = Crc.maskF (Crc.moreF (Crc.sumF [k]) s) by unfold sumB Crc.sumF; rw [← Crc.moreF_append]; rfl)
  have S := Lib.hid (sum_any (some ⟨w.heap.size, 0, none⟩) 1 1 [k] (w.alloc (.cells #[.int .u8 (k.toNat : Int)] 5)) rfl (by decide) (Bytes.alloc w #[.int .u8 (k.toNat : Int)] 5 (0, 0) [k] rfl))
  have M := Lib.hid (more_any (Crc.sumF [k]) ad s.length cap s (w.alloc (.cells #[.int .u8 (k.toNat : Int)] 5)) rfl hm (hb.gr (Gr.alloc _ _)))
  have K := Lib.hid (mask_any (Crc.moreF (Crc.sumF [k]) s))
  generalize Crc.sumF [k] = s1 at *
  generalize Crc.moreF s1 s = s2 at *
  go_enter Try.func27, Try.ntmps27
  go_wp2_with (first | (go_at_call 34; refine S.out.mono ?_; rintro e w' ⟨rfl, rfl⟩) | (go_at_call 33; refine M.out.mono ?_; rintro e w' ⟨rfl, rfl⟩) | (go_at_call 32; refine (K.out _).mono ?_; rintro e w' ⟨rfl, rfl⟩))
  go_ret
  exact ⟨by rw [H.out]; rfl, Gr.alloc _ _⟩
/-- appends to a slice since a world: its own block alone has changed, or it has a new one -/
def AppTo (w0 : World) (ad0 : Option Addr) (w : World) (ad : Option Addr) : Prop := w0.grownBy w (ad0.map (·.block)) ∧ ∀ a, ad = some a → ad0 = some a ∨ w0.heap.size ≤ a.block
theorem AppTo.refl (w : World) (ad : Option Addr) : AppTo w ad w ad := ⟨(Gr.refl w).far, fun _ h => .inl h⟩
theorem AppTo.gr {w0 w w' : World} {ad0 ad : Option Addr} (h : AppTo w0 ad0 w ad) (g : Gr w w') : AppTo w0 ad0 w' ad := ⟨grown_trans h.1 g.far, h.2⟩
theorem AppTo.step {w0 w w' : World} {ad0 ad ad' : Option Addr} (h : AppTo w0 ad0 w ad) (k : w.grownBy w' (ad.map (·.block))) (f : ∀ a, ad' = some a → ad = some a ∨ w.heap.size ≤ a.block) : AppTo w0 ad0 w' ad' := by
  refine ⟨⟨k.os.trans h.1.os, k.tape.trans h.1.tape, k.output.trans h.1.output, Nat.le_trans h.1.size k.size, fun j hj hne => ?_⟩, fun a ha => ?_⟩
  · refine (k.block j (Nat.lt_of_lt_of_le hj h.1.size) ?_).trans (h.1.block j hj hne)
    intro e
    cases ad with
    | none => cases e
    | some a =>
      cases e
      rcases h.2 a rfl with h2 | h2
      · exact hne (by rw [h2]; rfl)
      · exact absurd hj (Nat.not_lt.2 h2)
  · rcases f a ha with h2 | h2
    · exact h.2 a h2
    · exact .inr (Nat.le_trans h.1.size h2)
theorem AppTo.bytes {w0 w : World} {ad0 ad ads : Option Addr} {s : List UInt8} (h : AppTo w0 ad0 w ad) (hb : Bytes w0 ads s) (hf : 0 < s.length → ∀ a, ads = some a → some a.block ≠ ad0.map (·.block)) : Bytes w ads s := fun i hi => by
  obtain ⟨b, off, e, hc⟩ := hb i hi
  have := h.1.block b (World.block_lt_of_cell? w0 _ hc) (hf (by omega) _ e)
  refine ⟨b, off, e, ?_⟩
  unfold World.cell? at hc ⊢
  simp only at hc ⊢
  rw [this]; exact hc
theorem AppTo.back {w w0 w' : World} {ad0 ad' : Option Addr} (g : Gr w w0) (h : AppTo w0 ad0 w' ad') : AppTo w ad0 w' ad' :=
  ⟨grown_trans g.far h.1, fun a ha => (h.2 a ha).imp id (Nat.le_trans g.size)⟩
/-- what hands back a slice that more was put behind -/
def RetApp (B : Nat) (e : TypeId) (ad0 : Option Addr) (w : World) (l : List UInt8) : Ending → World → Prop := fun x w' =>
  ∃ ad cap, x = .returned (.slice ad l.length cap) ∧ Owns w' B e 1 ad cap l.length (bv l) ∧ AppTo w ad0 w' ad
theorem far_new {w w2 w3 : World} {adb ad2 : Option Addr} {e : TypeId} {cap n : Nat} {xs : List Value} (h : ∀ a, adb = some a → a.block < w.heap.size) (ho : Owns w3 w2.heap.size e 1 ad2 cap n xs) (hs : w.heap.size ≤ w2.heap.size) :
    ∀ a, ad2 = some a → some a.block ≠ adb.map (·.block) := by
  intro a ha e
  cases adb with
  | none => cases e
  | some b =>
    have h1 := h b rfl
    have h2 := (ho.lt a ha).1
    simp only [Option.map_some, Option.some.injEq] at e
    omega
theorem Fixed_at (X : Int) (n k : Nat) (S : Int) (w : World) (hX : X = (n : Int)) (hS : S = (k : Int)) (hk : k ≤ 8) (hn : n < 256 ^ k) : Calls Try.prog 26 #[.int .u64 X, .int .i64 S] w (RetBE 5 w (Varint.bytesN k n) 0) := by
  subst hX; subst hS
  have h8 : 256 ^ k ≤ 256 ^ 8 := Nat.pow_le_pow_right (by decide) hk
  have h := Fixed_any n (k : Int) w (by omega) (by omega) (by omega)
  have e : Varint.fixedF n (k : Int) = (Varint.bytesN k n, 0) := by
    unfold Varint.fixedF
    rw [if_neg (by omega), if_neg (by rw [Int.toNat_natCast]; exact fun h => h (Nat.div_eq_of_lt hn))]
    rfl
  rw [e] at h
  exact h
set_option maxRecDepth 100000 in
set_option maxHeartbeats 2000000 in
theorem piece_any (B : Nat) (adb : Option Addr) (capb : Nat) (l : List UInt8) (k : UInt8) (ads : Option Addr) (caps : Nat) (s : List UInt8) (w : World) (ho : Owns w B 5 1 adb capb l.length (bv l)) (hB : B ≤ w.heap.size)
    (hs : s.length ≤ 128) (hl : l.length ≤ 70368744177664) (hb : Bytes w ads s) (hfar : 0 < s.length → ∀ a, ads = some a → some a.block ≠ adb.map (·.block)) :
    Calls Try.prog 21 #[.slice adb l.length capb, .int .u8 (k.toNat : Int), .slice ads s.length caps] w (RetApp B 5 adb w (l ++ pieceF k s)) := by
  have hsm : s.length ≤ maxLen := by unfold maxLen; omega
  have S := Lib.hid (fsum_any k ads caps s w hsm hb)
  have hsl := sumB_lt k s
  have F4 := Lib.hid (fun w X hX => Fixed_at X (sumB k s).toNat 4 4 w hX rfl (by decide) hsl)
  have F2 := Lib.hid (fun w X hX => Fixed_at X s.length 2 2 w hX rfl (by decide) (by omega))
  have HP := Lib.hid (show pieceF k s = Varint.bytesN 4 (sumB k s).toNat ++ (Varint.bytesN 2 s.length ++ k :: s) from rfl)
  have hu : U (sumB k s) = ((sumB k s).toNat : Int) := by unfold U; rfl
  have c4 := Varint.bytesN_len 4 (sumB k s).toNat
  have c2 := Varint.bytesN_len 2 s.length
  have hu0 := U_lo (sumB k s)
  have hu1 := U_hi (sumB k s)
  have HU := Lib.hid hu
  clear hu
  generalize Varint.bytesN 4 (sumB k s).toNat = x4 at *
  generalize Varint.bytesN 2 s.length = x2 at *
  generalize sumB k s = sm at *
  have hadb : ∀ a, adb = some a → a.block < w.heap.size := fun a ha => (ho.lt a ha).2
  have HAD := Lib.hid hadb; clear hadb
  have HFAR := Lib.hid hfar; clear hfar
  have m1 : l.length + 4 ≤ maxLen := by unfold maxLen; omega
  have m1' : (l.length + 4) * 1 ≤ 140737488355328 := by omega
  have m2 : l.length + 4 + 2 ≤ maxLen := by unfold maxLen; omega
  have m2' : (l.length + 4 + 2) * 1 ≤ 140737488355328 := by omega
  have m3 : l.length + 4 + 2 + 1 ≤ maxLen := by unfold maxLen; omega
  have m3' : (l.length + 4 + 2 + 1) * 1 ≤ 140737488355328 := by omega
  have m4 : l.length + 4 + 2 + 1 + s.length ≤ maxLen := by unfold maxLen; omega
  have m4' : (l.length + 4 + 2 + 1 + s.length) * 1 ≤ 140737488355328 := by omega
  go_enter Try.func21, Try.ntmps21
  go_wp2_with (first
    | (go_at_call 27; refine S.out.mono ?_; rintro e w1 ⟨rfl, g1⟩)
    | (go_at_call 26; refine (F4.out _ _ (by first | exact HU.out | (rw [← HU.out]; omega))).mono ?_; rintro e w2 ⟨ad1, cap1, rfl, o1, g2⟩; clear F4)
    | (go_at_call 26; refine (F2.out _ _ (by omega)).mono ?_; rintro e w3 ⟨ad2, cap2, rfl, o2, g3⟩; have h13 := (g1.trans g2).trans g3; have ho3 := ho.gr h13; have hc1 := (o1.gr g3).bytes; have hc2 := o2.bytes; have hbs := hb.gr h13; have T0 := AppTo.refl w3 adb; have hB3 : B ≤ w3.heap.size := Nat.le_trans hB h13.size; have far2 : ∀ a, ad2 = some a → some a.block ≠ adb.map (·.block) := far_new HAD.out o2 (Nat.le_trans g1.size g2.size))
    | (at_builtin; go_must (first
      | (refine wp_append elemB rfl _ _ rfl rfl ho3 rfl (Src.bytes hc1 c4 Try.underlying22) m1 m1' hB3 ?_; intro ad3 cap3 w4 o4 k4 f4; have T1 := T0.step k4 f4; have hc2' := T1.bytes hc2 (fun _ => far2); have hB4 := Nat.le_trans hB3 k4.size; clear ho3 hc1)
      | (refine wp_append elemB rfl _ _ rfl rfl o4 rfl (Src.bytes hc2' c2 Try.underlying22) m2 m2' hB4 ?_; intro ad4 cap4 w5 o5 k5 f5; have T2 := (T1.step k5 f5).gr (Gr.alloc _ (.cells #[.int .u8 (k.toNat : Int)] 5)); have o5' := o5.gr (Gr.alloc _ (.cells #[.int .u8 (k.toNat : Int)] 5)); have hB5 := Nat.le_trans hB4 k5.size; clear o4 hc2')
      | (refine wp_append elemB rfl _ _ rfl rfl o5' rfl (Src.one _ _ k rfl Try.underlying22) m3 m3' (Nat.le_trans hB5 (Gr.alloc _ _).size) ?_; intro ad5 cap5 w6 o6 k6 f6; have T3 := T2.step k6 f6; have hbs' := T3.bytes hbs HFAR.out; have hB6 := Nat.le_trans hB5 (Nat.le_trans (Gr.alloc _ _).size k6.size); clear o5')
      | (refine wp_append elemB rfl _ _ rfl rfl o6 rfl (Src.bytes hbs' rfl Try.underlying22) m4 m4' hB6 ?_; intro ad6 cap6 w7 o7 k7 f7; have T4 := T3.step k7 f7))))
  go_ret
  have hlen : (l ++ pieceF k s).length = l.length + 4 + 2 + 1 + s.length := by rw [HP.out]; simp [c4, c2]; omega
  refine ⟨ad6, cap6, by rw [hlen]; rfl, ?_, T4.back h13⟩
  rw [hlen, HP.out]
  have : bv (l ++ (x4 ++ (x2 ++ k :: s))) = bv l ++ bv x4 ++ bv x2 ++ bv [k] ++ bv s := by simp [bv]
  rw [this]
  exact o7
end Go.Proofs.Ytmjhffohfppnaaa
