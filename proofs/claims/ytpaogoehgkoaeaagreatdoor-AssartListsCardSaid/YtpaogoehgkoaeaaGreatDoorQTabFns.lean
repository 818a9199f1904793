/- Layer 14 (table): fixed, part, number, cut, pair walked. -/
import Derived.Test.YtpaogoehgkoaeaaGreatDoorQTabMath
import Derived.Test.YtpaogoehgkoaeaaGreatDoorQBunB2
import Derived.Test.YtpaogoehgkoaeaaGreatDoorQBunB3
import Derived.Test.YtpaogoehgkoaeaaGreatDoorQBunB1
namespace Go.Proofs.YtpaogoehgkoaeaaGreatDoor
set_option linter.unusedVariables false
set_option linter.unusedSimpArgs false
open Go.RowKit Tab
theorem markF_lt (s : List UInt8) : markF s < 4294967296 := by unfold markF; exact (Crc.maskF (Crc.sumF s)).isLt
theorem U_mark (s : List UInt8) : U (Crc.maskF (Crc.sumF s)) = (markF s : Int) := by unfold U markF; rfl
theorem partB_len (s : List UInt8) : (partB s).length = s.length + 4 := by unfold partB; rw [List.length_append, Varint.bytesN_len]
set_option maxRecDepth 100000 in
theorem tfixed_any (B : Nat) (adb : Option Addr) (capb : Nat) (l : List UInt8) (X : Int) (n : Nat) (w : World) (hX : X = (n : Int)) (ho : Owns w B 5 1 adb capb l.length (bv l)) (hB : B ≤ w.heap.size) (hn : n < 4294967296) (hl : l.length ≤ 70368744177664) :
    Calls Tryz.prog 97 #[.slice adb l.length capb, .int .i64 X] w (RetApp B 5 adb w (l ++ Varint.bytesN 4 n)) := by
  subst hX
  have HF := Lib.hid (fun w X hX => Fixed_at X n 4 4 w hX rfl (by decide) hn)
  have hbl := Varint.bytesN_len 4 n
  have m1 : l.length + (Varint.bytesN 4 n).length ≤ maxLen := by unfold maxLen; omega
  have m1' : (l.length + (Varint.bytesN 4 n).length) * 1 ≤ 140737488355328 := by omega
  have e1 : IntKind.u32.wrap (n : Int) = (n : Int) := by rw [IntKind.wrap_u32]; omega
  have e2 : IntKind.u64.wrap (n : Int) = (n : Int) := by rw [IntKind.wrap_u64]; omega
  generalize Varint.bytesN 4 n = x at *
  clear hbl
  go_enter Tryz.func97, Tryz.ntmps97
  go_wp2_with (first
    | (go_at_call 63; refine (HF.out _ _ (by simp)).mono ?_; rintro e w1 ⟨ad1, c1, rfl, o1, g1⟩; have ho1 := ho.gr g1; have hB1 := Nat.le_trans hB g1.size)
    | (at_builtin; refine wp_append elemB rfl _ _ rfl rfl ho1 rfl (Src.bytes o1.bytes rfl Tryz.underlying31) m1 m1' hB1 ?_; intro ad2 c2 w2 o2 k2 f2))
  go_ret
  refine ⟨ad2, c2, by rw [List.length_append]; rfl, by rw [List.length_append, bv_append]; exact o2, AppTo.back g1 ((AppTo.refl w1 adb).step k2 f2)⟩
set_option maxRecDepth 100000 in
theorem part_any (B : Nat) (adb : Option Addr) (capb : Nat) (l : List UInt8) (ads : Option Addr) (caps : Nat) (s : List UInt8) (w : World) (ho : Owns w B 5 1 adb capb l.length (bv l)) (hB : B ≤ w.heap.size)
    (hs : s.length ≤ 35184372088832) (hl : l.length ≤ 35184372088832) (hb : Bytes w ads s) (hfar : 0 < s.length → ∀ a, ads = some a → some a.block ≠ adb.map (·.block)) :
    Calls Tryz.prog 96 #[.slice adb l.length capb, .slice ads s.length caps] w (RetApp B 5 adb w (l ++ partB s)) := by
  have hsm : s.length ≤ maxLen := by unfold maxLen; omega
  have S := Lib.hid (fun w' h => sum_any ads s.length caps s w' rfl hsm h)
  have M := Lib.hid (fun w' => mask_any (Crc.sumF s) w')
  have m1 : l.length + s.length ≤ maxLen := by unfold maxLen; omega
  have m1' : (l.length + s.length) * 1 ≤ 140737488355328 := by omega
  have hmk := markF_lt s
  have hu := U_mark s
  have e1 : IntKind.i64.wrap (U (Crc.maskF (Crc.sumF s))) = (markF s : Int) := by rw [hu, IntKind.wrap_i64]; omega
  have HF := Lib.hid (fun (ad : Option Addr) (cap : Nat) (w' : World) (h1 : Owns w' B 5 1 ad cap (l ++ s).length (bv (l ++ s))) (h2 : B ≤ w'.heap.size) => tfixed_any B ad cap (l ++ s) (markF s : Int) (markF s) w' rfl h1 h2 hmk (by rw [List.length_append]; omega))
  have HP := Lib.hid (show l ++ partB s = l ++ s ++ Varint.bytesN 4 (markF s) by unfold partB; simp)
  rw [List.length_append] at HF
  have HFAR := Lib.hid hfar
  have HBS := Lib.hid hb
  generalize markF s = m at *
  generalize U (Crc.maskF (Crc.sumF s)) = um at *
  generalize U (Crc.sumF s) = us at *
  clear hu hfar hb
  go_enter Tryz.func96, Tryz.ntmps96
  go_wp2_with (first
    | (at_builtin; refine wp_append elemB rfl _ _ rfl rfl ho rfl (Src.bytes HBS.out rfl Tryz.underlying31) m1 m1' hB ?_; intro ad2 c2 w2 o2 k2 f2; rw [← bv_append] at o2; have T1 := (AppTo.refl w adb).step k2 f2; have hbs2 := T1.bytes HBS.out HFAR.out)
    | (go_at_call 99; refine (S.out _ hbs2).mono ?_; rintro e w' ⟨rfl, rfl⟩)
    | (go_at_call 98; refine (M.out _).mono ?_; rintro e w' ⟨rfl, rfl⟩)
    | (go_at_call 97; refine (HF.out _ _ _ o2 (Nat.le_trans hB k2.size)).mono ?_; rintro e w3 ⟨ad3, c3, rfl, o3, T3⟩))
  go_ret
  exact ⟨ad3, c3, by rw [HP.out]; simp, by rw [HP.out]; exact o3, T1.step T3.1 T3.2⟩
theorem numF_lt (l : List UInt8) (at_ : Nat) : numF l at_ < 4294967296 := by
  have h := Varint.le_lt ((l.drop at_).take 4)
  have h5 : 256 ^ ((l.drop at_).take 4).length ≤ 256 ^ 4 := Nat.pow_le_pow_right (by decide) (by rw [List.length_take]; omega)
  unfold numF
  omega
set_option maxRecDepth 100000 in
theorem tnumber_any (b o cap at_ : Nat) (l : List UInt8) (X : Int) (w : World) (hX : X = (at_ : Int)) (h4 : at_ + 4 ≤ l.length) (hc : l.length ≤ cap) (hl : l.length ≤ 1000000000) (hb : Bytes w (some ⟨b, o, none⟩) l) :
    Calls Tryz.prog 47 #[.slice (some ⟨b, o, none⟩) l.length cap, .int .i64 X] w fun e w' => e = .returned (.int .i64 (numF l at_ : Nat)) ∧ w = w' := by
  subst hX
  have HW := Lib.hid (fun c => Whole_any (some ⟨b, o + at_, none⟩) 4 c ((l.drop at_).take 4) w (by simp; omega) (by unfold maxLen; omega) ((hb.drop at_).take 4))
  have e : Varint.wholeF ((l.drop at_).take 4) = (numF l at_, 0) := by unfold Varint.wholeF numF; rw [if_neg (by rw [List.length_take]; omega)]
  rw [e] at HW
  have hlt := numF_lt l at_
  have hne : ¬ cap = at_ := by omega
  have e3 : IntKind.i64.wrap (numF l at_ : Int) = (numF l at_ : Int) := by rw [IntKind.wrap_i64]; omega
  generalize numF l at_ = x at *
  clear e hb
  go_enter Tryz.func47, Tryz.ntmps47
  go_wp2_with (go_at_call 100; refine (HW.out _).mono ?_; rintro e w' ⟨rfl, rfl⟩)
  go_ret
  exact ⟨rfl, rfl⟩
set_option maxRecDepth 100000 in
theorem cut_some (b o cap off n : Nat) (l s : List UInt8) (w : World) (hc : l.length ≤ cap) (hl : l.length ≤ 1000000000) (hb : Bytes w (some ⟨b, o, none⟩) l) (h : cutF l off n = some s) :
    Calls Tryz.prog 46 #[.slice (some ⟨b, o, none⟩) l.length cap, .int .i64 (off : Int), .int .i64 (n : Int)] w fun e w' => e = .returned (.tuple #[.slice (some ⟨b, o + off, none⟩) s.length (cap - off), .bool true]) ∧ w = w' := by
  unfold cutF at h
  by_cases hlt : l.length < off + n + 4
  · rw [if_pos hlt] at h; cases h
  · rw [if_neg hlt] at h
    by_cases hm : numF l (off + n) = markF ((l.drop off).take n)
    · rw [if_pos hm] at h
      obtain rfl := Option.some.inj h
      have hsl : ((l.drop off).take n).length = n := by rw [List.length_take, List.length_drop]; omega
      have HN := Lib.hid (fun (X : Int) hX => tnumber_any b o cap (off + n) l X w hX (by omega) hc hl hb)
      have HS := Lib.hid (sum_any (some ⟨b, o + off, none⟩) n (cap - off) ((l.drop off).take n) w hsl (by unfold maxLen; omega) ((hb.drop off).take n))
      have HM := Lib.hid (mask_any (Crc.sumF ((l.drop off).take n)) w)
      have hu := U_mark ((l.drop off).take n)
      have hk := markF_lt ((l.drop off).take n)
      have e1 : IntKind.i64.wrap (U (Crc.maskF (Crc.sumF ((l.drop off).take n)))) = (markF ((l.drop off).take n) : Int) := by rw [hu, IntKind.wrap_i64]; omega
      rw [hm] at HN
      rw [hsl]
      have hne : ¬ cap = off := by omega
      have d1 : ¬ (l.length : Int) < (off : Int) := by omega
      have hw1 : IntKind.i64.wrap ((l.length : Int) - (off : Int)) = (l.length : Int) - (off : Int) := by rw [IntKind.wrap_i64]; omega
      have hw2 : IntKind.i64.wrap ((l.length : Int) - (off : Int) - 4) = (l.length : Int) - (off : Int) - 4 := by rw [IntKind.wrap_i64]; omega
      generalize markF ((l.drop off).take n) = m at *
      generalize U (Crc.maskF (Crc.sumF ((l.drop off).take n))) = um at *
      generalize U (Crc.sumF ((l.drop off).take n)) = us at *
      clear hu hm h hb hsl
      go_enter Tryz.func46, Tryz.ntmps46
      go_wp2_with (first
        | (go_at_call 47; refine (HN.out _ (by omega)).mono ?_; rintro e w' ⟨rfl, rfl⟩)
        | (go_at_call 99; refine HS.out.mono ?_; rintro e w' ⟨rfl, rfl⟩)
        | (go_at_call 98; refine HM.out.mono ?_; rintro e w' ⟨rfl, rfl⟩))
      go_ret2
      exact ⟨rfl, rfl⟩
    · rw [if_neg hm] at h; cases h
set_option maxRecDepth 100000 in
theorem cut_none (b o cap off n : Nat) (l : List UInt8) (w : World) (hc : l.length ≤ cap) (hl : l.length ≤ 1000000000) (ho : off < 4294967296) (hn : n < 4294967296) (hb : Bytes w (some ⟨b, o, none⟩) l) (h : cutF l off n = none) :
    Calls Tryz.prog 46 #[.slice (some ⟨b, o, none⟩) l.length cap, .int .i64 (off : Int), .int .i64 (n : Int)] w fun e w' => ∃ ad m c, e = .returned (.tuple #[.slice ad m c, .bool false]) ∧ w = w' := by
  unfold cutF at h
  by_cases hlt : l.length < off + n + 4
  · clear h hb
    by_cases ho2 : l.length < off
    · go_enter Tryz.func46, Tryz.ntmps46
      go_wp2
      go_ret2
      exact ⟨_, _, _, rfl, rfl⟩
    · have d1 : decide ((l.length : Int) - (off : Int) - 4 < (n : Int)) = true := decide_eq_true (by omega)
      have hw1 : IntKind.i64.wrap ((l.length : Int) - (off : Int)) = (l.length : Int) - (off : Int) := by rw [IntKind.wrap_i64]; omega
      have hw2 : IntKind.i64.wrap ((l.length : Int) - (off : Int) - 4) = (l.length : Int) - (off : Int) - 4 := by rw [IntKind.wrap_i64]; omega
      go_enter Tryz.func46, Tryz.ntmps46
      go_wp2
      go_ret2
      exact ⟨_, _, _, rfl, rfl⟩
  · rw [if_neg hlt] at h
    by_cases hm : numF l (off + n) = markF ((l.drop off).take n)
    · rw [if_pos hm] at h; cases h
    · have hsl : ((l.drop off).take n).length = n := by rw [List.length_take, List.length_drop]; omega
      have HN := Lib.hid (fun (X : Int) hX => tnumber_any b o cap (off + n) l X w hX (by omega) hc hl hb)
      have HS := Lib.hid (sum_any (some ⟨b, o + off, none⟩) n (cap - off) ((l.drop off).take n) w hsl (by unfold maxLen; omega) ((hb.drop off).take n))
      have HM := Lib.hid (mask_any (Crc.sumF ((l.drop off).take n)) w)
      have hu := U_mark ((l.drop off).take n)
      have hk := markF_lt ((l.drop off).take n)
      have e1 : IntKind.i64.wrap (U (Crc.maskF (Crc.sumF ((l.drop off).take n)))) = (markF ((l.drop off).take n) : Int) := by rw [hu, IntKind.wrap_i64]; omega
      have e2 : ((numF l (off + n) : Int) == (markF ((l.drop off).take n) : Int)) = false := by simp; omega
      have hne : ¬ cap = off := by omega
      have d1 : ¬ (l.length : Int) < (off : Int) := by omega
      have hw1 : IntKind.i64.wrap ((l.length : Int) - (off : Int)) = (l.length : Int) - (off : Int) := by rw [IntKind.wrap_i64]; omega
      have hw2 : IntKind.i64.wrap ((l.length : Int) - (off : Int) - 4) = (l.length : Int) - (off : Int) - 4 := by rw [IntKind.wrap_i64]; omega
      generalize markF ((l.drop off).take n) = m at *
      generalize U (Crc.maskF (Crc.sumF ((l.drop off).take n))) = um at *
      generalize U (Crc.sumF ((l.drop off).take n)) = us at *
      generalize numF l (off + n) = x at *
      clear hu hm h hb hsl
      go_enter Tryz.func46, Tryz.ntmps46
      go_wp2_with (first
        | (go_at_call 47; refine (HN.out _ (by omega)).mono ?_; rintro e w' ⟨rfl, rfl⟩)
        | (go_at_call 99; refine HS.out.mono ?_; rintro e w' ⟨rfl, rfl⟩)
        | (go_at_call 98; refine HM.out.mono ?_; rintro e w' ⟨rfl, rfl⟩))
      go_ret2
      exact ⟨_, _, _, rfl, rfl⟩
end Go.Proofs.YtpaogoehgkoaeaaGreatDoor
