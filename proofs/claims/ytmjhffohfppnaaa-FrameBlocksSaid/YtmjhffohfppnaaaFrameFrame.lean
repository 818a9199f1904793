/- Layer 8 (frame): Frame. -/
import Derived.Test.YtmjhffohfppnaaaFrameSum
import Derived.Test.YtmjhffohfppnaaaAnyT
namespace Go.Proofs.Ytmjhffohfppnaaa
set_option linter.unusedVariables false
set_option linter.unusedSimpArgs false
open Go.RowKit Fr
def lenOfV : Value → Nat
  | .slice _ n _ => n
  | _ => 0
def oneOf : Value → Nat
  | .bool true => 1
  | _ => 0
@[go_sem] theorem lenOfV_slice (ad : Option Addr) (n c : Nat) : lenOfV (.slice ad n c) = n := rfl
theorem piece_at (B : Nat) (adb : Option Addr) (capb : Nat) (l : List UInt8) (k : UInt8) (ads : Option Addr) (caps : Nat) (s : List UInt8) (n : Nat) (w : World) (hn : n = s.length) (ho : Owns w B 5 1 adb capb l.length (bv l)) (hB : B ≤ w.heap.size)
    (hs : s.length ≤ 128) (hl : l.length ≤ 70368744177664) (hb : Bytes w ads s) (hfar : 0 < s.length → ∀ a, ads = some a → some a.block ≠ adb.map (·.block)) :
    Calls Try.prog 21 #[.slice adb l.length capb, .int .u8 (k.toNat : Int), .slice ads n caps] w (RetApp B 5 adb w (l ++ pieceF k s)) := by
  subst hn; exact piece_any B adb capb l k ads caps s w ho hB hs hl hb hfar
theorem Room_at (X : Int) (a : Nat) (w : World) (hX : X = (a : Int)) (ha : a ≤ 9223372036854775807) : Calls Try.prog 13 #[.int .i64 X] w fun e w' => e = .returned (.int .i64 (roomF a : Nat)) ∧ w = w' := by
  subst hX; exact Room_any a w ha
set_option maxRecDepth 100000 in
theorem Frame_neg (a : Int) (ad : Option Addr) (len cap : Nat) (w : World) (h1 : -9223372036854775808 ≤ a) (ha : a < 0) : Calls Try.prog 12 #[.int .i64 a, .slice ad len cap] w (RetBE 5 w [] 1) := by
  go_enter Try.func12, Try.ntmps12
  go_wp2
  go_ret2
  exact ⟨none, 0, rfl, Owns.empty _ _ _ _, Gr.refl _⟩
set_option maxRecDepth 100000 in
set_option maxHeartbeats 4000000 in
theorem Frame_any (a : Nat) (ad : Option Addr) (cap : Nat) (r : List UInt8) (w : World) (ha : a ≤ 9223372036854775807) (hl : r.length ≤ 1000000) (hc : r.length ≤ cap) (hm : cap ≤ maxLen) (hb : Bytes w ad r) :
    Calls Try.prog 12 #[.int .i64 (a : Int), .slice ad r.length cap] w (RetBE 5 w (frameF a r) 0) := by
  have hmx : maxLen ≤ 9223372036854775807 := by decide
  have HST := Lib.hid (frameF_start a r)
  have HLN := frameF_len a r
  have ha0 : a % 128 < 128 := Nat.mod_lt _ (by decide)
  have hA : (a : Int) % 128 = ((a % 128 : Nat) : Int) := by omega
  generalize a % 128 = a0 at *
  have hp6 : padF a0 ≤ 6 := by unfold padF; split <;> omega
  have HPD := Lib.hid (fun w => pad_any a0 w (by omega))
  have HPT := Lib.hid (pad_twice a0)
  generalize hp : padF a0 = p at *
  have HP := Lib.hid hp; clear hp
  have HFR := Lib.hid (rfl : frameF a r = frameF a r)
  generalize frameF a r = out at *
  go_enter Try.func12, Try.ntmps12
  go_wp2_with (first
    | (go_at_call 20; refine (HPD.out _).mono ?_; rintro e w1 ⟨rfl, rfl⟩)
    | (at_make; go_must (refine wp_make elemB rfl rfl _ _ rfl p p rfl rfl rfl rfl (Nat.le_refl _) (by unfold maxLen; omega) (by omega) ?_); intro w1 o1 g1 s1))
  rw [bv_replicate] at o1
  have hrl : (List.replicate p (0 : UInt8)).length = p := by simp
  go_loopw [1, 6, 7, 8, 9] (fun rv bv_ bg _ _ wr => ∃ (acc r' : List UInt8) (bg' : Bool) (adr adb : Option Addr) (capr capb : Nat), rv = .slice adr r'.length capr ∧ bv_ = .slice adb acc.length capb ∧ bg = .bool bg' ∧ r'.length ≤ capr ∧ capr ≤ maxLen ∧ Bytes w adr r' ∧
    Owns wr w.heap.size 5 1 adb capb acc.length (bv acc) ∧ Gr w wr ∧ out = acc ++ layF bg' (a0 + acc.length) r' ∧ padF (a0 + acc.length) = 0 ∧ (bg' = false → roomF (a0 + acc.length) = 121) ∧ r'.length ≤ r.length) (fun rv _ bg _ _ _ => lenOfV rv + oneOf bg)
  case atStart => exact ⟨List.replicate p 0, r, true, ad, _, cap, p, rfl, by rw [hrl], rfl, hc, hm, hb, by rw [hrl]; exact o1, g1, by rw [hrl]; exact HST.out, by rw [hrl]; exact HPT.out, (fun h => by cases h), Nat.le_refl _⟩
  case round =>
    obtain ⟨acc, r', bg', adr, adb, capr, capb, rfl, rfl, rfl, hc2, hm2, hb2, ho, hgw, hout, hpd, hrm, hrl2⟩ := hrel
    have hal : acc.length ≤ out.length := by rw [hout]; simp
    have hB := hgw.size
    have hfar : 0 < r'.length → ∀ x, adr = some x → some x.block ≠ adb.map (·.block) := by
      intro h0 x hx e
      obtain ⟨b, off, e1, hcell⟩ := hb2 0 h0
      rw [e1] at hx
      cases hx
      cases adb with
      | none => cases e
      | some y =>
        have h1 := (ho.lt y rfl).1
        have h2 := World.block_lt_of_cell? w _ hcell
        simp only [Option.map_some, Option.some.injEq] at e
        simp only at h2
        omega
    have HROOM := Lib.hid (fun w X (hX : X = ((a0 + acc.length : Nat) : Int)) => Room_at X (a0 + acc.length) w hX (by omega))
    have hr121 : roomF (a0 + acc.length) ≤ 121 := by
      have := (pad_room _ hpd).2
      have := left_pos (a0 + acc.length)
      omega
    have HO := Lib.hid hout; have HPP := Lib.hid hpd; have HRM := Lib.hid hrm
    have HFA := Lib.hid hfar
    clear hout hpd hrm hfar
    by_cases hE : r'.length ≤ roomF (a0 + acc.length)
    · have HE := Lib.hid (layF_end (bg := bg') hE)
      generalize hrr : roomF (a0 + acc.length) = room at *
      have HRR := Lib.hid hrr; clear hrr
      have HPC := Lib.hid (fun w' ho hB hb => piece_any w.heap.size adb capb acc (kindF bg' true) adr capr r' w' ho hB (by omega) (by omega) hb HFA.out)
      have HKD := Lib.hid (fun w => kind_any bg' true w)
      have hmin : min (room : Int) (r'.length : Int) = (r'.length : Int) := by omega
      go_wp2_with (first | (go_at_call 13; refine (HROOM.out _ _ (by omega)).mono ?_; rintro e w3 ⟨rfl, rfl⟩))
      refine region_tail_gr 7 _ [Is (.slice adb acc.length capb), Is (.bool bg'), Is (.bool true), Is (.int .u8 ((kindF bg' true).toNat : Int)), Is (.slice adr r'.length capr), Is (.int .i64 (r'.length : Int)), Is (.slice adr r'.length capr)] (by kernel_rfl) (by kernel_rfl) (by kernel_rfl) (by kernel_rfl) rfl rfl ⟨Is.stable _, Is.stable _, Is.stable _, Is.stable _, Is.stable _, Is.stable _, Is.stable _, trivial⟩ ⟨?s0, ?s1, ?s2, ?s3, ?s4, ?s5, ?s6, trivial⟩ ?fin
      case' s0 | s1 | s2 | s3 | s4 | s5 | s6 =>
        intro ρ wr hρ hg hK
        simp [readsOf, slotsOf, Op.operands, Call.operands, tmpOf, List.filterMap_cons, List.filterMap_nil, KnownAll, knownOf, srcOf, depsOf, dstOf, Region.binds, nth, Is] at hK
        obtain ⟨hc, hf, hgl⟩ := hρ
        try simp only [wantedBy, dstOf, boolOf, nth, List.getD_cons_zero, List.getD_cons_succ, List.getElem?_cons_zero, List.getElem?_cons_succ, Option.bind_some, if_true, hK, BEq.rfl]
        try go_simp
        first | exact rfl | (rw [if_pos (by omega)]; exact is_here rfl) | (rw [dif_pos (by omega)]; exact is_here rfl) | exact congrArg (Value.int _) (IntWalk.i64_in _ ⟨by omega, by omega⟩) | skip
      case s3 => exact any_same (HKD.out _)
      case fin =>
        intro w1 val hg hH
        simp only [Holds, Is, Nat.zero_add, Nat.reduceAdd] at hH
        obtain ⟨h0, h1, h2, h3, h4, h5, h6, _⟩ := hH
        simp only [List.take_succ_cons, List.take_zero, List.drop_succ_cons, List.drop_zero, putAll, h0, h1, h2, h3, h4, h5, h6, Nat.zero_add, Nat.reduceAdd]
        go_simp
        go_wp2_with (go_at_call 21; refine (HPC.out _ (ho.gr hg) (Nat.le_trans hB hg.size) (hb2.gr (hgw.trans hg))).mono ?_; rintro e w5 ⟨ad5, cap5, rfl, o5, t5⟩)
        go_ret2
        refine ⟨ad5, cap5, ?_, ?_, (hgw.trans hg).grown t5.1 (fun g e => ?_)⟩
        · rw [HO.out, HE.out, List.length_append]; rfl
        · rw [HO.out, HE.out]; exact o5
        · cases adb with
          | none => cases e
          | some y => cases e; exact (ho.lt y rfl).1
    · have hlt : roomF (a0 + acc.length) < r'.length := by omega
      have HE := Lib.hid (layF_on (bg := bg') HPP.out hlt)
      have HNX := Lib.hid (pad_next (a0 + acc.length) HPP.out)
      generalize hrr : roomF (a0 + acc.length) = room at *
      have HRR := Lib.hid hrr; clear hrr
      obtain ⟨b, off, rfl⟩ : ∃ b off, adr = some ⟨b, off, .none⟩ := let ⟨x, y, e, _⟩ := hb2 0 (by omega); ⟨x, y, e⟩
      have htl : (r'.take room).length = room := by simp; omega
      have HTL := Lib.hid htl; clear htl
      have HPC := Lib.hid (fun w' ho hB hb (n : Nat) (hn : n = (r'.take room).length) => piece_at w.heap.size adb capb acc (kindF bg' false) (some ⟨b, off, .none⟩) capr (r'.take room) n w' hn ho hB (by have := HTL.out; omega) (by omega) hb (fun h => HFA.out (by omega)))
      have HKD := Lib.hid (fun w => kind_any bg' false w)
      have hmin : min (room : Int) (r'.length : Int) = (room : Int) := by omega
      have hne : ((room : Int) == (r'.length : Int)) = false := by rw [beq_eq_false_iff_ne]; omega
      have hcr : room < capr := by omega
      go_wp2_with (first | (go_at_call 13; refine (HROOM.out _ _ (by omega)).mono ?_; rintro e w3 ⟨rfl, rfl⟩))
      refine region_tail_gr 7 _ [Is (.slice adb acc.length capb), Is (.bool bg'), Is (.bool false), Is (.int .u8 ((kindF bg' false).toNat : Int)), Is (.slice (some ⟨b, off, .none⟩) r'.length capr), Is (.int .i64 (room : Int)), Is (.slice (some ⟨b, off, .none⟩) room capr)] (by kernel_rfl) (by kernel_rfl) (by kernel_rfl) (by kernel_rfl) rfl rfl ⟨Is.stable _, Is.stable _, Is.stable _, Is.stable _, Is.stable _, Is.stable _, Is.stable _, trivial⟩ ⟨?s0x1, ?s1x1, ?s2x1, ?s3x1, ?s4x1, ?s5x1, ?s6x1, trivial⟩ ?finx1
      case' s0x1 | s1x1 | s2x1 | s3x1 | s4x1 | s5x1 | s6x1 =>
        intro ρ wr hρ hg hK
        simp [readsOf, slotsOf, Op.operands, Call.operands, tmpOf, List.filterMap_cons, List.filterMap_nil, KnownAll, knownOf, srcOf, depsOf, dstOf, Region.binds, nth, Is] at hK
        obtain ⟨hc, hf, hgl⟩ := hρ
        try simp only [wantedBy, dstOf, boolOf, nth, List.getD_cons_zero, List.getD_cons_succ, List.getElem?_cons_zero, List.getElem?_cons_succ, Option.bind_some, if_true, hK, BEq.rfl]
        try go_simp
        first | exact rfl | (rw [if_pos (by omega)]; exact is_here rfl) | (rw [dif_pos (by omega)]; exact is_here rfl) | exact congrArg (Value.int _) (IntWalk.i64_in _ ⟨by omega, by omega⟩) | skip
      case s3x1 => exact any_same (HKD.out _)
      case finx1 =>
        intro w1 val hg hH
        simp only [Holds, Is, Nat.zero_add, Nat.reduceAdd] at hH
        obtain ⟨h0, h1, h2, h3, h4, h5, h6, _⟩ := hH
        simp only [List.take_succ_cons, List.take_zero, List.drop_succ_cons, List.drop_zero, putAll, h0, h1, h2, h3, h4, h5, h6, Nat.zero_add, Nat.reduceAdd]
        go_simp
        go_wp2_with (go_at_call 21; refine (HPC.out _ (ho.gr hg) (Nat.le_trans hB hg.size) ((hb2.gr (hgw.trans hg)).take room) _ HTL.out.symm).mono ?_; rintro e w5 ⟨ad5, cap5, rfl, o5, t5⟩)
        go_roundw
        case rel =>
          have hgw5 : Gr w w5 := (hgw.trans hg).grown t5.1 (fun g e => by
            cases adb with
            | none => cases e
            | some y => cases e; exact (ho.lt y rfl).1)
          have hlen : (acc ++ pieceF (kindF bg' false) (r'.take room)).length = acc.length + (7 + room) := by rw [List.length_append, pieceF_len, HTL.out]
          have hnx := pad_of_mod _ HNX.out
          have hpos : a0 + (acc ++ pieceF (kindF bg' false) (r'.take room)).length = a0 + acc.length + 7 + room := by rw [hlen]; omega
          refine ⟨acc ++ pieceF (kindF bg' false) (r'.take room), r'.drop room, false, some ⟨b, off + room, .none⟩, ad5, capr - room, cap5, by rw [List.length_drop], by rw [List.length_append], rfl, by rw [List.length_drop]; omega, by omega, hb2.drop room, o5, hgw5, ?_, ?_, ?_, by rw [List.length_drop]; omega⟩
          · rw [HO.out, HE.out, hpos, List.append_assoc]
          · rw [hpos]; exact hnx.1
          · rw [hpos]; exact fun _ => hnx.2
        case measure =>
          have := HRM.out
          cases bg' with
          | true => simp [lenOfV, oneOf]; omega
          | false => have := this rfl; simp [lenOfV, oneOf]; omega
theorem Frame_at (a : Nat) (ad : Option Addr) (cap : Nat) (r : List UInt8) (n : Nat) (w : World) (ha : a ≤ 9223372036854775807) (hn : n = r.length) (hl : r.length ≤ 1000000) (hc : r.length ≤ cap) (hm : cap ≤ maxLen) (hb : Bytes w ad r) :
    Calls Try.prog 12 #[.int .i64 (a : Int), .slice ad n cap] w (RetBE 5 w (frameF a r) 0) := by
  subst hn; exact Frame_any a ad cap r w ha hl hc hm hb
end Go.Proofs.Ytmjhffohfppnaaa
