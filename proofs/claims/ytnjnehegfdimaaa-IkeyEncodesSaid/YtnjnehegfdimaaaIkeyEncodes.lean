/- Layer 5 (ikey): IkeyEncodes answers true. -/
import Derived.Test.YtnjnehegfdimaaaIkeyRef
namespace Go.Proofs.Ytnjnehegfdimaaa
set_option linter.unusedVariables false
set_option linter.unusedSimpArgs false
open Go.RowKit Ikey Varint
open Go.Op (bytesLess)
set_option maxRecDepth 100000 in
set_option maxHeartbeats 4000000 in
theorem IkeyEncodes_yes (k : List UInt8) (s d : Nat) (ad : Option Addr) (cap : Nat) (l : List UInt8) (w : World) (hok : okV k s d = true) (hlc : l.length ≤ cap) (hm : l.length ≤ maxLen) (hb : Bytes w ad l) :
    Calls Try.prog 5 #[ver k s d, .slice ad l.length cap] w fun e w' => e = .returned (.bool true) ∧ Gr w w' := by
  have HRE := Lib.hid (fun w => rDocEncode_yes k s d w hok)
  have HE := Lib.hid (fun w => Encode_yes k s d w hok)
  have HRD := Lib.hid (fun w => rDocDecode_any l w hm)
  have HD := Lib.hid (fun w hb => Decode_any ad cap l w hlc hm hb)
  have HC := Lib.hid (fun w => Check_any k s d w)
  have HR := Lib.hid (fun w => rRight_any k s d w)
  rw [chk_yes hok] at HC
  rw [hok] at HR
  rw [outV_eq] at HRD HD
  unfold ver at HRE HE HC HR ⊢
  generalize verO (decF l) = V at *
  generalize errO (decF l) = N at *
  generalize encF k s d = E at *
  clear hok
  have HH := Lib.hid hb; clear hb
  go_enter Try.func5, Try.ntmps5
  go_wp2_with (first
    | (go_at_call 9; (with_reducible refine (HRE.out _).mono ?_); rintro e w1 ⟨rfl, g1⟩; obtain ⟨c0, c1, c2⟩ := g1.box3; have G1 := (Gr.alloc _ _).trans g1)
    | (go_at_call 10; (with_reducible refine (HE.out _).mono ?_); rintro e w2 ⟨ady, capy, rfl, oy, g2⟩; have G2 := G1.trans g2; have hs := run_string (P := Try.prog) Try.underlying28 Try.underlying5 Try.underlying9 (cap := cap) rfl (HH.out.gr G2))
    | (go_at_call 11; (with_reducible refine (HRD.out _).mono ?_); rintro e w3 ⟨rfl, g3⟩; have G3 := G2.trans g3)
    | (go_at_call 12; (with_reducible refine (HD.out _ (HH.out.gr (G3.trans (Gr.alloc _ _)))).mono ?_); rintro e w4 ⟨rfl, g4⟩))
  refine region_any_gr _ [Is (.bool true), Is ?r1, Is ?r2, Is ?r3, Is (.string (str E)), Is (.bool true), Is ?r6, Is ?r7, Is ?r8, Is ?r9, Is (.bool true), Is ?r11, Is ?r12, Is (.agg #[.string (str V.1), .int .i64 (V.2.1 : Int), .int .i64 (V.2.2 : Int)]), Is (.agg #[.string (str V.1), .int .i64 (V.2.1 : Int), .int .i64 (V.2.2 : Int)]), Is (.bool true), Is ?r16, Is ?r17, Is ?r18, Is ?r19, Is (.bool true), Is ?r21, Is ?r22, Is (.agg #[.string (str k), .int .i64 (s : Int), .int .i64 (d : Int)]), Is (.int .i64 0), Is (.bool true), Is (.agg #[.string (str k), .int .i64 (s : Int), .int .i64 (d : Int)]), Is (.bool true), Is (.bool true), Is ?r29, Is ?r30, Is (.agg #[.string (str k), .int .i64 (s : Int), .int .i64 (d : Int)]), Is (.bool true), Is ?r33, Is ?r34, Is ?r35, Is ?r36, Is ?r37, Is ?r38, Is ?r39] (by kernel_rfl) (by kernel_rfl) (by kernel_rfl) rfl rfl ⟨Is.stable _, Is.stable _, Is.stable _, Is.stable _, Is.stable _, Is.stable _, Is.stable _, Is.stable _, Is.stable _, Is.stable _, Is.stable _, Is.stable _, Is.stable _, Is.stable _, Is.stable _, Is.stable _, Is.stable _, Is.stable _, Is.stable _, Is.stable _, Is.stable _, Is.stable _, Is.stable _, Is.stable _, Is.stable _, Is.stable _, Is.stable _, Is.stable _, Is.stable _, Is.stable _, Is.stable _, Is.stable _, Is.stable _, Is.stable _, Is.stable _, Is.stable _, Is.stable _, Is.stable _, Is.stable _, Is.stable _, trivial⟩ ⟨?s0, ?s1, ?s2, ?s3, ?s4, ?s5, ?s6, ?s7, ?s8, ?s9, ?s10, ?s11, ?s12, ?s13, ?s14, ?s15, ?s16, ?s17, ?s18, ?s19, ?s20, ?s21, ?s22, ?s23, ?s24, ?s25, ?s26, ?s27, ?s28, ?s29, ?s30, ?s31, ?s32, ?s33, ?s34, ?s35, ?s36, ?s37, ?s38, ?s39, trivial⟩ ?fin
  case' s0 | s1 | s2 | s3 | s4 | s5 | s6 | s7 | s8 | s9 | s10 | s11 | s12 | s13 | s14 | s15 | s16 | s17 | s18 | s19 | s20 | s21 | s22 | s23 | s24 | s25 | s26 | s27 | s28 | s29 | s30 | s31 | s32 | s33 | s34 | s35 | s36 | s37 | s38 | s39 =>
    intro ρ wr hρ hg hK
    simp [readsOf, slotsOf, Op.operands, Call.operands, tmpOf, List.filterMap_cons, List.filterMap_nil, KnownAll, knownOf, srcOf, depsOf, dstOf, Region.binds, nth, Is] at hK
    obtain ⟨hc, hf, hgl⟩ := hρ
    try simp only [wantedBy, dstOf, boolOf, nth, List.getD_cons_zero, List.getD_cons_succ, List.getElem?_cons_zero, List.getElem?_cons_succ, Option.bind_some, if_true, hK, BEq.rfl]
    try go_simp
    first | exact rfl | (rw [if_pos (by omega)]; exact is_here rfl) | (rw [dif_pos (by omega)]; exact is_here rfl) | exact congrArg (Value.int _) (IntWalk.i64_in _ ⟨by omega, by omega⟩) | skip
  case s0 => exact any_gr (keyed_any _)
  case s4 =>
    have hs4 := run_string (P := Try.prog) Try.underlying28 Try.underlying5 Try.underlying9 (cap := capy) rfl (oy.gr (((g3.trans (Gr.alloc _ _)).trans (g4.trans (Gr.alloc _ _))).trans hg)).bytes
    go_simp
    exact rfl
  case s13 =>
    obtain ⟨x0, x1, x2, _⟩ := ((Blk.new w3 27 #[.string (str V.1), .int .i64 (V.2.1 : Int), .int .i64 (V.2.2 : Int)]).gr ((g4.trans (Gr.alloc _ _)).trans hg)).three
    go_simp
    exact rfl
  case s14 =>
    obtain ⟨x0, x1, x2, _⟩ := ((Blk.new w4 27 #[.string (str V.1), .int .i64 (V.2.1 : Int), .int .i64 (V.2.2 : Int)]).gr hg).three
    go_simp
    exact rfl
  case s23 | s26 | s31 =>
    obtain ⟨x0, x1, x2, _⟩ := ((Blk.of1 (g1.trans (g2.trans g3))).gr ((Gr.alloc _ _).trans ((g4.trans (Gr.alloc _ _)).trans hg))).three
    go_simp
    exact rfl
  case s24 => exact any_gr (HC.out _)
  case s27 | s32 => exact any_gr (HR.out _)
  case fin =>
    intro w1 val hg hH
    simp only [Holds, Is, Nat.zero_add, Nat.reduceAdd] at hH
    obtain ⟨h0, h1, h2, h3, h4, h5, h6, h7, h8, h9, h10, h11, h12, h13, h14, h15, h16, h17, h18, h19, h20, h21, h22, h23, h24, h25, h26, h27, h28, h29, h30, h31, h32, h33, h34, h35, h36, h37, h38, h39, _⟩ := hH
    simp only [List.take_succ_cons, List.take_zero, List.drop_succ_cons, List.drop_zero, putAll, h0, h1, h2, h3, h4, h5, h6, h7, h8, h9, h10, h11, h12, h13, h14, h15, h16, h17, h18, h19, h20, h21, h22, h23, h24, h25, h26, h27, h28, h29, h30, h31, h32, h33, h34, h35, h36, h37, h38, h39, Nat.zero_add, Nat.reduceAdd]
    go_simp
    go_wp2
    go_ret
    exact ⟨rfl, (((G3.trans (Gr.alloc _ _)).trans g4).trans (Gr.alloc _ _)).trans hg⟩
set_option maxRecDepth 100000 in
set_option maxHeartbeats 4000000 in
theorem IkeyEncodes_no (k : List UInt8) (s d : Int) (ad : Option Addr) (cap : Nat) (l : List UInt8) (w : World) (hok : okV k s d = false) (hlc : l.length ≤ cap) (hm : l.length ≤ maxLen) (hb : Bytes w ad l) :
    Calls Try.prog 5 #[ver k s d, .slice ad l.length cap] w fun e w' => e = .returned (.bool true) ∧ Gr w w' := by
  have HRE := Lib.hid (fun w => rDocEncode_no k s d w hok)
  have HE := Lib.hid (fun w => Encode_no k s d w hok)
  have HRD := Lib.hid (fun w => rDocDecode_any l w hm)
  have HD := Lib.hid (fun w hb => Decode_any ad cap l w hlc hm hb)
  have HC := Lib.hid (fun w => Check_any k s d w)
  have HR := Lib.hid (fun w => rRight_any k s d w)
  rw [chk_no hok] at HC
  rw [hok] at HR
  rw [outV_eq] at HRD HD
  unfold ver at HRE HE HC HR ⊢
  generalize verO (decF l) = V at *
  generalize errO (decF l) = N at *
  clear hok
  have HH := Lib.hid hb; clear hb
  go_enter Try.func5, Try.ntmps5
  go_wp2_with (first
    | (go_at_call 9; (with_reducible refine (HRE.out _).mono ?_); rintro e w1 ⟨rfl, g1⟩; obtain ⟨c0, c1, c2⟩ := g1.box3; have G1 := (Gr.alloc _ _).trans g1)
    | (go_at_call 10; (with_reducible refine (HE.out _).mono ?_); rintro e w2 ⟨ady, capy, rfl, oy, g2⟩; have G2 := G1.trans g2; have hs := run_string (P := Try.prog) Try.underlying28 Try.underlying5 Try.underlying9 (cap := cap) rfl (HH.out.gr G2))
    | (go_at_call 11; (with_reducible refine (HRD.out _).mono ?_); rintro e w3 ⟨rfl, g3⟩; have G3 := G2.trans g3)
    | (go_at_call 12; (with_reducible refine (HD.out _ (HH.out.gr (G3.trans (Gr.alloc _ _)))).mono ?_); rintro e w4 ⟨rfl, g4⟩))
  refine region_any_gr _ [Is (.bool true), Is ?r1, Is ?r2, Is ?r3, Is (.string (str [])), Is (.bool true), Is ?r6, Is ?r7, Is ?r8, Is ?r9, Is (.bool true), Is ?r11, Is ?r12, Is (.agg #[.string (str V.1), .int .i64 (V.2.1 : Int), .int .i64 (V.2.2 : Int)]), Is (.agg #[.string (str V.1), .int .i64 (V.2.1 : Int), .int .i64 (V.2.2 : Int)]), Is (.bool true), Is ?r16, Is ?r17, Is ?r18, Is ?r19, Is (.bool true), Is ?r21, Is ?r22, Is (.agg #[.string (str k), .int .i64 (s : Int), .int .i64 (d : Int)]), Is (.int .i64 1), Is (.bool false), Is (.agg #[.string (str k), .int .i64 (s : Int), .int .i64 (d : Int)]), Is (.bool false), Is (.bool true), Is ?r29, Is ?r30, Is (.agg #[.string (str k), .int .i64 (s : Int), .int .i64 (d : Int)]), Is (.bool false), Is ?r33, Is (.agg #[.string (str k), .int .i64 (s : Int), .int .i64 (d : Int)]), Is (.int .i64 1), Is (.bool true), Is ?r37, Is ?r38, Is ?r39] (by kernel_rfl) (by kernel_rfl) (by kernel_rfl) rfl rfl ⟨Is.stable _, Is.stable _, Is.stable _, Is.stable _, Is.stable _, Is.stable _, Is.stable _, Is.stable _, Is.stable _, Is.stable _, Is.stable _, Is.stable _, Is.stable _, Is.stable _, Is.stable _, Is.stable _, Is.stable _, Is.stable _, Is.stable _, Is.stable _, Is.stable _, Is.stable _, Is.stable _, Is.stable _, Is.stable _, Is.stable _, Is.stable _, Is.stable _, Is.stable _, Is.stable _, Is.stable _, Is.stable _, Is.stable _, Is.stable _, Is.stable _, Is.stable _, Is.stable _, Is.stable _, Is.stable _, Is.stable _, trivial⟩ ⟨?s0, ?s1, ?s2, ?s3, ?s4, ?s5, ?s6, ?s7, ?s8, ?s9, ?s10, ?s11, ?s12, ?s13, ?s14, ?s15, ?s16, ?s17, ?s18, ?s19, ?s20, ?s21, ?s22, ?s23, ?s24, ?s25, ?s26, ?s27, ?s28, ?s29, ?s30, ?s31, ?s32, ?s33, ?s34, ?s35, ?s36, ?s37, ?s38, ?s39, trivial⟩ ?fin
  case' s0 | s1 | s2 | s3 | s4 | s5 | s6 | s7 | s8 | s9 | s10 | s11 | s12 | s13 | s14 | s15 | s16 | s17 | s18 | s19 | s20 | s21 | s22 | s23 | s24 | s25 | s26 | s27 | s28 | s29 | s30 | s31 | s32 | s33 | s34 | s35 | s36 | s37 | s38 | s39 =>
    intro ρ wr hρ hg hK
    simp [readsOf, slotsOf, Op.operands, Call.operands, tmpOf, List.filterMap_cons, List.filterMap_nil, KnownAll, knownOf, srcOf, depsOf, dstOf, Region.binds, nth, Is] at hK
    obtain ⟨hc, hf, hgl⟩ := hρ
    try simp only [wantedBy, dstOf, boolOf, nth, List.getD_cons_zero, List.getD_cons_succ, List.getElem?_cons_zero, List.getElem?_cons_succ, Option.bind_some, if_true, hK, BEq.rfl]
    try go_simp
    first | exact rfl | (rw [if_pos (by omega)]; exact is_here rfl) | (rw [dif_pos (by omega)]; exact is_here rfl) | exact congrArg (Value.int _) (IntWalk.i64_in _ ⟨by omega, by omega⟩) | skip
  case s0 => exact any_gr (keyed_any _)
  case s4 =>
    have hs4 := run_string (P := Try.prog) Try.underlying28 Try.underlying5 Try.underlying9 (cap := capy) (len := 0) (l := []) rfl (oy.gr (((g3.trans (Gr.alloc _ _)).trans (g4.trans (Gr.alloc _ _))).trans hg)).bytes
    go_simp
    exact rfl
  case s13 =>
    obtain ⟨x0, x1, x2, _⟩ := ((Blk.new w3 27 #[.string (str V.1), .int .i64 (V.2.1 : Int), .int .i64 (V.2.2 : Int)]).gr ((g4.trans (Gr.alloc _ _)).trans hg)).three
    go_simp
    exact rfl
  case s14 =>
    obtain ⟨x0, x1, x2, _⟩ := ((Blk.new w4 27 #[.string (str V.1), .int .i64 (V.2.1 : Int), .int .i64 (V.2.2 : Int)]).gr hg).three
    go_simp
    exact rfl
  case s23 | s26 | s31 | s34 =>
    obtain ⟨x0, x1, x2, _⟩ := ((Blk.of1 (g1.trans (g2.trans g3))).gr ((Gr.alloc _ _).trans ((g4.trans (Gr.alloc _ _)).trans hg))).three
    go_simp
    exact rfl
  case s24 | s35 => exact any_gr (HC.out _)
  case s27 | s32 => exact any_gr (HR.out _)
  case fin =>
    intro w1 val hg hH
    simp only [Holds, Is, Nat.zero_add, Nat.reduceAdd] at hH
    obtain ⟨h0, h1, h2, h3, h4, h5, h6, h7, h8, h9, h10, h11, h12, h13, h14, h15, h16, h17, h18, h19, h20, h21, h22, h23, h24, h25, h26, h27, h28, h29, h30, h31, h32, h33, h34, h35, h36, h37, h38, h39, _⟩ := hH
    simp only [List.take_succ_cons, List.take_zero, List.drop_succ_cons, List.drop_zero, putAll, h0, h1, h2, h3, h4, h5, h6, h7, h8, h9, h10, h11, h12, h13, h14, h15, h16, h17, h18, h19, h20, h21, h22, h23, h24, h25, h26, h27, h28, h29, h30, h31, h32, h33, h34, h35, h36, h37, h38, h39, Nat.zero_add, Nat.reduceAdd]
    go_simp
    go_wp2
    go_ret
    exact ⟨rfl, (((G3.trans (Gr.alloc _ _)).trans g4).trans (Gr.alloc _ _)).trans hg⟩
theorem IkeyEncodes_any (k : List UInt8) (s d : Int) (ad : Option Addr) (cap : Nat) (l : List UInt8) (w : World) (hlc : l.length ≤ cap) (hm : l.length ≤ maxLen) (hb : Bytes w ad l) :
    Calls Try.prog 5 #[ver k s d, .slice ad l.length cap] w fun e w' => e = .returned (.bool true) ∧ Gr w w' := by
  cases h : okV k s d with
  | true =>
    obtain ⟨_, _, h3, _, h5⟩ := okV_of h
    obtain ⟨s, rfl⟩ := Int.eq_ofNat_of_zero_le h3
    obtain ⟨d, rfl⟩ := Int.eq_ofNat_of_zero_le (show 0 ≤ d by omega)
    exact IkeyEncodes_yes k s d ad cap l w h hlc hm hb
  | false => exact IkeyEncodes_no k s d ad cap l w h hlc hm hb
theorem IkeyEncodes_len (k : List UInt8) (s d : Int) (ad : Option Addr) (len cap : Nat) (l : List UInt8) (w : World) (hl : l.length = len) (hlc : len ≤ cap) (hm : len ≤ maxLen) (hb : Bytes w ad l) :
    Calls Try.prog 5 #[ver k s d, .slice ad len cap] w fun e w' => e = .returned (.bool true) ∧ Gr w w' := by
  subst hl
  exact IkeyEncodes_any k s d ad cap l w hlc hm hb
end Go.Proofs.Ytnjnehegfdimaaa
