/- Layer 6 (bloom): BloomAsks answers true. -/
import Derived.Test.YtpkbifaeofcckaaBloomDocMerge
import Derived.Test.YtpkbifaeofcckaaBloomLaws
import Derived.Outline
namespace Go.Proofs.Ytpkbifaeofcckaa
set_option linter.unusedVariables false
set_option linter.unusedSimpArgs false
open Go.RowKit Bloom
set_option maxRecDepth 100000 in
set_option maxHeartbeats 2000000 in
theorem rMerge_form (a b : List UInt8) (w : World) (ha : a.length ≤ 500000000) (hb : b.length ≤ 500000000) (h : rightF a = false ∨ rightF b = false) :
    Calls Try.prog 15 #[.string (str a), .string (str b)] w fun e w' => e = .returned (.tuple #[.string (str []), .int .i64 2]) ∧ Gr w w' := by
  have R1 := Lib.hid (fun w => rRight_any a w (by omega))
  have R2 := Lib.hid (fun w => rRight_any b w (by omega))
  generalize rightF a = oka at *
  generalize rightF b = okb at *
  cases oka with
  | false =>
    go_enter Try.func15, Try.ntmps15
    go_wp2_with (go_at_call 23; first | ((with_reducible refine (R1.out _).mono ?_); rintro e w2 ⟨rfl, rfl⟩) | ((with_reducible refine (R2.out _).mono ?_); rintro e w2 ⟨rfl, rfl⟩))
    go_ret2
    exact ⟨rfl, Gr.refl _⟩
  | true =>
    obtain rfl : okb = false := by rcases h with h | h; cases h; exact h
    go_enter Try.func15, Try.ntmps15
    go_wp2_with (go_at_call 23; first | ((with_reducible refine (R1.out _).mono ?_); rintro e w2 ⟨rfl, rfl⟩) | ((with_reducible refine (R2.out _).mono ?_); rintro e w2 ⟨rfl, rfl⟩))
    go_ret2
    exact ⟨rfl, Gr.refl _⟩
set_option maxRecDepth 100000 in
set_option maxHeartbeats 2000000 in
theorem rMerge_apart (m m' : List UInt8) (x y : UInt8) (w : World) (hl : m.length ≤ 100000000) (hl' : m'.length ≤ 100000000) (h : m.length ≠ m'.length ∨ x ≠ y) (h1 : 1 ≤ m.length) (h1' : 1 ≤ m'.length) (h2 : 1 ≤ x.toNat) (h3 : x.toNat ≤ 30) (h2' : 1 ≤ y.toNat) (h3' : y.toNat ≤ 30) :
    Calls Try.prog 15 #[.string (str (m ++ [x])), .string (str (m' ++ [y]))] w fun e w' => e = .returned (.tuple #[.string (str []), .int .i64 1]) ∧ Gr w w' := by
  have R1 := Lib.hid (fun w => rRight_any (m ++ [x]) w (by simp; omega))
  have R2 := Lib.hid (fun w => rRight_any (m' ++ [y]) w (by simp; omega))
  rw [right_mk h1 h2 h3] at R1
  rw [right_mk h1' h2' h3'] at R2
  have hxy : x.toNat = y.toNat → x = y := UInt8.toNat_inj.1
  have ha : (m ++ [x]).length = m.length + 1 := by simp
  have hb : (m' ++ [y]).length = m'.length + 1 := by simp
  have hla : ∀ h : m.length < (m ++ [x]).length, (m ++ [x])[m.length]'h = x := fun h => by simp
  have hlb : ∀ h : m'.length < (m' ++ [y]).length, (m' ++ [y])[m'.length]'h = y := fun h => by simp
  generalize m ++ [x] = a at *
  generalize m' ++ [y] = b at *
  generalize m.length = n at *
  generalize m'.length = n' at *
  have hna : n < a.length := by omega
  have hnb : n' < b.length := by omega
  have xa := hla hna
  have xb := hlb hnb
  have HAL := Lib.hid ha; have HBL := Lib.hid hb
  have e1 : (a.length : Int) - 1 = (n : Int) := by omega
  have e2 : (b.length : Int) - 1 = (n' : Int) := by omega
  have hx := byte_hi x
  have hy := byte_hi y
  have E1 := Lib.hid (show IntKind.i64.wrap ((a.length : Int) - 1) = (n : Int) by rw [IntWalk.i64_in _ ⟨by omega, by omega⟩]; exact e1)
  have E2 := Lib.hid (show IntKind.i64.wrap ((b.length : Int) - 1) = (n' : Int) by rw [IntWalk.i64_in _ ⟨by omega, by omega⟩]; exact e2)
  have XA := Lib.hid xa; have XB := Lib.hid xb
  by_cases hn : n = n'
  · have hsame : ((a.length : Int) != (b.length : Int)) = false := by rw [bne_eq_false_iff_eq]; omega
    have hne : ((x.toNat : Int) != (y.toNat : Int)) = true := by
      rw [bne_iff_ne]; intro e
      rcases h with h | h
      · exact h hn
      · exact h (hxy (by omega))
    clear hla hlb ha hb e1 e2 xa xb h hxy hn
    go_enter Try.func15, Try.ntmps15
    go_wp2_with (go_at_call 23; first | ((with_reducible refine (R1.out _).mono ?_); rintro e w2 ⟨rfl, rfl⟩) | ((with_reducible refine (R2.out _).mono ?_); rintro e w2 ⟨rfl, rfl⟩))
    have e1 := E1.out; have e2 := E2.out; have xa := XA.out; have xb := XB.out
    go_quiet (fail)
    clear e1 e2 xa xb
    go_wp2
    go_ret2
    exact ⟨rfl, Gr.drewN _ _⟩
  · have hsame : ((a.length : Int) != (b.length : Int)) = true := by rw [bne_iff_ne]; omega
    clear hla hlb ha hb e1 e2 xa xb h hxy hn
    go_enter Try.func15, Try.ntmps15
    go_wp2_with (go_at_call 23; first | ((with_reducible refine (R1.out _).mono ?_); rintro e w2 ⟨rfl, rfl⟩) | ((with_reducible refine (R2.out _).mono ?_); rintro e w2 ⟨rfl, rfl⟩))
    go_quiet (fail)
    go_wp2
    go_ret2
    exact ⟨rfl, Gr.drewN _ _⟩
theorem rMerge_any (a b : List UInt8) (w : World) (hl : a.length ≤ 100000000) (hl' : b.length ≤ 100000000) :
    Calls Try.prog 15 #[.string (str a), .string (str b)] w fun e w' => e = .returned (.tuple #[.string (str (mergeF a b).1), .int .i64 (mergeF a b).2]) ∧ Gr w w' := by
  by_cases h : rightF a = false ∨ rightF b = false
  · rw [merge_form h]
    exact rMerge_form a b w (by omega) (by omega) h
  · have ha : rightF a = true := by cases hx : rightF a with | true => rfl | false => exact absurd (.inl hx) h
    have hb2 : rightF b = true := by cases hx : rightF b with | true => rfl | false => exact absurd (.inr hx) h
    obtain ⟨m, x, rfl, h1, h2, h3⟩ := right_of ha
    obtain ⟨m', y, rfl, h1', h2', h3'⟩ := right_of hb2
    simp only [List.length_append, List.length_cons, List.length_nil, Nat.zero_add] at hl hl'
    by_cases hs : m.length ≠ m'.length ∨ x ≠ y
    · rw [merge_apart m m' x y hs h1 h1' h2 h3 h2' h3']
      exact rMerge_apart m m' x y w (by omega) (by omega) hs h1 h1' h2 h3 h2' h3'
    · obtain ⟨e1, e2⟩ : m'.length = m.length ∧ x = y := by
        constructor
        · rcases Nat.decEq m.length m'.length with e | e
          · exact absurd (.inl e) hs
          · exact e.symm
        · rcases (inferInstance : Decidable (x = y)) with e | e
          · exact absurd (.inr e) hs
          · exact e
      subst e2
      rw [merge_good m m' x e1 h1 h2 h3]
      exact rMerge_good m m' x w e1 (by omega) h1 h2 h3
set_option maxRecDepth 100000 in
set_option maxHeartbeats 4000000 in
theorem BloomAsks_any (a b : List UInt8) (ad ad' : Option Addr) (cap cap' : Nat) (key : List UInt8) (w : World) (hc : a.length ≤ cap) (hcm : cap ≤ maxLen) (hc' : b.length ≤ cap') (hcm' : cap' ≤ maxLen) (hb : Bytes w ad a) (hb' : Bytes w ad' b) (hk : key.length ≤ 9223372036854775807) :
    Calls Try.prog 7 #[.slice ad a.length cap, .slice ad' b.length cap', .string (str key)] w fun e w' => e = .returned (.bool true) ∧ Gr w w' := by
  have HBS := Lib.hid blooms_any
  have HB1 := Lib.hid hb; have HB2 := Lib.hid hb'
  clear hb hb'
  have hmx : maxLen ≤ 9223372036854775807 := by decide
  by_cases hs : a.length ≤ 1048576 ∧ b.length ≤ 1048576
  · obtain ⟨hs1, hs2⟩ := hs
    have HRM := Lib.hid (fun w => rMerge_any a b w (by omega) (by omega))
    have HM := Lib.hid (fun w h h' => Merge_any a b ad ad' cap cap' w hc hcm hc' hcm' (by omega) h h')
    have HMA := Lib.hid (fun w h => May_any a key ad cap w hc hcm (by omega) h hk)
    have HMB := Lib.hid (fun w h => May_any b key ad' cap' w hc' hcm' (by omega) h hk)
    have HRA := Lib.hid (fun w => rDocMay_any a key w (by omega) hk)
    have HRB := Lib.hid (fun w => rDocMay_any b key w (by omega) hk)
    have hsa := run_string (P := Try.prog) Try.underlying30 Try.underlying5 Try.underlying9 (cap := cap) rfl HB1.out
    have hsb := run_string (P := Try.prog) Try.underlying30 Try.underlying5 Try.underlying9 (cap := cap') rfl HB2.out
    generalize (mergeF a b).1 = M at *
    generalize (mergeF a b).2 = E at *
    generalize mayF a (hashF key) = ma at *
    generalize mayF b (hashF key) = mb at *
    go_enter Try.func7, Try.ntmps7
    go_wp2_with (first
      | (go_at_call 15; (with_reducible refine (HRM.out _).mono ?_); rintro e w1 ⟨rfl, g1⟩; clear hsa hsb)
      | (go_at_call 16; (with_reducible refine (HM.out _ (HB1.out.gr g1) (HB2.out.gr g1)).mono ?_); rintro e w2 ⟨ady, capy, rfl, oy, g2⟩; have G2 := g1.trans g2))
    refine region_any_gr _ [Is (.bool true), Is ?r1, Is ?r2, Is ?r3, Is (.bool ma), Is ?r5, Is (.string (str a)), Is ?r7, Is (.bool ma), Is (.bool true), Is ?r10, Is ?r11, Is ?r12, Is ?r13, Is (.bool mb), Is ?r15, Is (.string (str b)), Is ?r17, Is (.bool mb), Is (.bool true), Is ?r20, Is ?r21, Is ?r22, Is ?r23, Is (.string (str M)), Is (.bool true), Is ?r26, Is ?r27, Is ?r28, Is ?r29, Is (.bool true), Is ?r31, Is ?r32] (by kernel_rfl) (by kernel_rfl) (by kernel_rfl) rfl rfl ⟨Is.stable _, Is.stable _, Is.stable _, Is.stable _, Is.stable _, Is.stable _, Is.stable _, Is.stable _, Is.stable _, Is.stable _, Is.stable _, Is.stable _, Is.stable _, Is.stable _, Is.stable _, Is.stable _, Is.stable _, Is.stable _, Is.stable _, Is.stable _, Is.stable _, Is.stable _, Is.stable _, Is.stable _, Is.stable _, Is.stable _, Is.stable _, Is.stable _, Is.stable _, Is.stable _, Is.stable _, Is.stable _, Is.stable _, trivial⟩ ⟨?s0, ?s1, ?s2, ?s3, ?s4, ?s5, ?s6, ?s7, ?s8, ?s9, ?s10, ?s11, ?s12, ?s13, ?s14, ?s15, ?s16, ?s17, ?s18, ?s19, ?s20, ?s21, ?s22, ?s23, ?s24, ?s25, ?s26, ?s27, ?s28, ?s29, ?s30, ?s31, ?s32, trivial⟩ ?fin
    case' s0 | s1 | s2 | s3 | s4 | s5 | s6 | s7 | s8 | s9 | s10 | s11 | s12 | s13 | s14 | s15 | s16 | s17 | s18 | s19 | s20 | s21 | s22 | s23 | s24 | s25 | s26 | s27 | s28 | s29 | s30 | s31 | s32 =>
      intro ρ wr hρ hg hK
      simp [readsOf, slotsOf, Op.operands, Call.operands, tmpOf, List.filterMap_cons, List.filterMap_nil, KnownAll, knownOf, srcOf, depsOf, dstOf, Region.binds, nth, Is] at hK
      obtain ⟨hc, hf, hgl⟩ := hρ
      try simp only [wantedBy, dstOf, boolOf, nth, List.getD_cons_zero, List.getD_cons_succ, List.getElem?_cons_zero, List.getElem?_cons_succ, Option.bind_some, if_true, hK, BEq.rfl]
      try go_simp
      first | exact rfl | (rw [if_pos (by omega)]; exact is_here rfl) | (rw [dif_pos (by omega)]; exact is_here rfl) | exact congrArg (Value.int _) (IntWalk.i64_in _ ⟨by omega, by omega⟩) | skip
    case s0 => exact any_gr (HBS.out _)
    case s4 => exact any_gr (HMA.out _ (HB1.out.gr (G2.trans hg)))
    case s6 =>
      have hs6 := run_string (P := Try.prog) Try.underlying30 Try.underlying5 Try.underlying9 (cap := cap) rfl (HB1.out.gr (G2.trans hg))
      go_simp
      exact rfl
    case s8 => exact any_gr (HRA.out _)
    case s14 => exact any_gr (HMB.out _ (HB2.out.gr (G2.trans hg)))
    case s16 =>
      have hs6 := run_string (P := Try.prog) Try.underlying30 Try.underlying5 Try.underlying9 (cap := cap') rfl (HB2.out.gr (G2.trans hg))
      go_simp
      exact rfl
    case s18 => exact any_gr (HRB.out _)
    case s24 =>
      have hs6 := run_string (P := Try.prog) Try.underlying30 Try.underlying5 Try.underlying9 (cap := capy) rfl (oy.gr hg).bytes
      go_simp
      exact rfl
    case fin =>
      intro w1 val hg hH
      simp only [Holds, Is, Nat.zero_add, Nat.reduceAdd] at hH
      obtain ⟨h0, h1, h2, h3, h4, h5, h6, h7, h8, h9, h10, h11, h12, h13, h14, h15, h16, h17, h18, h19, h20, h21, h22, h23, h24, h25, h26, h27, h28, h29, h30, h31, h32, _⟩ := hH
      simp only [List.take_succ_cons, List.take_zero, List.drop_succ_cons, List.drop_zero, putAll, h0, h1, h2, h3, h4, h5, h6, h7, h8, h9, h10, h11, h12, h13, h14, h15, h16, h17, h18, h19, h20, h21, h22, h23, h24, h25, h26, h27, h28, h29, h30, h31, h32, Nat.zero_add, Nat.reduceAdd]
      go_simp
      go_wp2
      go_ret
      exact ⟨rfl, G2.trans hg⟩
  · have hor : 1048576 < a.length ∨ 1048576 < b.length := by omega
    clear hs
    by_cases h1 : 1048576 < a.length
    · go_enter Try.func7, Try.ntmps7
      go_wp2_with (go_at_call 10; (with_reducible refine (HBS.out _).mono ?_); rintro e w1 ⟨rfl, g1⟩)
      go_ret
      exact ⟨rfl, g1⟩
    · have h2 : 1048576 < b.length := by omega
      clear hor
      go_enter Try.func7, Try.ntmps7
      go_wp2_with (go_at_call 10; (with_reducible refine (HBS.out _).mono ?_); rintro e w1 ⟨rfl, g1⟩)
      go_ret
      exact ⟨rfl, g1⟩
theorem BloomAsks_len (a b : List UInt8) (ad ad' : Option Addr) (len len' cap cap' : Nat) (key : List UInt8) (w : World) (hl : a.length = len) (hl' : b.length = len') (hc : len ≤ cap) (hcm : cap ≤ maxLen) (hc' : len' ≤ cap') (hcm' : cap' ≤ maxLen) (hb : Bytes w ad a) (hb' : Bytes w ad' b) (hk : key.length ≤ 9223372036854775807) :
    Calls Try.prog 7 #[.slice ad len cap, .slice ad' len' cap', .string (str key)] w fun e w' => e = .returned (.bool true) ∧ Gr w w' := by
  subst hl hl'
  exact BloomAsks_any a b ad ad' cap cap' key w hc hcm hc' hcm' hb hb' hk
end Go.Proofs.Ytpkbifaeofcckaa
