/- Layer 5 (ikey): the reference's DocEncode and DocDecode. -/
import Derived.Test.YtnjnehegfdimaaaIkeyDec
import Derived.Test.YtnjnehegfdimaaaAnyT
import Derived.Outline
namespace Go.Proofs.Ytnjnehegfdimaaa
set_option linter.unusedVariables false
set_option linter.unusedSimpArgs false
open Go.RowKit Ikey Varint
open Go.Op (bytesLess)
theorem bytes8 (s d : Nat) (hd : d < 256) : bytesN 8 (trailF s d) = UInt8.ofNat d :: bytesN 7 s := by
  have h1 : trailF s d / 256 = s := by unfold trailF; omega
  have h2 : UInt8.ofNat (trailF s d) = UInt8.ofNat d := by
    apply UInt8.toNat_inj.1
    rw [UInt8.toNat_ofNat', UInt8.toNat_ofNat']; unfold trailF; omega
  rw [show bytesN 8 (trailF s d) = UInt8.ofNat (trailF s d) :: bytesN 7 (trailF s d / 256) from rfl, h1, h2]
set_option maxRecDepth 100000 in
theorem rDocEncode_no (k : List UInt8) (s d : Int) (w : World) (h : okV k s d = false) :
    Calls Try.prog 9 #[ver k s d] w fun e w' => e = .returned (.tuple #[.string (str []), .int .i64 1]) ∧ Gr w w' := by
  have HC := Lib.hid (fun w => rRight_any k s d w)
  rw [h] at HC
  unfold ver at HC ⊢
  go_enter Try.func9, Try.ntmps9
  go_wp2_with (go_at_call 14; refine (HC.out _).mono ?_; rintro e w1 ⟨rfl, g1⟩; obtain ⟨c0, c1, c2⟩ := g1.box3)
  go_ret2
  exact ⟨rfl, (Gr.alloc _ _).trans g1⟩
set_option maxRecDepth 100000 in
set_option maxHeartbeats 1000000 in
theorem rDocEncode_yes (k : List UInt8) (s d : Nat) (w : World) (h : okV k s d = true) :
    Calls Try.prog 9 #[ver k s d] w fun e w' => e = .returned (.tuple #[.string (str (encF k s d)), .int .i64 0]) ∧ Gr w w' := by
  obtain ⟨_, hk, _, hs, hd⟩ := okV_of h
  have hs' : s < 72057594037927936 := by omega
  have hd' : d < 256 := by omega
  have hkm : k.length ≤ maxLen := by unfold maxLen; omega
  have HC := Lib.hid (fun w => rRight_any k s d w)
  rw [h] at HC
  have HE := Lib.hid (show encF k s d = (k ++ [UInt8.ofNat d]) ++ bytesN 7 s by unfold encF; rw [bytes8 s d hd']; simp)
  have HL := Lib.hid (enc_len k s d)
  have HX1 := Lib.hid (show (d : Int) = ((UInt8.ofNat d).toNat : Int) by rw [UInt8.toNat_ofNat']; omega)
  have hm1 : k.length + 1 ≤ maxLen := by unfold maxLen; omega
  have hm2 : (k.length + 1) * 1 ≤ 140737488355328 := by omega
  clear h hs hd
  unfold ver at HC ⊢
  go_enter Try.func9, Try.ntmps9
  go_wp2_with (first
    | (go_at_call 14; refine (HC.out _).mono ?_; rintro e w1 ⟨rfl, g1⟩; obtain ⟨c0, c1, c2⟩ := g1.box3; obtain ⟨cap, w2, hrun, ho, hg, hsz⟩ := bytes_str Try.underlying9 Try.underlying28 Try.underlying5 w1 k hkm; have d0 := hg.cell c0; have d1 := hg.cell c1; have d2 := hg.cell c2; clear hsz)
    | (at_builtin; go_must (have hbs : w1.heap.size ≤ (w2.alloc (.cells #[.int .u8 (d : Int)] 5)).heap.size := (by have := hg.size; simp; omega)); go_must (refine wp_append elemB rfl _ _ rfl rfl (ho.gr (Gr.alloc _ _)) rfl (Src.one _ _ (UInt8.ofNat d) HX1.out Try.underlying28) hm1 hm2 hbs ?_); intro ad2 cap2 w3 o3 k3 f3; have e1 := (hg.app ho (Nat.le_refl _) k3).cell c1))
  have G2 : Gr w w2 := ((Gr.alloc _ _).trans g1).trans hg
  have hsz := ((Gr.alloc w _).trans g1).size
  have G3 := (G2.app (ho.base hsz) (Nat.le_refl _) k3)
  have o3' := o3.base hsz
  clear hrun
  generalize hK : k ++ [UInt8.ofNat d] = K at *
  have hKl : K.length = k.length + 1 := by rw [← hK]; simp
  have o4 : Owns w3 w.heap.size 5 1 ad2 cap2 K.length (bv K) := by rw [hKl, ← hK, bv_append]; exact o3'
  have HK := Lib.hid hKl
  clear hK o3 o3'
  go_loopw [4, 5, 6] (fun v n i wr => ∃ (j : Nat) (ad : Option Addr) (cap' : Nat), j ≤ 7 ∧ i = .int .i64 (j : Int) ∧ n = .int .i64 ((s / 256 ^ j : Nat) : Int) ∧ v = .slice ad (k.length + 1 + j) cap' ∧ Owns wr w.heap.size 5 1 ad cap' (k.length + 1 + j) (bv (K ++ bytesN j s)) ∧ Gr w wr) (fun _ _ i _ => 7 - (intOf i).toNat)
  case atStart => exact ⟨0, _, cap2, by omega, rfl, by simp, rfl, by rw [show bytesN 0 s = [] from rfl, List.append_nil, Nat.add_zero, ← hKl]; exact o4, G3⟩
  case round =>
    obtain ⟨j, ad, cap', hj, rfl, rfl, rfl, ho, hg⟩ := hrel
    by_cases hlt : j < 7
    · generalize hc : s / 256 ^ j = cur at *
      have hcur : cur ≤ s := by rw [← hc]; exact Nat.div_le_self _ _
      have HC2 := Lib.hid hc; clear hc
      have HX := Lib.hid (show (cur : Int) % 256 = ((UInt8.ofNat cur).toNat : Int) by rw [UInt8.toNat_ofNat']; omega)
      have hs2 := hg.size
      go_wp2_with (at_builtin; refine wp_append elemB rfl _ _ rfl rfl (ho.gr (Gr.alloc _ _)) rfl (Src.one _ _ (UInt8.ofNat cur) HX.out Try.underlying28) (by unfold maxLen; omega) (by omega) (by simp; omega) ?_; intro ad2 cap2 w4 o4 k4 f4)
      go_roundw
      case rel =>
        refine ⟨j + 1, ad2, cap2, by omega, by go_num, ?_, by simp [Nat.add_assoc], ?_, hg.app ho (Nat.le_refl _) k4⟩
        · rw [Nat.pow_succ, ← Nat.div_div_eq_div_mul, HC2.out]; go_num
        · rw [bytesN_snoc, ← List.append_assoc, bv_append, HC2.out]
          exact o4
      case measure => simp [intOf]; omega
    · obtain rfl : j = 7 := by omega
      have hs := run_string (P := Try.prog) Try.underlying28 Try.underlying5 Try.underlying9 (cap := cap') (len := k.length + 1 + 7) (by rw [List.length_append, bytesN_len, HK.out]) ho.bytes
      go_wp2
      go_ret2
      exact ⟨by rw [HE.out]; rfl, hg⟩
theorem seq_step (m : List UInt8) (k : Nat) (h : k < m.length) : le (m.drop k) = m[k].toNat + 256 * le (m.drop (k + 1)) := by
  rw [List.drop_eq_getElem_cons h]; rfl
theorem le_drop_lt (m : List UInt8) (k : Nat) (hm : m.length = 8) (hk : 1 ≤ k) : le (m.drop k) < 72057594037927936 := by
  have h1 := le_lt (m.drop k)
  have h2 : 256 ^ (m.drop k).length ≤ 256 ^ 7 := Nat.pow_le_pow_right (by decide) (by rw [List.length_drop, hm]; omega)
  omega
set_option maxRecDepth 100000 in
set_option maxHeartbeats 1000000 in
theorem rDocDecode_any (l : List UInt8) (w : World) (hm : l.length ≤ maxLen) :
    Calls Try.prog 11 #[.string (str l)] w fun e w' => e = .returned (outV (decF l)) ∧ Gr w w' := by
  unfold maxLen at hm
  by_cases h9 : l.length < 9
  · have HD := Lib.hid (show decF l = none by
      unfold decF
      split
      · rfl
      · unfold ofF
        have : l.take (l.length - 8) = [] := by rw [show l.length - 8 = 0 by omega]; rfl
        rw [this]; rfl)
    go_enter Try.func11, Try.ntmps11
    go_wp2
    refine bodyPost_ret (v := outV none) (by simp [results, Try.results11, go_sem, outV, ver]; rfl) rfl ⟨by rw [HD.out], ?_⟩
    exact Gr.alloc _ _
  · obtain ⟨at_, hat⟩ : ∃ at_, l.length = at_ + 8 := ⟨l.length - 8, by omega⟩
    obtain ⟨m, hmd⟩ : ∃ m, m = l.drop at_ := ⟨_, rfl⟩
    have hd8 : m.length = 8 := by rw [hmd]; simp; omega
    have HD := Lib.hid (show decF l = ofF (l.take at_) (le m) by unfold decF; rw [if_neg (by omega), hmd, hat]; rfl)
    have hidx : ∀ i (h1 : at_ + i < l.length) (h2 : i < m.length), l[at_ + i]'h1 = m[i]'h2 := fun i h1 h2 => by subst hmd; rw [List.getElem_drop]
    have HI := Lib.hid hidx
    have H8 := Lib.hid hd8
    clear hmd hidx hd8
    go_enter Try.func11, Try.ntmps11
    go_wp2
    have x0 : at_ < l.length := by omega
    have hx := byte_hi (l[at_]'x0)
    have y1 : at_ ≤ l.length := by omega
    refine region_tail_gr 9 _ [Is ?r0, Is ?r1, Is (.string (str (l.take at_))), Is ?r3, Is ?r4, Is (.int .u8 ((l[at_]'x0).toNat : Int)), Is (.int .i64 ((l[at_]'x0).toNat : Int)), Is (.agg #[.string (str (l.take at_)), .int .i64 0, .int .i64 ((l[at_]'x0).toNat : Int)]), NewBlk (w.heap.size + 1) 27 [.string ⟨#[]⟩, .int .i64 0, .int .i64 0]] (by kernel_rfl) (by kernel_rfl) (by kernel_rfl) (by kernel_rfl) rfl rfl ⟨Is.stable _, Is.stable _, Is.stable _, Is.stable _, Is.stable _, Is.stable _, Is.stable _, Is.stable _, NewBlk.stable _ _ _, trivial⟩ ⟨?s0, ?s1, ?s2, ?s3, ?s4, ?s5, ?s6, ?s7, ?s8, trivial⟩ ?fin
    case' s0 | s1 | s2 | s3 | s4 | s5 | s6 | s7 | s8 =>
      intro ρ wr hρ hg hK
      simp [readsOf, slotsOf, Op.operands, Call.operands, tmpOf, List.filterMap_cons, List.filterMap_nil, KnownAll, knownOf, srcOf, depsOf, dstOf, Region.binds, nth, Is] at hK
      obtain ⟨hc, hf, hgl⟩ := hρ
      try simp only [wantedBy, dstOf, boolOf, nth, List.getD_cons_zero, List.getD_cons_succ, List.getElem?_cons_zero, List.getElem?_cons_succ, Option.bind_some, if_true, hK, BEq.rfl]
      try go_simp
      first | exact rfl | (rw [if_pos (by omega)]; exact is_here rfl) | (rw [dif_pos (by omega)]; exact is_here rfl) | exact congrArg (Value.int _) (IntWalk.i64_in _ ⟨by omega, by omega⟩) | skip
    case s8 => exact ⟨Gr.alloc _ _, wr.heap.size, rfl, by have := hg.size; simp at this; omega, Blk.new _ _ _⟩
    case fin =>
      intro w1 val hg hH
      simp only [Holds, Is, Nat.zero_add, Nat.reduceAdd] at hH
      obtain ⟨h0, h1, h2, h3, h4, h5, h6, h7, h8, _⟩ := hH
      simp only [List.take_succ_cons, List.take_zero, List.drop_succ_cons, List.drop_zero, putAll, h0, h1, h2, h3, h4, h5, h6, h7, Nat.zero_add, Nat.reduceAdd]
      obtain ⟨g, h8, hgB, hbl⟩ := h8
      simp only [h8]
      go_simp
      obtain ⟨c0, c1, c2, f0, f1, f2⟩ := hbl.three
      go_wp2
      have hne : w.heap.size ≠ g := by omega
      have hb2 := ((hbl.set_ 0 (.string (str (l.take at_)))).set_ 1 (.int .i64 0)).set_ 2 (.int .i64 ((l[at_]'x0).toNat : Int))
      have hr2 := ((Blk.of1 hg).far (p := ⟨g, 0, none⟩) hne (.string (str (l.take at_)))).far (p := ⟨g, 1, none⟩) hne (.int .i64 0) |>.far (p := ⟨g, 2, none⟩) hne (.int .i64 ((l[at_]'x0).toNat : Int))
      have hgw := ((((Gr.alloc w _).trans hg).setCell (p := ⟨g, 0, none⟩) (by show w.heap.size ≤ g; omega) (.string (str (l.take at_)))).setCell (p := ⟨g, 1, none⟩) (by show w.heap.size ≤ g; omega) (.int .i64 0)).setCell (p := ⟨g, 2, none⟩) (by show w.heap.size ≤ g; omega) (.int .i64 ((l[at_]'x0).toNat : Int))
      have hk0 : l[at_]'x0 = m[0]'(H8.out ▸ (by omega)) := HI.out 0 x0 (H8.out ▸ (by omega))
      simp only [List.set_cons_zero, List.set_cons_succ] at hb2
      have HK := Lib.hid hk0
      clear hk0 c0 c1 c2 f0 f1 f2 hbl h0 h1 h2 h3 h4 h5 h6 h7 h8 hg
      have htl : (l.take at_).length = at_ := by simp; omega
      have HTL := Lib.hid htl
      have HAT := Lib.hid hat
      have hin : ∀ i, i < 8 → at_ + i < l.length := fun i hi => by omega
      clear htl
      generalize l[at_]'x0 = x at *
      have hmx : at_ + 8 ≤ 9223372036854775807 := by omega
      clear hat
      go_loopw [6] (fun i wr => ∃ k : Nat, k ≤ 7 ∧ i = .int .i64 (k : Int) ∧ Blk wr g 27 [.string (str (l.take at_)), .int .i64 (le (m.drop (k + 1)) : Nat), .int .i64 (x.toNat : Int)] ∧ Blk wr w.heap.size 27 [.string ⟨#[]⟩, .int .i64 0, .int .i64 0] ∧ Gr w wr) (fun i _ => (intOf i).toNat)
      case atStart => exact ⟨7, by omega, rfl, by rw [show m.drop 8 = [] from List.drop_of_length_le (by rw [H8.out]; exact Nat.le_refl _)]; exact hb2, hr2, hgw⟩
      case round =>
        obtain ⟨k, hk, rfl, hb, hr, hg⟩ := hrel
        obtain ⟨c0, c1, c2, f0, f1, f2⟩ := hb.three
        by_cases hk1 : 1 ≤ k
        · have hs := seq_step m k (by rw [H8.out]; omega)
          have hl := le_drop_lt m (k + 1) H8.out (by omega)
          have hl2 := le_drop_lt m k H8.out hk1
          have hi2 := hin k (by omega)
          have hx2 : l[at_ + k]'hi2 = m[k]'(by rw [H8.out]; omega) := HI.out k hi2 (by rw [H8.out]; omega)
          have hb3 := hb.set_ 1 (.int .i64 (le (m.drop k) : Nat))
          simp only [List.set_cons_zero, List.set_cons_succ] at hb3
          have hr3 := hr.far (p := ⟨g, 1, none⟩) hne (.int .i64 (le (m.drop k) : Nat))
          have hby := byte_hi (m[k]'(by rw [H8.out]; omega))
          have e1 : IntKind.i64.wrap ((le (m.drop (k + 1)) : Nat) * 256) = (le (m.drop (k + 1)) : Nat) * 256 := IntWalk.i64_in _ ⟨by omega, by omega⟩
          have e2 : IntKind.i64.wrap ((at_ : Int) + (k : Int)) = (at_ : Int) + (k : Int) := IntWalk.i64_in _ ⟨by omega, by omega⟩
          have e3 : IntKind.i64.wrap ((le (m.drop (k + 1)) : Nat) * 256 + ((m[k]'(by rw [H8.out]; omega)).toNat : Int)) = (le (m.drop k) : Nat) := by rw [IntWalk.i64_in _ ⟨by omega, by omega⟩]; omega
          have E1 := Lib.hid e1; have E2 := Lib.hid e2; have E3 := Lib.hid e3; have HX2 := Lib.hid hx2
          have HS := Lib.hid hs
          clear e1 e2 e3 hs hx2
          have hi3 : (at_ : Int) + (k : Int) < (l.length : Int) := by omega
          have hi4 : 0 ≤ (at_ : Int) + (k : Int) := by omega
          have hi5 : ((at_ : Int) + (k : Int)).toNat = at_ + k := by omega
          have HI5 := Lib.hid hi5; clear hi5
          go_wp2
          have e1 := E1.out; have e2 := E2.out; have e3 := E3.out; have hx2 := HX2.out; have hi5 := HI5.out
          go_still_tail 11, (by kernel_rfl)
          clear e1 e2 e3 hx2 hi5
          go_wp2
          go_roundw
          case rel =>
            have ev : wrap64 ((le (m.drop (k + 1)) : Nat) * 256 + ((m[k]'(by rw [H8.out]; omega)).toNat : Int)) = (le (m.drop k) : Nat) := by
              have := HS.out
              rw [IntWalk.wrap64_in _ ⟨by omega, by omega⟩]; omega
            rw [ev]
            exact ⟨k - 1, by omega, by go_num, by rw [Nat.sub_add_cancel hk1]; exact hb3, hr3, (hg.setCell (p := ⟨g, 1, none⟩) (by show w.heap.size ≤ g; omega) _).trans (Gr.drew _)⟩
          case measure => simp [intOf]; omega
        · obtain rfl : k = 0 := by omega
          have hq : (le m) = x.toNat + 256 * le (m.drop 1) := by
            have := seq_step m 0 (by rw [H8.out]; omega)
            rw [HK.out]
            exact this
          have hx3 : x.toNat < 256 := by omega
          have hq1 : le m / 256 = le (m.drop 1) := by omega
          have hq2 : le m % 256 = x.toNat := by omega
          have HR := Lib.hid (fun w => rRight_any (l.take at_) ((le (m.drop 1) : Nat) : Int) (x.toNat : Int) w)
          have HQ1 := Lib.hid hq1; have HQ2 := Lib.hid hq2
          clear hq hq1 hq2
          have HO := HD.out
          unfold ofF at HO
          rw [HQ1.out, HQ2.out] at HO
          simp only [Nat.zero_add] at c1 hb
          generalize le (m.drop 1) = S at *
          cases ho : okV (l.take at_) (S : Int) (x.toNat : Int) with
          | true =>
            rw [ho] at HR HO
            have HO2 := Lib.hid HO
            clear HO ho
            unfold ver at HR
            go_wp2_with (go_at_call 14; (with_reducible refine (HR.out _).mono ?_); rintro e w2 ⟨rfl, g2⟩; obtain ⟨c0, c1, c2, f0, f1, f2⟩ := (hb.gr g2).three; obtain ⟨r0, r1, r2, q0, q1, q2⟩ := (hr.gr g2).three)
            refine bodyPost_ret (v := outV (some (l.take at_, S, x.toNat))) (by simp [results, Try.results11, go_sem, outV, ver, r0, r1, r2]) rfl ⟨by rw [HO2.out]; rfl, ?_⟩
            exact ((hg.trans g2).setCell (Nat.le_refl _) _).setCell (Nat.le_refl _) _ |>.setCell (Nat.le_refl _) _
          | false =>
            rw [ho] at HR HO
            have HO2 := Lib.hid HO
            clear HO ho
            unfold ver at HR
            go_wp2_with (go_at_call 14; (with_reducible refine (HR.out _).mono ?_); rintro e w2 ⟨rfl, g2⟩; obtain ⟨c0, c1, c2, f0, f1, f2⟩ := (hb.gr g2).three; obtain ⟨r0, r1, r2, q0, q1, q2⟩ := (hr.gr g2).three)
            refine bodyPost_ret (v := outV none) (by simp [results, Try.results11, go_sem, outV, ver, r0, r1, r2]; rfl) rfl ⟨by rw [HO2.out]; rfl, ?_⟩
            exact ((hg.trans g2).setCell (Nat.le_refl _) _).setCell (Nat.le_refl _) _ |>.setCell (Nat.le_refl _) _
end Go.Proofs.Ytnjnehegfdimaaa
