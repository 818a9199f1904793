/- Layer 14 (table): the reference's lay walked. -/
import Derived.Test.YtlfbelocdpboeaaGreatDoorTabDoc3
namespace Go.Proofs.YtlfbelocdpboeaaGreatDoor
set_option linter.unusedVariables false
set_option linter.unusedSimpArgs false
open Go.RowKit Tab
theorem keys_app (A : List Ci) (c : Ci) : keysF (A ++ [c]) = addK (keysF A) c.key := by
  unfold keysF
  rw [List.map_append]
  exact once_snoc _ _
theorem addK_lastL {K : List (List UInt8)} {k : List UInt8} (h : 0 < K.length) : addK K k = if K[K.length - 1] = k then K else K ++ [k] := by
  unfold addK
  rw [List.getLast?_eq_getElem?, List.getElem?_eq_getElem (by omega)]
  by_cases he : K[K.length - 1] = k
  · rw [if_pos (by rw [he]), if_pos he]
  · rw [if_neg (fun e => he (Option.some.inj e)), if_neg he]
theorem sv_appendL (a b : List (List UInt8)) : sv (a ++ b) = sv a ++ sv b := by simp [sv]
structure DlI (w : World) (L : List (List Ci)) (i : Nat) (adx : Option Addr) (cx : Nat) (K : List (List UInt8)) (adk : Option Addr) (ck : Nat) (wr : World) : Prop where
  gr : Gr w wr
  x : Owns wr w.heap.size 72 2 adx cx i (pv ((List.range i).map (idxAt L)))
  k : Owns wr w.heap.size 9 1 adk ck K.length (sv K)
theorem DlI.more {w : World} {L : List (List Ci)} {i : Nat} {adx : Option Addr} {cx : Nat} {K : List (List UInt8)} {adk : Option Addr} {ck : Nat} {wr wk : World} (h : DlI w L i adx cx K adk ck wr) (k : Gr wr wk) : DlI w L i adx cx K adk ck wk := ⟨h.gr.trans k, h.x.gr k, h.k.gr k⟩
set_option maxRecDepth 100000 in
set_option maxHeartbeats 8000000 in
theorem dlay_any (ad : Option Addr) (cap : Nat) (L : List (List Ci)) (vs : List Value) (bits : Int) (w : World) (hr : Row w ad vs) (hs : SlsOf L vs w) (hne : ∀ r ∈ L, r ≠ []) (hL : L.length ≤ 5000) (hfl : L.flatten.length ≤ 5000)
    (hk : ∀ r ∈ L, ∀ c ∈ r, (pairC c).1.length ≤ 1000) (hsh : Short (keysF L.flatten)) (h1 : 1 ≤ bits) (h2 : bits ≤ 64) (hsz : (layF L (buildF (keysF L.flatten) bits).1).length ≤ 1000000000) :
    Calls Tryz.prog 17 #[.slice ad L.length cap, .int .i64 bits] w fun e w' => e = .returned (.string (str (layF L (buildF (keysF L.flatten) bits).1))) ∧ Gr w w' := by
  have hlp := lay_parts L (buildF (keysF L.flatten) bits).1
  have HR := Lib.hid hr; have HS := Lib.hid hs; have HNE := Lib.hid hne; have HKL := Lib.hid hk; have HFL := Lib.hid hfl; have HSH := Lib.hid hsh
  have HI0 := Lib.hid (show DlI w L 0 none 0 (keysF []) none 0 w from ⟨Gr.refl _, Owns.empty _ _ _ _, Owns.empty _ _ _ _⟩)
  have hbl : (bodyF L).length ≤ 1000000000 := by omega
  have HLP := Lib.hid hlp
  have HSZ := Lib.hid hsz
  obtain ⟨LF, hLF⟩ : ∃ LF, LF = layF L (buildF (keysF L.flatten) bits).1 := ⟨_, rfl⟩
  rw [← hLF]
  have HLF := Lib.hid hLF
  clear hr hs hne hk hfl hsh hlp hsz hLF
  go_enter Tryz.func17, Tryz.ntmps17
  go_wp2
  go_loopw [5, 6, 7, 8, 9] (fun vb vx vk vc vi wr => ∃ (i : Nat) (adx : Option Addr) (cx : Nat) (adk : Option Addr) (ck : Nat), vi = .int .i64 (i : Int) ∧ vb = .string (str (bodyF (L.take i))) ∧ vx = .slice adx i cx ∧ vk = .slice adk (keysF (L.take i).flatten).length ck ∧ vc = .int .i64 ((L.take i).flatten.length : Int) ∧ i ≤ L.length ∧ DlI w L i adx cx (keysF (L.take i).flatten) adk ck wr) (fun _ _ _ _ vi _ => L.length - (intOf vi).toNat)
  case atStart => exact ⟨0, none, 0, none, 0, rfl, rfl, rfl, rfl, rfl, Nat.zero_le _, HI0.out⟩
  case round =>
    clear HI0
    obtain ⟨i, adx, cx, adk, ck, rfl, rfl, rfl, rfl, rfl, hi, hI⟩ := hrel
    by_cases hlt : i < L.length
    · skip
      --<<loop
      obtain ⟨v, hv, adr, capr, rfl, hrc, hrr⟩ := HS.out.2 i hlt
      obtain ⟨bB, oB, hadB, zB⟩ := (HR.out.gr hI.gr) i _ hv
      subst hadB
      have hmem : L[i] ∈ L := List.getElem_mem hlt
      have hrn := HNE.out _ hmem
      have hrk := HKL.out _ hmem
      have HV := Lib.hid hv; have HRr := Lib.hid hrr; have HRk := Lib.hid hrk
      have HBs := Lib.hid (body_snoc hlt)
      have hble := body_le L i
      have hble2 := body_le L (i + 1)
      have hft : (L.take (i + 1)).flatten = (L.take i).flatten ++ L[i] := by rw [List.take_add_one, List.getElem?_eq_getElem hlt, List.flatten_append]; simp
      have hfle : (L.take (i + 1)).flatten.length ≤ L.flatten.length := by
        have e := congrArg (fun x => x.flatten.length) (List.take_append_drop (i + 1) L)
        simp only [List.flatten_append, List.length_append] at e
        omega
      have hcr : (L.take i).flatten.length + L[i].length ≤ 5000 := by
        have h1 := HFL.out
        rw [hft, List.length_append] at hfle
        omega
      have hrl : L[i].length ≤ capr := hrc
      have HFt := Lib.hid hft
      have HGD := Lib.hid (getD_get (L := L) [] hlt)
      have HIx := Lib.hid (show (List.range (i + 1)).map (idxAt L) = (List.range i).map (idxAt L) ++ [idxAt L i] by rw [List.range_succ, List.map_append]; rfl)
      have HIA := Lib.hid (show idxAt L i = (if i + 1 < L.length then Ikey.partF (lastK (L.getD i [])) (headK (L.getD (i + 1) [])) else lastK (L.getD i []), Varint.putF (bodyF (L.take i)).length ++ Varint.putF (runB (L.getD i [])).length) from rfl)
      rw [HGD.out] at HIA
      have HI := Lib.hid hI
      have hkf := keys_len (L.take i).flatten
      clear hI hv hrr hrk hfle hft hrc
      generalize hrr0 : L[i] = r at *
      clear hrr0 hmem HGD
      generalize hA : (L.take i).flatten = A at *
      have HA := Lib.hid hA
      clear hA
      go_wp2
      obtain ⟨W0, hW0⟩ : ∃ x, x = wr := ⟨_, rfl⟩
      subst hW0
      have HXl := Lib.hid (show ∀ a, adx = some a → a.block < W0.heap.size from fun a ha => (HI.out.x.lt a ha).2)
      have HW0 := Lib.hid HI.out.gr.size
      go_loopw [7, 8, 10, 11] (fun vk vc vl vj wk => ∃ (k : Nat) (adl : Option Addr) (cl : Nat) (adk2 : Option Addr) (ck2 : Nat), vj = .int .i64 (k : Int) ∧ vl = .slice adl k cl ∧ vk = .slice adk2 (keysF (A ++ r.take k)).length ck2 ∧ vc = .int .i64 ((A.length : Int) + (k : Int)) ∧ k ≤ r.length ∧ W0.heap.size ≤ wk.heap.size ∧ Owns wk W0.heap.size 72 2 adl cl k (pv ((r.take k).map pairC)) ∧ DlI w L i adx cx (keysF (A ++ r.take k)) adk2 ck2 wk) (fun _ _ _ vj _ => r.length - (intOf vj).toNat)
      case atStart =>
        have e : A ++ r.take 0 = A := by rw [List.take_zero, List.append_nil]
        exact ⟨0, none, 0, adk, ck, rfl, rfl, by rw [e], by simp, Nat.zero_le _, Nat.le_refl _, Owns.empty _ _ _ _, by rw [e]; exact HI.out⟩
      case round =>
        obtain ⟨k, adl, cl, adk2, ck2, rfl, rfl, rfl, rfl, hk, hsw, hO, hD⟩ := hrel
        clear zB
        obtain ⟨bB', oB', hadB', zB⟩ := (HR.out.gr hD.gr) i _ HV.out
        cases hadB'
        by_cases hkl : k < r.length
        · obtain ⟨bc, oc, hade, e0, e1, e2, e3⟩ := (HRr.out.gr hD.gr).ci k hkl
          subst hade
          have HT := Lib.hid (show pv ((r.take (k + 1)).map pairC) = pv ((r.take k).map pairC) ++ [.string (str (pairC r[k]).1), .string (str r[k].val)] by rw [List.take_add_one, List.getElem?_eq_getElem hkl, List.map_append, pv_append]; rfl)
          have HPr := Lib.hid (fun w' => dpair_any r[k] w')
          have HKs := Lib.hid (show keysF (A ++ r.take (k + 1)) = addK (keysF (A ++ r.take k)) r[k].key by rw [List.take_succ_eq_append_getElem hkl, ← List.append_assoc, keys_app])
          have hkf2 : (keysF (A ++ r.take k)).length ≤ 5000 := by
            have h1 := keys_len (A ++ r.take k)
            rw [List.length_append, List.length_take] at h1
            omega
          have hkcap : k < capr := by omega
          generalize (pairC r[k]).1 = K at HT HPr
          generalize hrk0 : r[k] = c at *
          obtain ⟨ck0, cs, cd, cval⟩ := c
          simp only at e0 e1 e2 e3 HT HPr HKs
          have HRK := Lib.hid hrk0
          clear hrk0
          generalize keysF (A ++ r.take k) = Kc at *
          have HO := Lib.hid hO
          have HD := Lib.hid hD
          have m1 : k + 1 ≤ maxLen := by unfold maxLen; omega
          have m2 : (k + 1) * 32 ≤ 140737488355328 := by omega
          have m3 : Kc.length + 1 ≤ maxLen := by unfold maxLen; omega
          have m4 : (Kc.length + 1) * 16 ≤ 140737488355328 := by omega
          clear hO hD
          go_wp2_with (first
            | (go_at_call 42; refine (HPr.out _).mono ?_; rintro e w2 ⟨rfl, g2⟩
               have G3 := Lib.hid (g2.trans (Gr.alloc w2 (.cells #[.string (str K), .string (str cval)] 72))))
            | (at_builtin; go_must (refine wp_append elemP rfl _ _ rfl rfl (HO.out.gr G3.out) rfl (one_srcg _ K cval _ Tryz.underlying65 _ (by simp)) m1 m2 (Nat.le_trans hsw G3.out.size) ?_); intro ad5 c5 w5 o5 k5 f5
               have HK5 := Lib.hid k5
               have HO5 := Lib.hid o5
               have HD5 := Lib.hid (DlI.mk (L := L) (i := i) (w := w) (grown_own (HD.out.gr.trans G3.out) k5 HO.out HW0.out) ((HD.out.x.gr G3.out).grown k5 (fun x hx e => by
                 obtain ⟨y, hy, e2⟩ := Option.map_eq_some_iff.1 e.symm
                 have h1 := HXl.out x hx
                 have h2 := (HO.out.lt y hy).1
                 omega)) ((HD.out.k.gr G3.out).grown k5 (fun x hx e => by
                 obtain ⟨y, hy, e2⟩ := Option.map_eq_some_iff.1 e.symm
                 exact (HD.out.k.gr G3.out).ne (HO.out.gr G3.out) (by decide) x y hx hy e2.symm)))
               have hs5 := Nat.le_trans hsw (Nat.le_trans G3.out.size k5.size)
               clear o5 k5 f5 e0 e1 e2 e3 zB)
            | fail)
          obtain ⟨bB', oB', hadB', zB⟩ := (HR.out.gr HD5.out.gr) i _ HV.out
          cases hadB'
          obtain ⟨bc', oc', hade', e0, _⟩ := (HRr.out.gr HD5.out.gr).ci k hkl
          cases hade'
          rw [HRK.out] at e0
          simp only at e0
          clear HPr HRK G3 HK5 HO
          by_cases hk0 : Kc.length = 0
          · have hK := List.eq_nil_of_length_eq_zero hk0
            subst hK
            have HX := Lib.hid (show keysF (A ++ r.take (k + 1)) = [] ++ [ck0] from HKs.out)
            clear HKs hk0
            refine region_any_gr _ [Is (.slice adk2 0 ck2), Is (.int .i64 0), Is (.bool true), Is (.bool true), Is (undef), Is (undef), Is (undef), Is (undef), Is (undef), Is (undef), Is (undef), Is (undef), Is (undef), Is (undef), Is (undef), Is (undef), Is (undef), Is (undef), Is (undef), Is (undef), Is (.bool true)] (by kernel_rfl) (by kernel_rfl) (by kernel_rfl) rfl rfl ⟨Is.stable _, Is.stable _, Is.stable _, Is.stable _, Is.stable _, Is.stable _, Is.stable _, Is.stable _, Is.stable _, Is.stable _, Is.stable _, Is.stable _, Is.stable _, Is.stable _, Is.stable _, Is.stable _, Is.stable _, Is.stable _, Is.stable _, Is.stable _, Is.stable _, trivial⟩ ⟨?s0, ?s1, ?s2, ?s3, ?s4, ?s5, ?s6, ?s7, ?s8, ?s9, ?s10, ?s11, ?s12, ?s13, ?s14, ?s15, ?s16, ?s17, ?s18, ?s19, ?s20, trivial⟩ ?fin
            case' s0 | s1 | s2 | s3 | s4 | s5 | s6 | s7 | s8 | s9 | s10 | s11 | s12 | s13 | s14 | s15 | s16 | s17 | s18 | s19 | s20 =>
              intro ρ wr hρ hg hK
              simp [readsOf, slotsOf, Op.operands, Call.operands, tmpOf, List.filterMap_cons, List.filterMap_nil, KnownAll, knownOf, srcOf, depsOf, dstOf, Region.binds, nth, Is] at hK
              obtain ⟨hc, hf, hgl⟩ := hρ
              try simp only [wantedBy, dstOf, boolOf, nth, List.getD_cons_zero, List.getD_cons_succ, List.getElem?_cons_zero, List.getElem?_cons_succ, Option.bind_some, if_true, hK, BEq.rfl]
              try go_simp
              first | exact rfl | (rw [if_pos (by omega)]; exact is_here rfl) | (rw [dif_pos (by omega)]; exact is_here rfl) | exact congrArg (Value.int _) (IntWalk.i64_in _ ⟨by omega, by omega⟩) | skip
            case fin =>
              intro w1 val hg hH
              simp only [Holds, Is, Nat.zero_add, Nat.reduceAdd] at hH
              obtain ⟨h0, h1, h2, h3, h4, h5, h6, h7, h8, h9, h10, h11, h12, h13, h14, h15, h16, h17, h18, h19, h20, _⟩ := hH
              simp only [List.take_succ_cons, List.take_zero, List.drop_succ_cons, List.drop_zero, putAll, h0, h1, h2, h3, h4, h5, h6, h7, h8, h9, h10, h11, h12, h13, h14, h15, h16, h17, h18, h19, h20, Nat.zero_add, Nat.reduceAdd]
              have HD6 := Lib.hid (HD5.out.more (hg.trans (Gr.alloc w1 (.cells #[.string (str ck0)] 9))))
              have HO6 := Lib.hid (HO5.out.gr (hg.trans (Gr.alloc w1 (.cells #[.string (str ck0)] 9))))
              have hs6 := Nat.le_trans hs5 (hg.trans (Gr.alloc w1 (.cells #[.string (str ck0)] 9))).size
              replace e0 := hg.cell e0
              replace zB := hg.cell zB
              go_simp
              go_wp2_with (first
                | (at_builtin; go_must (refine wp_append elemS rfl _ _ rfl rfl HD6.out.k rfl (src_cellg _ (.string (str ck0)) rfl Tryz.underlying57 _ (by simp)) m3 m4 HD6.out.gr.size ?_); intro ad7 c7 w7 o7 k7 f7)
                | fail)
              go_roundw
              case rel =>
                refine ⟨k + 1, ad5, c5, ad7, c7, by go_num, rfl, by rw [HX.out]; simp, by congr 1 <;> omega, hkl, Nat.le_trans hs6 k7.size, ?_, ?_⟩
                · rw [HT.out]
                  exact HO6.out.grown k7 (fun x hx e => by
                    obtain ⟨y, hy, e2⟩ := Option.map_eq_some_iff.1 e.symm
                    exact HO6.out.ne HD6.out.k (by decide) x y hx hy e2.symm)
                · rw [HX.out]
                  refine ⟨grown_own HD6.out.gr k7 HD6.out.k (Nat.le_refl _), HD6.out.x.grown k7 (fun x hx e => by
                    obtain ⟨y, hy, e2⟩ := Option.map_eq_some_iff.1 e.symm
                    exact HD6.out.x.ne HD6.out.k (by decide) x y hx hy e2.symm), ?_⟩
                  rw [sv_appendL, List.length_append]
                  exact o7
              case measure => simp [intOf]; omega
          · have hkp : 0 < Kc.length := by omega
            obtain ⟨m, hm⟩ : ∃ m, m = Kc.length - 1 := ⟨_, rfl⟩
            have hmk : m < Kc.length := by omega
            have hmI : (Kc.length : Int) - 1 = (m : Int) := by omega
            have hkb : ((Kc.length : Int) == 0) = false := by rw [beq_eq_false_iff_ne]; omega
            obtain ⟨gk, had, _, z0⟩ := HD5.out.k.at (sv_get Kc m hmk)
            subst had
            have hX := HKs.out
            rw [addK_lastL hkp] at hX
            simp only [← hm] at hX
            have hck := HD5.out.k.2.1
            have hmc : m < ck2 := by omega
            have hkI : (Kc.length : Int) ≤ 5000 := by omega
            generalize Kc[m] = s at *
            clear hm hk0 HKs
            by_cases hs : s = ck0
            · rw [if_pos hs] at hX
              have HX := Lib.hid hX
              have hsb : (s == ck0) = true := by rw [hs]; exact beq_self_eq_true _
              clear hX
              subst hs
              refine region_any_gr _ [Is (.slice (some ⟨gk, 0, none⟩) Kc.length ck2), Is (.int .i64 (Kc.length : Int)), Is (.bool false), Is (.bool false), Is (.slice (some ⟨gk, 0, none⟩) Kc.length ck2), Is (.slice (some ⟨gk, 0, none⟩) Kc.length ck2), Is (.int .i64 (Kc.length : Int)), Is (.int .i64 (m : Int)), Is (.pointer (some ⟨gk, m, none⟩)), Is (.string (str s)), Is (.slice (some ⟨bB, oB, none⟩) L.length cap), Is (.int .i64 (i : Int)), Is (.pointer (some ⟨bB, oB + i, none⟩)), Is (.slice (some ⟨bc, oc, none⟩) r.length capr), Is (.int .i64 (k : Int)), Is (.pointer (some ⟨bc, oc + k * 4, none⟩)), Is (.pointer (some ⟨bc, oc + k * 4, none⟩)), Is (.pointer (some ⟨bc, oc + k * 4, none⟩)), Is (.string (str s)), Is (.bool false), Is (.bool false)] (by kernel_rfl) (by kernel_rfl) (by kernel_rfl) rfl rfl ⟨Is.stable _, Is.stable _, Is.stable _, Is.stable _, Is.stable _, Is.stable _, Is.stable _, Is.stable _, Is.stable _, Is.stable _, Is.stable _, Is.stable _, Is.stable _, Is.stable _, Is.stable _, Is.stable _, Is.stable _, Is.stable _, Is.stable _, Is.stable _, Is.stable _, trivial⟩ ⟨?s0x1, ?s1x1, ?s2x1, ?s3x1, ?s4x1, ?s5x1, ?s6x1, ?s7x1, ?s8x1, ?s9x1, ?s10x1, ?s11x1, ?s12x1, ?s13x1, ?s14x1, ?s15x1, ?s16x1, ?s17x1, ?s18x1, ?s19x1, ?s20x1, trivial⟩ ?finx1
              case' s0x1 | s1x1 | s2x1 | s3x1 | s4x1 | s5x1 | s6x1 | s7x1 | s8x1 | s9x1 | s10x1 | s11x1 | s12x1 | s13x1 | s14x1 | s15x1 | s16x1 | s17x1 | s18x1 | s19x1 | s20x1 =>
                intro ρ wr hρ hg hK
                simp [readsOf, slotsOf, Op.operands, Call.operands, tmpOf, List.filterMap_cons, List.filterMap_nil, KnownAll, knownOf, srcOf, depsOf, dstOf, Region.binds, nth, Is] at hK
                obtain ⟨hc, hf, hgl⟩ := hρ
                try simp only [wantedBy, dstOf, boolOf, nth, List.getD_cons_zero, List.getD_cons_succ, List.getElem?_cons_zero, List.getElem?_cons_succ, Option.bind_some, if_true, hK, BEq.rfl]
                try go_simp
                first | exact rfl | (rw [if_pos (by omega)]; exact is_here rfl) | (rw [dif_pos (by omega)]; exact is_here rfl) | exact congrArg (Value.int _) (IntWalk.i64_in _ ⟨by omega, by omega⟩) | skip
              case s9x1 => have z := hg.cell z0; go_simp; exact rfl
              case s13x1 => have z := hg.cell zB; go_simp; exact rfl
              case s18x1 => have z := hg.cell e0; go_simp; exact rfl
              case finx1 =>
                intro w1 val hg hH
                simp only [Holds, Is, Nat.zero_add, Nat.reduceAdd] at hH
                obtain ⟨h0, h1, h2, h3, h4, h5, h6, h7, h8, h9, h10, h11, h12, h13, h14, h15, h16, h17, h18, h19, h20, _⟩ := hH
                simp only [List.take_succ_cons, List.take_zero, List.drop_succ_cons, List.drop_zero, putAll, h0, h1, h2, h3, h4, h5, h6, h7, h8, h9, h10, h11, h12, h13, h14, h15, h16, h17, h18, h19, h20, Nat.zero_add, Nat.reduceAdd]
                have HD6 := Lib.hid (HD5.out.more hg)
                have HO6 := Lib.hid (HO5.out.gr hg)
                have hs6 := Nat.le_trans hs5 hg.size
                go_simp
                go_wp2
                go_roundw
                case rel => exact ⟨k + 1, ad5, c5, some ⟨gk, 0, none⟩, ck2, by go_num, rfl, by rw [HX.out], by congr 1 <;> omega, hkl, hs6, by rw [HT.out]; exact HO6.out, by rw [HX.out]; exact HD6.out⟩
                case measure => simp [intOf]; omega
            · rw [if_neg hs] at hX
              have HX := Lib.hid hX
              have hsb : (s == ck0) = false := by rw [beq_eq_false_iff_ne]; exact hs
              have hsb2 : (s != ck0) = true := by rw [bne_iff_ne]; exact hs
              clear hX hs
              refine region_any_gr _ [Is (.slice (some ⟨gk, 0, none⟩) Kc.length ck2), Is (.int .i64 (Kc.length : Int)), Is (.bool false), Is (.bool false), Is (.slice (some ⟨gk, 0, none⟩) Kc.length ck2), Is (.slice (some ⟨gk, 0, none⟩) Kc.length ck2), Is (.int .i64 (Kc.length : Int)), Is (.int .i64 (m : Int)), Is (.pointer (some ⟨gk, m, none⟩)), Is (.string (str s)), Is (.slice (some ⟨bB, oB, none⟩) L.length cap), Is (.int .i64 (i : Int)), Is (.pointer (some ⟨bB, oB + i, none⟩)), Is (.slice (some ⟨bc, oc, none⟩) r.length capr), Is (.int .i64 (k : Int)), Is (.pointer (some ⟨bc, oc + k * 4, none⟩)), Is (.pointer (some ⟨bc, oc + k * 4, none⟩)), Is (.pointer (some ⟨bc, oc + k * 4, none⟩)), Is (.string (str ck0)), Is (.bool true), Is (.bool true)] (by kernel_rfl) (by kernel_rfl) (by kernel_rfl) rfl rfl ⟨Is.stable _, Is.stable _, Is.stable _, Is.stable _, Is.stable _, Is.stable _, Is.stable _, Is.stable _, Is.stable _, Is.stable _, Is.stable _, Is.stable _, Is.stable _, Is.stable _, Is.stable _, Is.stable _, Is.stable _, Is.stable _, Is.stable _, Is.stable _, Is.stable _, trivial⟩ ⟨?s0x2, ?s1x2, ?s2x2, ?s3x2, ?s4x2, ?s5x2, ?s6x2, ?s7x2, ?s8x2, ?s9x2, ?s10x2, ?s11x2, ?s12x2, ?s13x2, ?s14x2, ?s15x2, ?s16x2, ?s17x2, ?s18x2, ?s19x2, ?s20x2, trivial⟩ ?finx2
              case' s0x2 | s1x2 | s2x2 | s3x2 | s4x2 | s5x2 | s6x2 | s7x2 | s8x2 | s9x2 | s10x2 | s11x2 | s12x2 | s13x2 | s14x2 | s15x2 | s16x2 | s17x2 | s18x2 | s19x2 | s20x2 =>
                intro ρ wr hρ hg hK
                simp [readsOf, slotsOf, Op.operands, Call.operands, tmpOf, List.filterMap_cons, List.filterMap_nil, KnownAll, knownOf, srcOf, depsOf, dstOf, Region.binds, nth, Is] at hK
                obtain ⟨hc, hf, hgl⟩ := hρ
                try simp only [wantedBy, dstOf, boolOf, nth, List.getD_cons_zero, List.getD_cons_succ, List.getElem?_cons_zero, List.getElem?_cons_succ, Option.bind_some, if_true, hK, BEq.rfl]
                try go_simp
                first | exact rfl | (rw [if_pos (by omega)]; exact is_here rfl) | (rw [dif_pos (by omega)]; exact is_here rfl) | exact congrArg (Value.int _) (IntWalk.i64_in _ ⟨by omega, by omega⟩) | skip
              case s9x2 => have z := hg.cell z0; go_simp; exact rfl
              case s13x2 => have z := hg.cell zB; go_simp; exact rfl
              case s18x2 => have z := hg.cell e0; go_simp; exact rfl
              case finx2 =>
                intro w1 val hg hH
                simp only [Holds, Is, Nat.zero_add, Nat.reduceAdd] at hH
                obtain ⟨h0, h1, h2, h3, h4, h5, h6, h7, h8, h9, h10, h11, h12, h13, h14, h15, h16, h17, h18, h19, h20, _⟩ := hH
                simp only [List.take_succ_cons, List.take_zero, List.drop_succ_cons, List.drop_zero, putAll, h0, h1, h2, h3, h4, h5, h6, h7, h8, h9, h10, h11, h12, h13, h14, h15, h16, h17, h18, h19, h20, Nat.zero_add, Nat.reduceAdd]
                have HD6 := Lib.hid (HD5.out.more (hg.trans (Gr.alloc w1 (.cells #[.string (str ck0)] 9))))
                have HO6 := Lib.hid (HO5.out.gr (hg.trans (Gr.alloc w1 (.cells #[.string (str ck0)] 9))))
                have hs6 := Nat.le_trans hs5 (hg.trans (Gr.alloc w1 (.cells #[.string (str ck0)] 9))).size
                replace e0 := hg.cell e0
                replace zB := hg.cell zB
                go_simp
                go_wp2_with (first
                  | (at_builtin; go_must (refine wp_append elemS rfl _ _ rfl rfl HD6.out.k rfl (src_cellg _ (.string (str ck0)) rfl Tryz.underlying57 _ (by simp)) m3 m4 HD6.out.gr.size ?_); intro ad7 c7 w7 o7 k7 f7)
                  | fail)
                go_roundw
                case rel =>
                  refine ⟨k + 1, ad5, c5, ad7, c7, by go_num, rfl, by rw [HX.out]; simp, by congr 1 <;> omega, hkl, Nat.le_trans hs6 k7.size, ?_, ?_⟩
                  · rw [HT.out]
                    exact HO6.out.grown k7 (fun x hx e => by
                      obtain ⟨y, hy, e2⟩ := Option.map_eq_some_iff.1 e.symm
                      exact HO6.out.ne HD6.out.k (by decide) x y hx hy e2.symm)
                  · rw [HX.out]
                    refine ⟨grown_own HD6.out.gr k7 HD6.out.k (Nat.le_refl _), HD6.out.x.grown k7 (fun x hx e => by
                      obtain ⟨y, hy, e2⟩ := Option.map_eq_some_iff.1 e.symm
                      exact HD6.out.x.ne HD6.out.k (by decide) x y hx hy e2.symm), ?_⟩
                    rw [sv_appendL, List.length_append]
                    exact o7
                case measure => simp [intOf]; omega
        · obtain rfl : k = r.length := by omega
          simp only [List.take_length] at hO hD ⊢
          have hrn1 : 1 ≤ r.length := by cases r with | nil => exact absurd rfl hrn | cons => simp
          have hlast : r.length - 1 < (r.map pairC).length := by rw [List.length_map]; omega
          obtain ⟨bl, ol, hadl, q0, _⟩ := hO.row.pair (r.length - 1) hlast
          have hoo : ol = 0 := by
            obtain ⟨b2, e2, _⟩ := hO.at (by exact (pv_get (r.map pairC) 0 (by rw [List.length_map]; omega)).1)
            rw [hadl] at e2; cases e2; rfl
          subst hadl
          have hKl : ((r.map pairC)[r.length - 1]'hlast).1 = lastK r := by
            unfold lastK
            rw [List.getElem_map, List.getLastD_eq_getLast?, List.getLast?_eq_getElem?, List.getElem?_eq_getElem (by omega)]
            rfl
          rw [hKl] at q0
          subst hoo
          rw [Nat.zero_add] at q0
          obtain ⟨eB, heB⟩ : ∃ eB, eB = Bk.chkF (r.map pairC) ((4 : Nat) : Int) := ⟨_, rfl⟩
          have HBd := Lib.hid (show Calls Tryz.prog 43 #[.slice (some ⟨bl, 0, none⟩) r.length cl, .int .i64 4] wr fun e w' => e = .returned (.tuple #[.string (str (runB r)), .int .i64 (eB : Int)]) ∧ Gr wr w' from
            rDocBuild_at (some ⟨bl, 0, none⟩) r.length cl (r.map pairC) 4 wr eB (runB r) (by rw [List.length_map]) hO.row (by rw [List.length_map]; omega) heB.symm (by unfold runB blkB; rw [heB]))
          have hi2 : ((r.length : Int) - 1) = ((r.length - 1 : Nat) : Int) := by omega
          have hi3 : r.length - 1 < r.length := by omega
          have hclr : r.length ≤ cl := hO.2.1
          have hi4 : r.length - 1 < cl := by omega
          have hrBl : (runB r).length + (bodyF (L.take i)).length + 4 ≤ 1000000000 := by
            have := HBs.out
            rw [this] at hble2
            rw [List.length_append, partB_len] at hble2
            omega
          have HD := Lib.hid hD
          have HIB := Lib.hid (show (idxAt L i).2 = Varint.putF (bodyF (L.take i)).length ++ Varint.putF (runB r).length by rw [HIA.out])
          have HIP := Lib.hid (show pv [idxAt L i] = [.string (str (idxAt L i).1), .string (str (idxAt L i).2)] from rfl)
          rw [HIB.out] at HIP
          have hpl := partB_len (runB r)
          have HPt := Lib.hid (fun w' => dpart_any (runB r) w' (by omega))
          have HP1 := Lib.hid (fun w' => rPutF_any (bodyF (L.take i)).length w' (by omega))
          have HP2 := Lib.hid (fun w' => rPutF_any (runB r).length w' (by omega))
          have l1 : (Varint.putF (bodyF (L.take i)).length).length ≤ 10 := (Varint.putN_len 9 (bodyF (L.take i)).length).1
          have l2 : (Varint.putF (runB r).length).length ≤ 10 := (Varint.putN_len 9 (runB r).length).1
          have hBI : ((bodyF (L.take i)).length : Int) ≤ 1000000000 := by omega
          have hsI : ((runB r).length : Int) ≤ 1000000000 := by omega
          have hcc : (bodyF (L.take i)).length + (partB (runB r)).length ≤ 1000000000 := by omega
          have m1 : i + 1 ≤ maxLen := by unfold maxLen; omega
          have m2 : (i + 1) * 32 ≤ 140737488355328 := by omega
          have HE2 := Lib.hid (show ((L.take (i + 1)).flatten.length : Int) = (A.length : Int) + (r.length : Int) by rw [HFt.out, List.length_append]; omega)
          have HV2 := Lib.hid (show ∀ (hnx : i + 1 < L.length) (w' : World), Gr w w' → ∃ (n : Nat) (capn bn on : Nat) (c : Ci), 0 < n ∧ n ≤ capn ∧ w'.cell? ⟨bB, oB + (i + 1), none⟩ = some (.slice (some ⟨bn, on, none⟩) n capn) ∧ w'.cell? ⟨bn, on, none⟩ = some (.string (str c.key)) ∧ w'.cell? ⟨bn, on + 1, none⟩ = some (.int .i64 c.seq) ∧ w'.cell? ⟨bn, on + 2, none⟩ = some (.int .i64 c.kind) ∧ w'.cell? ⟨bn, on + 3, none⟩ = some (.string (str c.val)) ∧ (idxAt L i).1 = Ikey.partF (lastK r) (pairC c).1 ∧ (lastK r).length ≤ 1000 from fun hnx w' kk => by
            obtain ⟨v2, hv2, adn, capn, rfl, hnc, hnr⟩ := HS.out.2 (i + 1) hnx
            obtain ⟨bB2, oB2, e2, zB2⟩ := (HR.out.gr kk) (i + 1) _ hv2
            cases e2
            have hmn : L[i + 1] ∈ L := List.getElem_mem hnx
            have hnn := HNE.out _ hmn
            have hn1 : 0 < L[i + 1].length := by
              cases hc : L[i + 1] with
              | nil => exact absurd hc hnn
              | cons => simp
            obtain ⟨bn, on, hadn, e0, e1, e2, e3⟩ := (hnr.gr kk).ci 0 hn1
            subst hadn
            rw [Nat.zero_mul, Nat.add_zero] at e0 e1 e2 e3
            refine ⟨_, capn, bn, on, L[i + 1][0], hn1, hnc, zB2, e0, e1, e2, e3, ?_, ?_⟩
            · rw [HIA.out, if_pos hnx, getD_get [] hnx]
              unfold headK
              rw [List.headD_eq_head?_getD, List.head?_eq_getElem?, List.getElem?_eq_getElem hn1]
              rfl
            · have := HRk.out (r.getLastD zeroC) (by
                rw [List.getLastD_eq_getLast?, List.getLast?_eq_getElem?, List.getElem?_eq_getElem (by omega)]
                exact List.getElem_mem _)
              unfold lastK; omega)
          have HLs := Lib.hid (show ¬ i + 1 < L.length → (idxAt L i).1 = lastK r from fun hnx => by rw [HIA.out, if_neg hnx])
          clear hO hD hKl HRr HI heB HRk HNE HKL HS HV HIA HIB HXl HW0
          generalize bodyF (L.take i) = B at *
          generalize runB r = t at *
          generalize hp1 : Varint.putF B.length = P1 at *
          generalize hp2 : Varint.putF t.length = P2 at *
          generalize partB t = PT at *
          clear hp1 hp2
          have T5 : RowKit.Hid True := trivial
          by_cases hnx : i + 1 < L.length
          · obtain ⟨n2, capn, bn, on, c2, hn2, hnc2, zC, e0, e1, e2, e3, hKk, hlk⟩ := HV2.out hnx wr HD.out.gr
            have HPr := Lib.hid (fun w' => dpair_any c2 w')
            have HPa := Lib.hid (fun w' => rDocPart_any (lastK r) (pairC c2).1 w' (by omega))
            rw [← hKk] at HPa
            clear hKk HV2 HLs
            generalize (pairC c2).1 = K2 at HPr HPa
            generalize (idxAt L i).1 = KK at *
            obtain ⟨ck0, cs, cd, cval⟩ := c2
            simp only at e0 e1 e2 e3 HPr
            go_wp2_with (first
              | (go_at_call 43; go_must (refine HBd.out.mono ?_); rintro e w3 ⟨rfl, g3⟩; replace q0 := g3.cell q0; replace e0 := g3.cell e0; replace e1 := g3.cell e1; replace e2 := g3.cell e2; replace e3 := g3.cell e3; replace zC := g3.cell zC)
              | (go_at_call 42; refine (HPr.out _).mono ?_; rintro e w4 ⟨rfl, g4⟩)
              | ((with_reducible show Go.wpList _ _ _ (Oper.mk _ (Op.field _ _ _) _ _ _ _ :: _) _ _); go_must (refine wp_field rfl _ _ _ rfl rfl (field_pair0 K2 cval _) ?_))
              | (go_at_call 44; go_must (refine (HPa.out _).mono ?_); rintro e w5 ⟨rfl, g5⟩; have GX := (g3.trans g4).trans g5)
              | (go_at_call 45; clear T5; go_must (refine (HP1.out _).mono ?_); rintro e w6 ⟨rfl, g6⟩)
              | (go_at_call 45; go_must (refine (HP2.out _).mono ?_); rintro e w7 ⟨rfl, g7⟩
                 have HG7 := Lib.hid ((GX.trans (g6.trans g7)).trans (Gr.alloc w7 (.cells #[.string (str KK), .string (str (P1 ++ P2))] 72))))
              | (at_builtin; go_must (refine wp_append elemP rfl _ _ rfl rfl (HD.out.x.gr HG7.out) rfl (one_srcg _ KK (P1 ++ P2) _ Tryz.underlying65 _ (by simp)) m1 m2 (HD.out.gr.trans HG7.out).size ?_); intro ad8 c8 w8 o8 k8 f8
                 have D8 := DlI.mk (L := L) (i := i + 1) (w := w) (grown_own (HD.out.gr.trans HG7.out) k8 HD.out.x (Nat.le_refl _)) (by rw [HIx.out, pv_append, HIP.out]; exact o8) ((HD.out.k.gr HG7.out).grown k8 (fun x hx e => by
                   obtain ⟨y, hy, e2⟩ := Option.map_eq_some_iff.1 e.symm
                   exact (HD.out.k.gr HG7.out).ne (HD.out.x.gr HG7.out) (by decide) x y hx hy e2.symm)))
              | (go_at_call 46; go_must (refine (HPt.out _).mono ?_); rintro e w9 ⟨rfl, g9⟩)
              | fail)
            go_roundw
            case rel =>
              exact ⟨i + 1, ad8, c8, adk2, ck2, by go_num, by rw [HBs.out], rfl, by rw [HFt.out], by rw [HE2.out], hlt, by rw [HFt.out]; exact D8.more g9⟩
            case measure => simp [intOf]; omega
          · have HK1 := Lib.hid (HLs.out hnx)
            clear HV2 HLs
            generalize (idxAt L i).1 = KK at *
            rw [← HK1.out] at q0
            clear HK1
            go_wp2_with (first
              | (go_at_call 43; go_must (refine HBd.out.mono ?_); rintro e w3 ⟨rfl, g3⟩; replace q0 := g3.cell q0; have GX := g3)
              | (go_at_call 45; clear T5; go_must (refine (HP1.out _).mono ?_); rintro e w6 ⟨rfl, g6⟩)
              | (go_at_call 45; go_must (refine (HP2.out _).mono ?_); rintro e w7 ⟨rfl, g7⟩
                 have HG7 := Lib.hid ((GX.trans (g6.trans g7)).trans (Gr.alloc w7 (.cells #[.string (str KK), .string (str (P1 ++ P2))] 72))))
              | (at_builtin; go_must (refine wp_append elemP rfl _ _ rfl rfl (HD.out.x.gr HG7.out) rfl (one_srcg _ KK (P1 ++ P2) _ Tryz.underlying65 _ (by simp)) m1 m2 (HD.out.gr.trans HG7.out).size ?_); intro ad8 c8 w8 o8 k8 f8
                 have D8 := DlI.mk (L := L) (i := i + 1) (w := w) (grown_own (HD.out.gr.trans HG7.out) k8 HD.out.x (Nat.le_refl _)) (by rw [HIx.out, pv_append, HIP.out]; exact o8) ((HD.out.k.gr HG7.out).grown k8 (fun x hx e => by
                   obtain ⟨y, hy, e2⟩ := Option.map_eq_some_iff.1 e.symm
                   exact (HD.out.k.gr HG7.out).ne (HD.out.x.gr HG7.out) (by decide) x y hx hy e2.symm)))
              | (go_at_call 46; go_must (refine (HPt.out _).mono ?_); rintro e w9 ⟨rfl, g9⟩)
              | fail)
            go_roundw
            case rel =>
              exact ⟨i + 1, ad8, c8, adk2, ck2, by go_num, by rw [HBs.out], rfl, by rw [HFt.out], by rw [HE2.out], hlt, by rw [HFt.out]; exact D8.more g9⟩
            case measure => simp [intOf]; omega
      -->>loop
    · --<<end
      obtain rfl : i = L.length := by omega
      simp only [List.take_length] at hI ⊢
      have hkl := keys_len L.flatten
      have HI := Lib.hid hI
      have hxi : (List.range L.length).map (idxAt L) = idxF L := rfl
      have hxr := hI.x.row
      rw [hxi] at hxr
      have HDf := Lib.hid (rDocBuild_any adk ck (keysF L.flatten) bits wr (by have := HFL.out; omega) hI.k.row HSH.out (by omega) (by omega))
      obtain ⟨eX, heX⟩ : ∃ eX, eX = Bk.chkF (idxF L) ((1 : Nat) : Int) := ⟨_, rfl⟩
      have HBx := Lib.hid (show ∀ w', Gr wr w' → Calls Tryz.prog 43 #[.slice adx L.length cx, .int .i64 1] w' fun e w2 => e = .returned (.tuple #[.string (str (idxB L)), .int .i64 (eX : Int)]) ∧ Gr w' w2 from fun w' kk =>
        rDocBuild_at adx L.length cx (idxF L) 1 w' eX (idxB L) (idx_len L).symm (hxr.gr kk) (by rw [idx_len]; omega) heX.symm (by unfold idxB blkB; rw [heX]))
      have hcn := HFL.out
      have hsum : (bodyF L).length + ((buildF (keysF L.flatten) bits).1.length + 4) + ((idxB L).length + 4) + 24 ≤ 1000000000 := by rw [← HLP.out]; exact HSZ.out
      have HLy : LF = bodyF L ++ (partB (buildF (keysF L.flatten) bits).1 ++ (partB (idxB L) ++ footF (bodyF L).length (buildF (keysF L.flatten) bits).1.length ((bodyF L).length + (partB (buildF (keysF L.flatten) bits).1).length) (idxB L).length L.flatten.length)) := HLF.out
      rw [partB_len] at HLy
      unfold footF at HLy
      have HLY := Lib.hid HLy
      have HQ1 := Lib.hid (fun w' => dpart_any (buildF (keysF L.flatten) bits).1 w' (by omega))
      have HQ2 := Lib.hid (fun w' => dpart_any (idxB L) w' (by omega))
      have p1 := partB_len (buildF (keysF L.flatten) bits).1
      have p2 := partB_len (idxB L)
      have HG := Lib.hid hI.gr
      have HF1 := Lib.hid (fun w' => dfixed_any ((bodyF L).length : Int) (bodyF L).length w' rfl (by omega))
      have HF2 := Lib.hid (fun w' => dfixed_any ((buildF (keysF L.flatten) bits).1.length : Int) (buildF (keysF L.flatten) bits).1.length w' rfl (by omega))
      have HF3 := Lib.hid (fun w' => dfixed_any (((bodyF L).length : Int) + ((buildF (keysF L.flatten) bits).1.length : Int) + 4) ((bodyF L).length + ((buildF (keysF L.flatten) bits).1.length + 4)) w' (by omega) (by omega))
      have HF4 := Lib.hid (fun w' => dfixed_any ((idxB L).length : Int) (idxB L).length w' rfl (by omega))
      have HF5 := Lib.hid (fun w' => dfixed_any (L.flatten.length : Int) L.flatten.length w' rfl (by omega))
      have HF6 := Lib.hid (fun w' => dfixed_any 2055969965 2055969965 w' rfl (by decide))
      have b1 := Nat.le_of_eq (Varint.bytesN_len 4 (bodyF L).length)
      have b2 := Nat.le_of_eq (Varint.bytesN_len 4 (buildF (keysF L.flatten) bits).1.length)
      have b3 := Nat.le_of_eq (Varint.bytesN_len 4 ((bodyF L).length + ((buildF (keysF L.flatten) bits).1.length + 4)))
      have b4 := Nat.le_of_eq (Varint.bytesN_len 4 (idxB L).length)
      have b5 := Nat.le_of_eq (Varint.bytesN_len 4 L.flatten.length)
      have b6 := Nat.le_of_eq (Varint.bytesN_len 4 2055969965)
      clear hI HI hxr heX hxi HLy HLF HLP HSZ HR HS HNE HKL HFL HSH hkl
      generalize Varint.bytesN 4 (bodyF L).length = F1 at *
      generalize Varint.bytesN 4 (buildF (keysF L.flatten) bits).1.length = F2 at *
      generalize Varint.bytesN 4 ((bodyF L).length + ((buildF (keysF L.flatten) bits).1.length + 4)) = F3 at *
      generalize Varint.bytesN 4 (idxB L).length = F4 at *
      generalize Varint.bytesN 4 L.flatten.length = F5 at *
      generalize L.flatten.length = cn at *
      generalize Varint.bytesN 4 2055969965 = F6 at *
      generalize partB (buildF (keysF L.flatten) bits).1 = PF at *
      generalize partB (idxB L) = PXs at *
      generalize (buildF (keysF L.flatten) bits).1 = f at *
      generalize (buildF (keysF L.flatten) bits).2 = ef at *
      generalize idxB L = X at *
      generalize bodyF L = B at *
      generalize hkk : keysF L.flatten = Kf at *
      clear hkk
      have T1 : RowKit.Hid True := trivial
      have T2 : RowKit.Hid True := trivial
      have T3 : RowKit.Hid True := trivial
      have T4 : RowKit.Hid True := trivial
      have T5 : RowKit.Hid True := trivial
      have T6 : RowKit.Hid True := trivial
      go_wp2_with (first
        | (go_at_call 47; go_must (refine HDf.out.mono ?_); rintro e w1 ⟨rfl, g1⟩)
        | (go_at_call 43; go_must (refine (HBx.out _ g1).mono ?_); rintro e w2 ⟨rfl, g2⟩)
        | (go_at_call 48; clear T1; go_must (refine (HF1.out _).mono ?_); rintro e w3 ⟨rfl, g3⟩)
        | (go_at_call 48; clear T2; go_must (refine (HF2.out _).mono ?_); rintro e w4 ⟨rfl, g4⟩)
        | (go_at_call 48; clear T3; go_must (refine (HF3.out _).mono ?_); rintro e w5 ⟨rfl, g5⟩)
        | (go_at_call 48; clear T4; go_must (refine (HF4.out _).mono ?_); rintro e w6 ⟨rfl, g6⟩)
        | (go_at_call 48; clear T5; go_must (refine (HF5.out _).mono ?_); rintro e w7 ⟨rfl, g7⟩)
        | (go_at_call 48; go_must (refine (HF6.out _).mono ?_); rintro e w8 ⟨rfl, g8⟩)
        | (go_at_call 46; clear T6; go_must (refine (HQ1.out _).mono ?_); rintro e w9 ⟨rfl, g9⟩)
        | (go_at_call 46; go_must (refine (HQ2.out _).mono ?_); rintro e w10 ⟨rfl, g10⟩)
        | fail)
      go_ret
      refine ⟨?_, (HG.out.trans (g1.trans g2)).trans (((g3.trans g4).trans (g5.trans g6)).trans ((g7.trans g8).trans (g9.trans g10)))⟩
      rw [HLY.out]
      rfl
      -->>end
end Go.Proofs.YtlfbelocdpboeaaGreatDoor
