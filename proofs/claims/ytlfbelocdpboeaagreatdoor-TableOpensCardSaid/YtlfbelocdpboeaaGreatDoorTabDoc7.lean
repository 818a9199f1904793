/- Layer 14 (table): the reference's DocOpen walked. -/
import Derived.Test.YtlfbelocdpboeaaGreatDoorTabDoc6
namespace Go.Proofs.YtlfbelocdpboeaaGreatDoor
set_option linter.unusedVariables false
set_option linter.unusedSimpArgs false
open Go.RowKit Tab
structure OpD (w : World) (b : List UInt8) (l : List Bk.Pr) (f : List UInt8) (g : Nat) (i : Nat) (L : List (List Ci)) (adb : Option Addr) (cb : Nat) (wr : World) : Prop where
  eq : runsOf b (l.take i) = some L
  gr : Gr w wr
  hg : w.heap.size ≤ g
  all : ∃ adc cc vs Z, Blk wr g 39 [.slice adc L.flatten.length cc, .string (str f)] ∧ Owns wr w.heap.size 48 4 adc cc L.flatten.length (cv L.flatten) ∧ Owns wr w.heap.size 22 1 adb cb L.length vs ∧
    SlsIn Z L vs wr ∧ (∀ j, Z j → j < wr.heap.size) ∧ (∀ a, adc = some a → ¬ Z a.block) ∧ (∀ j, Z j → j ≠ g) ∧ ∀ j, Z j → ∀ a, adb = some a → a.block ≠ j
theorem cellsF_val : ∀ {l : List Bk.Pr} {r : List Ci}, cellsF l = some r → (∀ p ∈ l, p.2.length ≤ 2000) → ∀ c ∈ r, c.val.length ≤ 2000
  | [], r, h, _ => by cases h; intro c hc; cases hc
  | p :: l, r, h, hv => by
    rw [cellsF] at h
    cases hp : cellF p with
    | none => rw [hp] at h; cases h
    | some c =>
      cases hl : cellsF l with
      | none => rw [hp, hl] at h; cases h
      | some t =>
        rw [hp, hl] at h
        cases h
        have h1 := cellsF_val hl (fun q hq => hv q (List.mem_cons_of_mem _ hq))
        have h2 : c.val = p.2 := by
          unfold cellF at hp
          split at hp
          · cases hp
          · cases hp; rfl
        intro d hd
        rcases List.mem_cons.1 hd with e | e
        · rw [e, h2]; exact hv p List.mem_cons_self
        · exact h1 d e
theorem runF_val {b val : List UInt8} {r : List Ci} (h : runF b val = some r) : ∀ c ∈ r, c.val.length ≤ 2000 := by
  unfold runF at h
  split at h
  · cases h
  · split at h
    · cases h
    · split at h
      · cases h
      · split at h
        · cases h
        · rename_i s hs
          split at h
          · cases h
          · rename_i hh
            have h0 : (Bk.pairsF s).2 = 0 := by
              by_cases hz : (Bk.pairsF s).2 = 0
              · exact hz
              · exact absurd (.inl hz) hh
            obtain ⟨_, _, _, hch, _⟩ := Bk.pairs_some (b := s) (l := (Bk.pairsF s).1) (by rw [← h0])
            refine cellsF_val h fun p hp => ?_
            obtain ⟨i, hi, rfl⟩ := List.getElem_of_mem hp
            have := ((Bk.chkF_ok hch).1 i).2
            rw [getD_get _ hi] at this
            exact this
theorem runsOf_val {b : List UInt8} : ∀ {A : List Bk.Pr} {L : List (List Ci)}, runsOf b A = some L → ∀ c ∈ L.flatten, c.val.length ≤ 2000
  | [], L, h => by cases h; intro c hc; cases hc
  | p :: A, L, h => by
    rw [runsOf] at h
    cases hp : runF b p.2 with
    | none => rw [hp] at h; cases h
    | some r =>
      cases hl : runsOf b A with
      | none => rw [hp, hl] at h; cases h
      | some t =>
        rw [hp, hl] at h
        cases h
        intro c hc
        rw [List.flatten_cons, List.mem_append] at hc
        rcases hc with e | e
        · exact runF_val hp c e
        · exact runsOf_val hl c e
def OneC (c : Ci) : Value → World → Prop := fun v w => ∃ g, v = .slice (some ⟨g, 0, none⟩) 1 1 ∧ Row w (some ⟨g, 0, none⟩) (c4 c)
theorem OneC.stable (c : Ci) : Stable Gr (OneC c) := fun _ _ _ ⟨g, e, h⟩ k => ⟨g, e, h.gr k⟩
theorem OneC.src {u e' : TypeId} {c : Ci} {v : Value} {w : World} (h : OneC c v w) (hu : Tryz.prog.underlying u = some (.slice e')) : Src Tryz.prog u w 4 v 1 (c4 c) := by
  obtain ⟨g, rfl, hr⟩ := h
  refine ⟨rfl, fun v hv => ?_, .inl ⟨_, _, e', rfl, hr, hu⟩⟩
  simp only [c4, List.mem_cons, List.not_mem_nil, or_false] at hv
  rcases hv with h | h | h | h <;> rw [h] <;> rfl
set_option maxRecDepth 100000 in
set_option maxHeartbeats 8000000 in
theorem dOpen_rest (b f x : List UInt8) (w : World) (h24 : 24 ≤ b.length) (hl : b.length ≤ 1000000) (hf : filtOf b = some f) (hx : idxOf b = some x) :
    Calls Tryz.prog 9 #[.string (str b)] w (RetD w (docOpenF b)) := by
  have HOp := Lib.hid (show docOpenF b = if (Bk.pairsF x).2 ≠ 0 then none else match runsOf b (Bk.pairsF x).1 with | none => none | some L => if chkT L.flatten 1 1 = 0 ∧ (List.range 64).any (fun i => layF L (buildF (keysF L.flatten) ((i : Int) + 1)).1 == b) = true then some (L.flatten, f) else none by
    unfold docOpenF
    rw [if_neg (by omega), hf, hx]
    rfl)
  obtain ⟨a, ha⟩ : ∃ a, a = b.length - 24 := ⟨_, rfl⟩
  have haI : (b.length : Int) - 24 = (a : Int) := by omega
  have hal : a ≤ b.length := by omega
  obtain ⟨ft, hft⟩ : ∃ ft, ft = b.drop a := ⟨_, rfl⟩
  have hftl : ft.length = 24 := by rw [hft, List.length_drop]; omega
  obtain ⟨f4, hf4⟩ : ∃ f4, f4 = ft.drop 4 := ⟨_, rfl⟩
  obtain ⟨f8, hf8⟩ : ∃ f8, f8 = ft.drop 8 := ⟨_, rfl⟩
  obtain ⟨f12, hf12⟩ : ∃ f12, f12 = ft.drop 12 := ⟨_, rfl⟩
  have l4 : f4.length = 20 := by rw [hf4, List.length_drop, hftl]
  have l8 : f8.length = 16 := by rw [hf8, List.length_drop, hftl]
  have l12 : f12.length = 12 := by rw [hf12, List.length_drop, hftl]
  have HN0 := Lib.hid (fun w => dnumber_any ft w (by omega) (by omega))
  have HN1 := Lib.hid (fun w => dnumber_any f4 w (by omega) (by omega))
  have HN2 := Lib.hid (fun w => dnumber_any f8 w (by omega) (by omega))
  have HN3 := Lib.hid (fun w => dnumber_any f12 w (by omega) (by omega))
  rw [show Varint.le (ft.take 4) = numF b (a + 0) by rw [hft, ← numF_drop]; rfl] at HN0
  rw [show Varint.le (f4.take 4) = numF b (a + 4) by rw [hf4, hft, numF_drop]] at HN1
  rw [show Varint.le (f8.take 4) = numF b (a + 8) by rw [hf8, hft, numF_drop]] at HN2
  rw [show Varint.le (f12.take 4) = numF b (a + 12) by rw [hf12, hft, numF_drop]] at HN3
  have n0 := numF_lt b (a + 0)
  have n1 := numF_lt b (a + 4)
  have n2 := numF_lt b (a + 8)
  have n3 := numF_lt b (a + 12)
  have hd1 : docCut b (numF b (a + 0)) (numF b (a + 4)) = (f, true) := by
    have h1 := docCut_some b (numF b (a + 0)) (numF b (a + 4))
    have h2 : cutF b (numF b (a + 0)) (numF b (a + 4)) = some f := by unfold filtOf at hf; rw [← ha] at hf; exact hf
    rw [h2] at h1
    exact Prod.ext (h1.2 f rfl) h1.1
  have hd2 : docCut b (numF b (a + 8)) (numF b (a + 12)) = (x, true) := by
    have h1 := docCut_some b (numF b (a + 8)) (numF b (a + 12))
    have h2 : cutF b (numF b (a + 8)) (numF b (a + 12)) = some x := by unfold idxOf at hx; rw [← ha] at hx; exact hx
    rw [h2] at h1
    exact Prod.ext (h1.2 x rfl) h1.1
  have HC1 := Lib.hid (fun w => dcut_is b (numF b (a + 0)) (numF b (a + 4)) w (by omega) (by omega) (by omega))
  have HC2 := Lib.hid (fun w => dcut_is b (numF b (a + 8)) (numF b (a + 12)) w (by omega) (by omega) (by omega))
  rw [hd1] at HC1
  rw [hd2] at HC2
  have hxl : x.length ≤ b.length := by have := docCut_len b (numF b (a + 8)) (numF b (a + 12)); rw [hd2] at this; exact this
  have HPs := Lib.hid (fun w => rDocPairs_any x w (by omega))
  rw [Bk.rpairs_eq] at HPs
  unfold RetPE at HPs
  simp only at HC1 HC2
  generalize numF b (a + 0) = m0 at *
  generalize numF b (a + 4) = m1 at *
  generalize numF b (a + 8) = m2 at *
  generalize numF b (a + 12) = m3 at *
  have hpe := Bk.pairs_err x
  have HPo := Lib.hid (fun l (h : Bk.pairsF x = (l, 0)) => Bk.pairs_some h)
  have hft2 : b.drop a = ft := hft.symm
  have hft3 : ft.take (b.length - a) = ft := List.take_of_length_le (by rw [hft, List.length_drop]; omega)
  have e4 : ft.drop 4 = f4 := hf4.symm
  have e4' : f4.take 20 = f4 := List.take_of_length_le (by omega)
  have e8 : ft.drop 8 = f8 := hf8.symm
  have e8' : f8.take 16 = f8 := List.take_of_length_le (by omega)
  have e12 : ft.drop 12 = f12 := hf12.symm
  have e12' : f12.take 12 = f12 := List.take_of_length_le (by omega)
  have hbI : (b.length : Int) ≤ 1000000 := by omega
  clear ha hf hx n0 n1 n2 n3 l4 l8 l12 hd1 hd2 hxl hft hf4 hf8 hf12
  obtain ⟨PP, hPP⟩ : ∃ PP, PP = Bk.pairsF x := ⟨_, rfl⟩
  rw [← hPP] at HPs hpe HOp
  simp only [← hPP] at HPo
  clear hPP
  obtain ⟨l, e6⟩ := PP
  simp only at HPs hpe HOp
  go_enter Tryz.func9, Tryz.ntmps9
  go_wp2
  refine region_any_gr _ [Is (.string (str b)), Is (.string (str ft)), Is (.int .i64 (m0 : Int)), Is (.string (str ft)), Is (.string (str f4)), Is (.int .i64 (m1 : Int)), Is (.tuple #[.string (str f), .bool true]), Is (.tuple #[.string (str f), .bool true]), Is (.string (str f)), Is (.bool true), Is (.string (str f)), Is (.bool true)] (by kernel_rfl) (by kernel_rfl) (by kernel_rfl) rfl rfl ⟨Is.stable _, Is.stable _, Is.stable _, Is.stable _, Is.stable _, Is.stable _, Is.stable _, Is.stable _, Is.stable _, Is.stable _, Is.stable _, Is.stable _, trivial⟩ ⟨?s0, ?s1, ?s2, ?s3, ?s4, ?s5, ?s6, ?s7, ?s8, ?s9, ?s10, ?s11, trivial⟩ ?fin
  case' s0 | s1 | s2 | s3 | s4 | s5 | s6 | s7 | s8 | s9 | s10 | s11 =>
    intro ρ wr hρ hg hK
    simp [readsOf, slotsOf, Op.operands, Call.operands, tmpOf, List.filterMap_cons, List.filterMap_nil, KnownAll, knownOf, srcOf, depsOf, dstOf, Region.binds, nth, Is] at hK
    obtain ⟨hc, hf, hgl⟩ := hρ
    try simp only [wantedBy, dstOf, boolOf, nth, List.getD_cons_zero, List.getD_cons_succ, List.getElem?_cons_zero, List.getElem?_cons_succ, Option.bind_some, if_true, hK, BEq.rfl]
    try go_simp
    first | exact rfl | (rw [if_pos (by omega)]; exact is_here rfl) | (rw [dif_pos (by omega)]; exact is_here rfl) | exact congrArg (Value.int _) (IntWalk.i64_in _ ⟨by omega, by omega⟩) | skip
  case s2 => exact any_gr (HN0.out _)
  case s5 => exact any_gr (HN1.out _)
  case s6 => exact any_gr (HC1.out _)
  case fin =>
    intro w1 val hg hH
    simp only [Holds, Is, Nat.zero_add, Nat.reduceAdd] at hH
    obtain ⟨h0, h1, h2, h3, h4, h5, h6, h7, h8, h9, h10, h11, _⟩ := hH
    simp only [List.take_succ_cons, List.take_zero, List.drop_succ_cons, List.drop_zero, putAll, h0, h1, h2, h3, h4, h5, h6, h7, h8, h9, h10, h11, Nat.zero_add, Nat.reduceAdd]
    have HG1 := Lib.hid hg
    clear hg HN0 HN1 HC1
    go_simp
    go_wp2
    refine region_any_gr _ [Is (.string (str b)), Is (.string (str ft)), Is (.string (str f8)), Is (.int .i64 (m2 : Int)), Is (.string (str ft)), Is (.string (str f12)), Is (.int .i64 (m3 : Int)), Is (.tuple #[.string (str x), .bool true]), Is (.tuple #[.string (str x), .bool true]), Is (.string (str x)), Is (.bool true), Is (.string (str x)), Is (.bool true)] (by kernel_rfl) (by kernel_rfl) (by kernel_rfl) rfl rfl ⟨Is.stable _, Is.stable _, Is.stable _, Is.stable _, Is.stable _, Is.stable _, Is.stable _, Is.stable _, Is.stable _, Is.stable _, Is.stable _, Is.stable _, Is.stable _, trivial⟩ ⟨?s0x1, ?s1x1, ?s2x1, ?s3x1, ?s4x1, ?s5x1, ?s6x1, ?s7x1, ?s8x1, ?s9x1, ?s10x1, ?s11x1, ?s12x1, trivial⟩ ?finx1
    case' s0x1 | s1x1 | s2x1 | s3x1 | s4x1 | s5x1 | s6x1 | s7x1 | s8x1 | s9x1 | s10x1 | s11x1 | s12x1 =>
      intro ρ wr hρ hg hK
      simp [readsOf, slotsOf, Op.operands, Call.operands, tmpOf, List.filterMap_cons, List.filterMap_nil, KnownAll, knownOf, srcOf, depsOf, dstOf, Region.binds, nth, Is] at hK
      obtain ⟨hc, hf, hgl⟩ := hρ
      try simp only [wantedBy, dstOf, boolOf, nth, List.getD_cons_zero, List.getD_cons_succ, List.getElem?_cons_zero, List.getElem?_cons_succ, Option.bind_some, if_true, hK, BEq.rfl]
      try go_simp
      first | exact rfl | (rw [if_pos (by omega)]; exact is_here rfl) | (rw [dif_pos (by omega)]; exact is_here rfl) | exact congrArg (Value.int _) (IntWalk.i64_in _ ⟨by omega, by omega⟩) | skip
    case s3x1 => exact any_gr (HN2.out _)
    case s6x1 => exact any_gr (HN3.out _)
    case s7x1 => exact any_gr (HC2.out _)
    case finx1 =>
      intro w1 val hg hH
      simp only [Holds, Is, Nat.zero_add, Nat.reduceAdd] at hH
      obtain ⟨h0, h1, h2, h3, h4, h5, h6, h7, h8, h9, h10, h11, h12, _⟩ := hH
      simp only [List.take_succ_cons, List.take_zero, List.drop_succ_cons, List.drop_zero, putAll, h0, h1, h2, h3, h4, h5, h6, h7, h8, h9, h10, h11, h12, Nat.zero_add, Nat.reduceAdd]
      have HG2 := Lib.hid (HG1.out.trans hg)
      clear hg HN2 HN3 HC2 HG1
      go_simp
      by_cases h6 : e6 = 0
      · subst h6
        have HOp2 := Lib.hid (HOp.out.trans (if_neg (by decide)))
        clear HOp hpe
        go_wp2_with (first
          | (go_at_call 28; go_must (refine (HPs.out _).mono ?_); rintro e w2 ⟨adl, cl, rfl, ol, gl⟩)
          | fail)
        have hW5 := Gr.alloc w2 (.cells #[.slice none 0 0, .string (str f)] 39)
        have HI0 := Lib.hid (show OpD w2 b l f w2.heap.size 0 [] none 0 (w2.alloc (.cells #[.slice none 0 0, .string (str f)] 39)) from
          ⟨rfl, hW5, Nat.le_refl _, ⟨none, 0, [], fun _ => False, Blk.new w2 39 #[.slice none 0 0, .string (str f)], Owns.empty _ _ _ _, Owns.empty _ _ _ _, SlsIn.nil _ _, fun _ h => h.elim, fun _ h => (by cases h), fun _ h => h.elim, fun _ h => h.elim⟩⟩)
        have HLr := Lib.hid (show Row w2 adl (pv l) from ol.row)
        have HGw := Lib.hid (HG2.out.trans gl)
        obtain ⟨_, _, _, hch, _⟩ := HPo.out l rfl
        have hck := Bk.chkF_ok hch
        have HKl := Lib.hid (show ∀ i (h : i < l.length), l[i].2.length ≤ 2000 from fun i h => by
          have := (hck.1 i).2
          rw [getD_get _ h] at this
          exact this)
        have hl10 : l.length ≤ 10000 := hck.2.1
        have hlcl : l.length ≤ cl := ol.2.1
        obtain ⟨g, hgd⟩ : ∃ g, g = w2.heap.size := ⟨_, rfl⟩
        rw [← hgd] at HI0
        simp only [← hgd]
        clear hW5 ol gl HG2 HPs HPo hck hch hgd
        generalize w2.alloc (.cells #[.slice none 0 0, .string (str f)] 39) = W5 at *
        go_loopw [11, 12] (fun vb vi wr => ∃ (i : Nat) (L : List (List Ci)) (adb : Option Addr) (cb : Nat), vi = .int .i64 (i : Int) ∧ vb = .slice adb L.length cb ∧ i ≤ l.length ∧ OpD w2 b l f g i L adb cb wr) (fun _ vi _ => l.length - (intOf vi).toNat)
        case atStart => exact ⟨0, [], none, 0, rfl, rfl, Nat.zero_le _, HI0.out⟩
        case round =>
          clear HI0
          obtain ⟨i, L, adb, cb, rfl, rfl, hi, hI⟩ := hrel
          by_cases hlt : i < l.length
          · obtain ⟨bl, ol, hadl, q0, q1⟩ := (HLr.out.gr hI.gr).pair i hlt
            subst hadl
            have hkl := HKl.out i hlt
            have HSn := Lib.hid (show runsOf b (l.take (i + 1)) = match some L, runF b l[i].2 with | some l, some c => some (l ++ [c]) | _, _ => none by
              rw [List.take_add_one, List.getElem?_eq_getElem hlt]
              have := runsOf_snoc b (l.take i) l[i]
              rw [hI.eq] at this
              exact this)
            have HAll := Lib.hid (show runsOf b (l.take (i + 1)) = none → runsOf b l = none from fun h => by
              have := runsOf_bad (B := l.drop (i + 1)) h
              rw [List.take_append_drop] at this
              exact this)
            have HLl := Lib.hid (runsOf_ne hI.eq)
            have HI := Lib.hid hI
            have hsw := hI.gr
            generalize l[i] = p at *
            obtain ⟨pk, pvl⟩ := p
            simp only at q0 q1 hkl HSn
            have HNo := Lib.hid (show runF b pvl = none → docOpenF b = none from fun h => by rw [HOp2.out, HAll.out (by rw [HSn.out, h])])
            obtain ⟨n0, k0, e0, hg0⟩ : ∃ n0 k0 e0, Varint.getF pvl = (n0, k0, e0) := ⟨_, _, _, rfl⟩
            have hk0 : k0 ≤ pvl.length := by have := Varint.getF_le pvl; rw [hg0] at this; exact this
            have hn0 : n0 < 18446744073709551616 := by have := Varint.getF_lt pvl; rw [hg0] at this; exact this
            obtain ⟨pv2, hpv2⟩ : ∃ q, q = pvl.drop k0 := ⟨_, rfl⟩
            have hpl2 : pv2.length = pvl.length - k0 := by rw [hpv2, List.length_drop]
            obtain ⟨n1, k1, e1, hg1⟩ : ∃ n1 k1 e1, Varint.getF pv2 = (n1, k1, e1) := ⟨_, _, _, rfl⟩
            have hn1 : n1 < 18446744073709551616 := by have := Varint.getF_lt pv2; rw [hg1] at this; exact this
            have HRF := Lib.hid (show runF b pvl = if e0 ≠ 0 then none else if e1 ≠ 0 then none else if b.length < n0 ∨ b.length < n1 then none else match cutF b n0 n1 with | none => none | some s => if (Bk.pairsF s).2 ≠ 0 ∨ (Bk.pairsF s).1 = [] then none else cellsF (Bk.pairsF s).1 by
              unfold runF; rw [hg0]; simp only; rw [← hpv2, hg1]
              rfl)
            have HGe0 := Lib.hid (fun w' => rGet_at pvl n0 k0 e0 w' hg0 (by unfold maxLen; omega))
            have HGe1 := Lib.hid (fun w' => rGet_at pv2 n1 k1 e1 w' hg1 (by unfold maxLen; omega))
            have hex : pvl.drop k0 = pv2 := hpv2.symm
            have hex2 : pv2.take (pvl.length - k0) = pv2 := List.take_of_length_le (by omega)
            have hkI : (k0 : Int) ≤ 2000 := by omega
            have hiI : (i : Int) < (l.length : Int) := by omega
            have T1 : RowKit.Hid True := trivial
            clear hI hg0 hg1 hpv2 hpl2
            by_cases h0 : e0 = 0
            · subst h0
              by_cases h1 : e1 = 0
              · subst h1
                by_cases h2 : b.length < n0 ∨ b.length < n1
                · have HN := Lib.hid (HNo.out (by rw [HRF.out, if_neg (by decide), if_neg (by decide), if_pos h2]))
                  clear HNo HRF HSn HAll
                  by_cases h3 : b.length < n0
                  · have h3I : (b.length : Int) < (n0 : Int) := by omega
                    clear h2
                    go_wp2_with (first
                      | (go_at_call 29; clear T1; go_must (refine (HGe0.out _).mono ?_); rintro e w' ⟨rfl, rfl⟩)
                      | (go_at_call 29; go_must (refine (HGe1.out _).mono ?_); rintro e w' ⟨rfl, rfl⟩)
                      | fail)
                    go_ret
                    exact RetD.no HN.out (HGw.out.trans HI.out.gr)
                  · have h3I : ¬ (b.length : Int) < (n0 : Int) := by omega
                    have h4I : (b.length : Int) < (n1 : Int) := by omega
                    clear h2
                    go_wp2_with (first
                      | (go_at_call 29; clear T1; go_must (refine (HGe0.out _).mono ?_); rintro e w' ⟨rfl, rfl⟩)
                      | (go_at_call 29; go_must (refine (HGe1.out _).mono ?_); rintro e w' ⟨rfl, rfl⟩)
                      | fail)
                    go_ret
                    exact RetD.no HN.out (HGw.out.trans HI.out.gr)
                · --<<cut
                  have hn0l : n0 ≤ b.length := by omega
                  have hn1l : n1 ≤ b.length := by omega
                  have HRF2 := Lib.hid (show runF b pvl = match cutF b n0 n1 with | none => none | some s => if (Bk.pairsF s).2 ≠ 0 ∨ (Bk.pairsF s).1 = [] then none else cellsF (Bk.pairsF s).1 by rw [HRF.out, if_neg (by decide), if_neg (by decide), if_neg h2])
                  have HCt := Lib.hid (fun w' => dcut_is b n0 n1 w' (by omega) (by omega) (by omega))
                  have hSl := docCut_len b n0 n1
                  have hDs := docCut_some b n0 n1
                  obtain ⟨DD, hDD⟩ : ∃ DD, DD = docCut b n0 n1 := ⟨_, rfl⟩
                  rw [← hDD] at HCt hSl hDs
                  clear hDD HRF
                  obtain ⟨S, ok⟩ := DD
                  simp only at HCt hSl hDs
                  have HP2 := Lib.hid (fun w' => rDocPairs_any S w' (by omega))
                  rw [Bk.rpairs_eq] at HP2
                  unfold RetPE at HP2
                  have hn0I : (n0 : Int) ≤ 1000000 := by omega
                  have hn1I : (n1 : Int) ≤ 1000000 := by omega
                  have h3I : ¬ (b.length : Int) < (n0 : Int) := by omega
                  have h4I : ¬ (b.length : Int) < (n1 : Int) := by omega
                  clear h2
                  cases hcut : cutF b n0 n1 with
                  | none =>
                    have HN := Lib.hid (HNo.out (by rw [HRF2.out, hcut]))
                    rw [hcut] at hDs
                    have hok : ok = false := hDs.1
                    subst hok
                    generalize (Bk.pairsF S).1 = l2 at *
                    generalize (Bk.pairsF S).2 = e2 at *
                    clear HNo HRF2 HSn HAll hDs hcut
                    go_wp2_with (first
                      | (go_at_call 29; clear T1; go_must (refine (HGe0.out _).mono ?_); rintro e w' ⟨rfl, rfl⟩)
                      | (go_at_call 29; go_must (refine (HGe1.out _).mono ?_); rintro e w' ⟨rfl, rfl⟩)
                      | (go_at_call 26; go_must (refine (HCt.out _).mono ?_); rintro e w3 ⟨rfl, g3⟩)
                      | (go_at_call 28; go_must (refine (HP2.out _).mono ?_); rintro e w4 ⟨ad4, c4_, rfl, o4, g4⟩)
                      | fail)
                    go_ret
                    exact RetD.no HN.out ((HGw.out.trans HI.out.gr).trans (g3.trans g4))
                  | some s =>
                    rw [hcut] at hDs
                    have hok : ok = true := hDs.1
                    have hSs : S = s := hDs.2 s rfl
                    subst hok hSs
                    have HRF3 := Lib.hid (show runF b pvl = if (Bk.pairsF S).2 ≠ 0 ∨ (Bk.pairsF S).1 = [] then none else cellsF (Bk.pairsF S).1 by rw [HRF2.out, hcut])
                    have HPo2 := Lib.hid (fun l (h : Bk.pairsF S = (l, 0)) => Bk.pairs_some h)
                    obtain ⟨PQ, hPQ⟩ : ∃ PQ, PQ = Bk.pairsF S := ⟨_, rfl⟩
                    rw [← hPQ] at HP2 HRF3
                    simp only [← hPQ] at HPo2
                    clear hPQ HRF2 hDs hcut
                    obtain ⟨l2, e2⟩ := PQ
                    simp only at HP2 HRF3
                    by_cases he2 : e2 = 0
                    · subst he2
                      by_cases hl2 : l2 = []
                      · have HN := Lib.hid (HNo.out (by rw [HRF3.out, if_pos (.inr hl2)]))
                        subst hl2
                        clear HNo HRF3 HSn HAll HPo2
                        go_wp2_with (first
                          | (go_at_call 29; clear T1; go_must (refine (HGe0.out _).mono ?_); rintro e w' ⟨rfl, rfl⟩)
                          | (go_at_call 29; go_must (refine (HGe1.out _).mono ?_); rintro e w' ⟨rfl, rfl⟩)
                          | (go_at_call 26; go_must (refine (HCt.out _).mono ?_); rintro e w3 ⟨rfl, g3⟩)
                          | (go_at_call 28; go_must (refine (HP2.out _).mono ?_); rintro e w4 ⟨ad4, c4_, rfl, o4, g4⟩)
                          | fail)
                        go_ret
                        exact RetD.no HN.out ((HGw.out.trans HI.out.gr).trans (g3.trans g4))
                      · --<<inner
                        obtain ⟨_, _, _, hch2, _⟩ := HPo2.out l2 rfl
                        have hck2 := Bk.chkF_ok hch2
                        have HKl2 := Lib.hid (show ∀ j (h : j < l2.length), l2[j].1.length ≤ 200 from fun j h => by
                          have := (hck2.1 j).1
                          rw [getD_get _ h] at this
                          exact this)
                        have hl29 : l2.length ≤ 10000 := hck2.2.1
                        have hl2p : 0 < l2.length := by cases l2 with | nil => exact absurd rfl hl2 | cons => simp
                        have hl2b : ((l2.length : Int) == 0) = false := by rw [beq_eq_false_iff_ne]; omega
                        have HRF4 := Lib.hid (show runF b pvl = cellsF l2 by rw [HRF3.out, if_neg (by rintro (h | h); exact h rfl; exact hl2 h)])
                        clear HRF3 HPo2 hch2 hck2 hl2
                        go_wp2_with (first
                          | (go_at_call 29; clear T1; go_must (refine (HGe0.out _).mono ?_); rintro e w' ⟨rfl, rfl⟩)
                          | (go_at_call 29; go_must (refine (HGe1.out _).mono ?_); rintro e w' ⟨rfl, rfl⟩)
                          | (go_at_call 26; go_must (refine (HCt.out _).mono ?_); rintro e w3 ⟨rfl, g3⟩)
                          | (go_at_call 28; go_must (refine (HP2.out _).mono ?_); rintro e w4 ⟨ad4, c4_, rfl, o4, g4⟩)
                          | fail)
                        have HL2 := Lib.hid o4.row
                        have HG4 := Lib.hid (g3.trans g4)
                        have hlc4 := o4.2.1
                        obtain ⟨W0, hW0⟩ : ∃ x, x = wr := ⟨_, rfl⟩
                        subst hW0
                        clear o4 g3 g4 HGe0 HGe1 HCt HP2 q0 q1 hsw
                        go_loopw [21, 22] (fun vr vk wk => ∃ (k : Nat) (R : List Ci) (adr : Option Addr) (cr : Nat), vk = .int .i64 (k : Int) ∧ vr = .slice adr R.length cr ∧ k ≤ l2.length ∧ R.length ≤ k ∧ cellsF (l2.take k) = some R ∧ Gr w4 wk ∧ Owns wk w4.heap.size 48 4 adr cr R.length (cv R)) (fun _ vk _ => l2.length - (intOf vk).toNat)
                        case atStart => exact ⟨0, [], none, 0, rfl, rfl, Nat.zero_le _, Nat.zero_le _, rfl, Gr.refl _, Owns.empty _ _ _ _⟩
                        case round =>
                          obtain ⟨k, R, adr, cr, rfl, rfl, hk, hRk, hce, hG, hO⟩ := hrel
                          by_cases hkl : k < l2.length
                          · --<<cell
                            obtain ⟨bp, op, hadp, p0, p1⟩ := (HL2.out.gr hG).pair k hkl
                            subst hadp
                            have hkk := HKl2.out k hkl
                            have HSn2 := Lib.hid (show cellsF (l2.take (k + 1)) = match some R, cellF l2[k] with | some l, some c => some (l ++ [c]) | _, _ => none by
                              rw [List.take_add_one, List.getElem?_eq_getElem hkl]
                              have := cellsF_snoc (l2.take k) l2[k]
                              rw [hce] at this
                              exact this)
                            have HCf := Lib.hid (show cellF l2[k] = match unsF l2[k].1 with | none => none | some (kk, ss, dd) => some ⟨kk, (ss : Int), (dd : Int), l2[k].2⟩ from rfl)
                            have HAl2 := Lib.hid (show cellsF (l2.take (k + 1)) = none → cellsF l2 = none from fun h => by
                              have := cellsF_bad (B := l2.drop (k + 1)) h
                              rw [List.take_append_drop] at this
                              exact this)
                            have HG := Lib.hid hG
                            have HO := Lib.hid hO
                            generalize l2[k] = p2 at *
                            obtain ⟨pk2, pv3⟩ := p2
                            simp only at p0 p1 hkk HCf
                            have HUn := Lib.hid (fun w' => rDocUnsort_any pk2 w' (by omega))
                            rw [docUnsF_eq] at HUn
                            have hkc4 : k < c4_ := by omega
                            clear hG hO hce HKl2
                            cases hun : unsF pk2 with
                            | none =>
                              have HN := Lib.hid (HNo.out (by rw [HRF4.out]; exact HAl2.out (by rw [HSn2.out, HCf.out, hun])))
                              rw [hun] at HUn
                              unfold outV ver at HUn
                              clear hun HNo HRF4 HSn HAll HSn2 HCf HAl2
                              go_wp2_with (first
                                | (go_at_call 30; go_must (refine (HUn.out _).mono ?_); rintro e w5 ⟨rfl, g5⟩)
                                | fail)
                              go_ret
                              exact RetD.no HN.out ((HGw.out.trans HI.out.gr).trans ((HG4.out.trans HG.out).trans (g5.trans (Gr.alloc _ _))))
                            | some x3 =>
                              obtain ⟨uk, us, ud⟩ := x3
                              have HSn3 := Lib.hid (show cellsF (l2.take (k + 1)) = some (R ++ [⟨uk, (us : Int), (ud : Int), pv3⟩]) by rw [HSn2.out, HCf.out, hun])
                              rw [hun] at HUn
                              unfold outV ver at HUn
                              have m1 : R.length + 1 ≤ maxLen := by unfold maxLen; omega
                              have m2 : (R.length + 1) * 48 ≤ 140737488355328 := by omega
                              clear hun HSn2 HCf HAl2 HAll HRF4 HNo HSn
                              go_wp2_with (first
                                | (go_at_call 30; go_must (refine (HUn.out _).mono ?_); rintro e w5 ⟨rfl, g5⟩
                                   have b5 := Blk.new w5 43 #[.string (str uk), .int .i64 (us : Int), .int .i64 (ud : Int)]
                                   obtain ⟨y0, y1, y2⟩ : _ ∧ _ ∧ _ := ⟨b5.cell (i := 0) rfl, b5.cell (i := 1) rfl, b5.cell (i := 2) rfl⟩
                                   have g6 := g5.trans (Gr.alloc w5 (.cells #[.string (str uk), .int .i64 (us : Int), .int .i64 (ud : Int)] 43))
                                   replace p1 := g6.cell p1
                                   have HG6 := Lib.hid g6
                                   clear b5 g6 p0)
                                | fail)
                              refine region_tail_gr 9 _ [Is (.slice adr R.length cr), Is (.agg #[.string (str uk), .int .i64 (us : Int), .int .i64 (ud : Int)]), Is (.slice (some ⟨bp, op, none⟩) l2.length c4_), Is (.int .i64 (k : Int)), Is (.pointer (some ⟨bp, op + k * 2, none⟩)), Is (.pointer (some ⟨bp, op + k * 2 + 1, none⟩)), Is (.string (str pv3)), Is (.agg #[.string (str uk), .int .i64 (us : Int), .int .i64 (ud : Int), .string (str pv3)]), OneC ⟨uk, (us : Int), (ud : Int), pv3⟩] (by kernel_rfl) (by kernel_rfl) (by kernel_rfl) (by kernel_rfl) rfl rfl ⟨Is.stable _, Is.stable _, Is.stable _, Is.stable _, Is.stable _, Is.stable _, Is.stable _, Is.stable _, OneC.stable _, trivial⟩ ⟨?s0x2, ?s1x2, ?s2x2, ?s3x2, ?s4x2, ?s5x2, ?s6x2, ?s7x2, ?s8x2, trivial⟩ ?finx2
                              case' s0x2 | s1x2 | s2x2 | s3x2 | s4x2 | s5x2 | s6x2 | s7x2 | s8x2 =>
                                intro ρ wr hρ hg hK
                                simp [readsOf, slotsOf, Op.operands, Call.operands, tmpOf, List.filterMap_cons, List.filterMap_nil, KnownAll, knownOf, srcOf, depsOf, dstOf, Region.binds, nth, Is] at hK
                                obtain ⟨hc, hf, hgl⟩ := hρ
                                try simp only [wantedBy, dstOf, boolOf, nth, List.getD_cons_zero, List.getD_cons_succ, List.getElem?_cons_zero, List.getElem?_cons_succ, Option.bind_some, if_true, hK, BEq.rfl]
                                try go_simp
                                first | exact rfl | (rw [if_pos (by omega)]; exact is_here rfl) | (rw [dif_pos (by omega)]; exact is_here rfl) | exact congrArg (Value.int _) (IntWalk.i64_in _ ⟨by omega, by omega⟩) | skip
                              case s1x2 => have z0 := hg.cell y0; have z1 := hg.cell y1; have z2 := hg.cell y2; go_simp; exact rfl
                              case s6x2 => have z := hg.cell p1; go_simp; exact rfl
                              case s8x2 => exact ⟨Gr.alloc _ _, _, rfl, Row.alloc wr #[.string (str uk), .int .i64 (us : Int), .int .i64 (ud : Int), .string (str pv3)] 48 (0, 0) _ rfl⟩
                              case finx2 =>
                                intro w1 val hg hH
                                simp only [Holds, Is, Nat.zero_add, Nat.reduceAdd] at hH
                                obtain ⟨h0, h1, h2, h3, h4, h5, h6, h7, h8, _⟩ := hH
                                simp only [List.take_succ_cons, List.take_zero, List.drop_succ_cons, List.drop_zero, putAll, h0, h1, h2, h3, h4, h5, h6, h7, Nat.zero_add, Nat.reduceAdd]
                                have HO7 := Lib.hid (HO.out.gr (HG6.out.trans hg))
                                have HG7 := Lib.hid (HG.out.trans (HG6.out.trans hg))
                                have HSrc := Lib.hid (h8.src Tryz.underlying22)
                                clear hg h8
                                go_simp
                                go_wp2_with (first
                                  | (at_builtin; go_must (refine wp_append elemC rfl _ _ rfl rfl HO7.out rfl HSrc.out m1 m2 HG7.out.size ?_); intro ad7 c7 w7 o7 k7 f7)
                                  | fail)
                                go_roundw
                                case rel =>
                                  refine ⟨k + 1, R ++ [⟨uk, (us : Int), (ud : Int), pv3⟩], ad7, c7, by go_num, by simp, hkl, by simp; omega, HSn3.out, grown_own HG7.out k7 HO7.out (Nat.le_refl _), ?_⟩
                                  rw [cv_append, List.length_append]
                                  exact o7
                                case measure => simp [intOf]; omega
                            -->>cell
                          · --<<final
                            obtain rfl : k = l2.length := by omega
                            rw [List.take_length] at hce
                            have hrf : runF b pvl = some R := HRF4.out.trans hce
                            obtain ⟨adc, cc, vs, Z, hT, hCo, hBo, hS, hZ1, hZ2, hZ3, hZ4⟩ := HI.out.all
                            have hSn2 : runsOf b (l.take (i + 1)) = some (L ++ [R]) := by rw [HSn.out, hrf]
                            have hrl := (runF_ne hrf).2
                            have hfl2 := flat_le (fun x hx => (HLl.out.1 x hx).2)
                            have hLl2 := HLl.out.2
                            rw [List.length_take] at hLl2
                            have hL9 : L.length ≤ 10000 := by omega
                            have hF9 : L.flatten.length ≤ 100000000 := by omega
                            have HSn2 := Lib.hid hSn2
                            have HT := Lib.hid hT; have HCo := Lib.hid hCo; have HBo := Lib.hid hBo; have HS := Lib.hid hS
                            have HZ := Lib.hid (And.intro hZ1 (And.intro hZ2 (And.intro hZ3 hZ4)))
                            have hgs := HI.out.gr.size
                            have m1 : L.length + 1 ≤ maxLen := by unfold maxLen; omega
                            have m2 : (L.length + 1) * 24 ≤ 140737488355328 := by omega
                            have m3 : L.flatten.length + R.length ≤ maxLen := by unfold maxLen; omega
                            have m4 : (L.flatten.length + R.length) * 48 ≤ 140737488355328 := by omega
                            obtain ⟨FL, hFL⟩ : ∃ n, n = L.flatten.length := ⟨_, rfl⟩
                            rw [← hFL] at m3 m4 HT HCo hF9
                            have HFL := Lib.hid hFL
                            have HO5 := Lib.hid hO
                            have G5 := Lib.hid (HG4.out.trans hG)
                            have G6 := Lib.hid (G5.out.trans (Gr.alloc wr (.cells #[.slice adr R.length cr] 22)))
                            have HW4 := Lib.hid HG4.out.size
                            have HWr := Lib.hid hG.size
                            have T9 : RowKit.Hid True := trivial
                            clear hrf HSn HAll hSn2 hT hCo hBo hS hZ1 hZ2 hZ3 hZ4 HLl hLl2 hfl2 hFL hO hG hce HRF4 HNo HKl2 HL2
                            go_wp2_with (first
                              | (at_builtin; clear T9; go_must (refine wp_append elemL rfl _ _ rfl rfl (HBo.out.gr G6.out) rfl (src_cellg _ (.slice adr R.length cr) rfl Tryz.underlying54 _ (by simp)) m1 m2 (Nat.le_trans hgs G6.out.size) ?_); intro ad6 c6 w6 o6 k6 f6
                                 have T6 := (HT.out.gr G6.out).grown k6 (fun e => by
                                   obtain ⟨y, hy, e2⟩ := Option.map_eq_some_iff.1 e.symm
                                   exact (HT.out.gr G6.out).owns_ne (HBo.out.gr G6.out) (by decide) y hy e2)
                                 have z6 := T6.cell (i := 0) rfl
                                 have C6 := (HCo.out.gr G6.out).grown k6 (fun x hx e => by
                                   obtain ⟨y, hy, e2⟩ := Option.map_eq_some_iff.1 e.symm
                                   exact (HCo.out.gr G6.out).ne (HBo.out.gr G6.out) (by decide) x y hx hy e2.symm)
                                 have R6 := (HO5.out.gr (Gr.alloc wr (.cells #[.slice adr R.length cr] 22))).grown k6 (fun x hx e => by
                                   obtain ⟨y, hy, e2⟩ := Option.map_eq_some_iff.1 e.symm
                                   exact (HO5.out.gr (Gr.alloc wr (.cells #[.slice adr R.length cr] 22))).ne (HBo.out.gr G6.out) (by decide) x y hx hy e2.symm)
                                 have HO6 := Lib.hid o6; have HK6 := Lib.hid k6; have HF6 := Lib.hid f6
                                 clear o6 k6 f6)
                              | (at_builtin; go_must (refine wp_append elemC rfl _ _ rfl rfl C6 rfl (Src.own R6 (cv_one R) Tryz.underlying22) m3 m4 (Nat.le_trans hgs (Nat.le_trans G6.out.size HK6.out.size)) ?_); intro ad7 c7 w7 o7 k7 f7
                                 have T7 := T6.grown k7 (fun e => by
                                   obtain ⟨y, hy, e2⟩ := Option.map_eq_some_iff.1 e.symm
                                   exact T6.owns_ne C6 (by decide) y hy e2)
                                 have z7 := T7.frozen 0
                                 have y7 := T7.cell (i := 0) rfl)
                              | fail)
                            go_roundw
                            case rel =>
                              obtain ⟨zl, zc, zg, zb⟩ := HZ.out
                              have kg := grown_set w7 g 0 (.slice ad7 (FL + R.length) c7)
                              have hs56 : wr.heap.size ≤ (wr.alloc (.cells #[.slice adr R.length cr] 22)).heap.size := (Gr.alloc _ _).size
                              have hs6 := HK6.out.size
                              have hs5 := G5.out.size
                              have hs7 := k7.size
                              have hgl := HT.out.lt
                              have hrb : ∀ a, adr = some a → W0.heap.size ≤ a.block ∧ a.block < wr.heap.size := fun a ha => by
                                have := HO5.out.lt a ha
                                have := HW4.out
                                omega
                              have hadc : ∀ a, adc = some a → a.block < W0.heap.size := fun a ha => (HCo.out.lt a ha).2
                              have hadb : ∀ a, adb = some a → a.block < W0.heap.size := fun a ha => (HBo.out.lt a ha).2
                              have B7 := HO6.out.grown k7 (fun x hx e => by
                                obtain ⟨y, hy, e2⟩ := Option.map_eq_some_iff.1 e.symm
                                exact HO6.out.ne C6 (by decide) x y hx hy e2.symm)
                              have R7 := R6.grown k7 (fun x hx e => by
                                obtain ⟨y, hy, e2⟩ := Option.map_eq_some_iff.1 e.symm
                                have h1 := (hrb x hx).1
                                have h2 := hadc y hy
                                omega)
                              have R8 := R7.grown kg (fun x hx e => T7.owns_ne R7 (by decide) x hx (Option.some.inj e))
                              have hkeep : ∀ j, Z j → (w7.setCell ⟨g, 0, none⟩ (.slice ad7 (FL + R.length) c7)).heap[j]? = W0.heap[j]? := fun j hj => by
                                have h1 := zl j hj
                                have a1 := G6.out.block j h1
                                have a2 := HK6.out.block j (Nat.lt_of_lt_of_le h1 G6.out.size) (fun e => by
                                  obtain ⟨y, hy, e2⟩ := Option.map_eq_some_iff.1 e.symm
                                  exact zb j hj y hy e2)
                                have a3 := k7.block j (by omega) (fun e => by
                                  obtain ⟨y, hy, e2⟩ := Option.map_eq_some_iff.1 e.symm
                                  exact zc y hy (by rw [e2]; exact hj))
                                have a4 := kg.block j (by omega) (fun e => zg j hj (Option.some.inj e))
                                exact a4.trans (a3.trans (a2.trans a1))
                              have hfle : FL + R.length = (L ++ [R]).flatten.length := by rw [HFL.out]; simp
                              have hgr : Gr w2 (w7.setCell ⟨g, 0, none⟩ (.slice ad7 (FL + R.length) c7)) :=
                                (((HI.out.gr.trans G6.out).grown HK6.out (fun k hk => by
                                  obtain ⟨y, hy, e⟩ := Option.map_eq_some_iff.1 hk
                                  exact e ▸ (HBo.out.lt y hy).1)).grown k7 (fun k hk => by
                                  obtain ⟨y, hy, e⟩ := Option.map_eq_some_iff.1 hk
                                  exact e ▸ (HCo.out.lt y hy).1)).of_far kg HI.out.hg
                              refine ⟨i + 1, L ++ [R], ad6, c6, by go_num, by simp, hlt, ⟨HSn2.out, hgr, HI.out.hg, ⟨ad7, c7, vs ++ [.slice adr R.length cr], fun j => Z j ∨ ∃ a, adr = some a ∧ a.block = j, ?_, ?_, ?_, ?_, ?_, ?_, ?_, ?_⟩⟩⟩
                              · rw [← hfle]; exact T7.set_ 0 _
                              · rw [← hfle]
                                have e : cv (L ++ [R]).flatten = cv L.flatten ++ cv R := by simp [cv]
                                rw [e]
                                exact o7.grown kg (fun x hx e => T7.owns_ne o7 (by decide) x hx (Option.some.inj e))
                              · rw [List.length_append]
                                exact B7.grown kg (fun x hx e => T7.owns_ne B7 (by decide) x hx (Option.some.inj e))
                              · exact (HS.out.kept hkeep).snoc (fun j hj => .inl hj) HO5.out.2.1 R8.row (fun a ha => .inr ⟨a, ha, rfl⟩)
                              · intro j hj
                                have h8 := kg.size
                                rcases hj with h | ⟨a, ha, rfl⟩
                                · have := zl j h; omega
                                · have := (hrb a ha).2; omega
                              · intro a ha hz
                                rcases f7 a ha with h1 | h1
                                · rcases hz with h | ⟨a2, ha2, e⟩
                                  · exact zc a h1 h
                                  · have := (hrb a2 ha2).1; have := hadc a h1; omega
                                · rcases hz with h | ⟨a2, ha2, e⟩
                                  · have := zl _ h; omega
                                  · have := (hrb a2 ha2).2; omega
                              · intro j hj
                                rcases hj with h | ⟨a, ha, rfl⟩
                                · exact zg j h
                                · have := (hrb a ha).1; omega
                              · intro j hj a ha
                                rcases HF6.out a ha with h1 | h1
                                · rcases hj with h | ⟨a2, ha2, rfl⟩
                                  · exact zb j h a h1
                                  · have := (hrb a2 ha2).1; have := hadb a h1; omega
                                · rcases hj with h | ⟨a2, ha2, rfl⟩
                                  · have := zl _ h; omega
                                  · have := (hrb a2 ha2).2; omega
                            case measure => simp [intOf]; omega
                            -->>final
                        -->>inner
                    · have HN := Lib.hid (HNo.out (by rw [HRF3.out, if_pos (.inl he2)]))
                      have hne : ((e2 : Int) != 0) = true := by rw [bne_iff_ne]; omega
                      clear HNo HRF3 HSn HAll HPo2 he2
                      go_wp2_with (first
                        | (go_at_call 29; clear T1; go_must (refine (HGe0.out _).mono ?_); rintro e w' ⟨rfl, rfl⟩)
                        | (go_at_call 29; go_must (refine (HGe1.out _).mono ?_); rintro e w' ⟨rfl, rfl⟩)
                        | (go_at_call 26; go_must (refine (HCt.out _).mono ?_); rintro e w3 ⟨rfl, g3⟩)
                        | (go_at_call 28; go_must (refine (HP2.out _).mono ?_); rintro e w4 ⟨ad4, c4_, rfl, o4, g4⟩)
                        | fail)
                      go_ret
                      exact RetD.no HN.out ((HGw.out.trans HI.out.gr).trans (g3.trans g4))
                  -->>cut
              · have HN := Lib.hid (HNo.out (by rw [HRF.out, if_neg (by decide), if_pos h1]))
                have hne : ((e1 : Int) != 0) = true := by rw [bne_iff_ne]; omega
                clear HNo HRF HSn HAll h1
                go_wp2_with (first
                  | (go_at_call 29; clear T1; go_must (refine (HGe0.out _).mono ?_); rintro e w' ⟨rfl, rfl⟩)
                  | (go_at_call 29; go_must (refine (HGe1.out _).mono ?_); rintro e w' ⟨rfl, rfl⟩)
                  | fail)
                go_ret
                exact RetD.no HN.out (HGw.out.trans HI.out.gr)
            · have HN := Lib.hid (HNo.out (by rw [HRF.out, if_pos h0]))
              have hne : ((e0 : Int) != 0) = true := by rw [bne_iff_ne]; omega
              clear HNo HRF HSn HAll h0
              go_wp2_with (first
                | (go_at_call 29; go_must (refine (HGe0.out _).mono ?_); rintro e w' ⟨rfl, rfl⟩)
                | fail)
              go_ret
              exact RetD.no HN.out (HGw.out.trans HI.out.gr)
          · --<<after
            obtain rfl : i = l.length := by omega
            have heq := hI.eq
            rw [List.take_length] at heq
            have HO := Lib.hid (show docOpenF b = if chkT L.flatten 1 1 = 0 ∧ (List.range 64).any (fun i => layF L (buildF (keysF L.flatten) ((i : Int) + 1)).1 == b) = true then some (L.flatten, f) else none by rw [HOp2.out, heq])
            obtain ⟨hne0, hLl⟩ := runsOf_ne heq
            obtain ⟨adc, cc, vs, Z, hT, hCo, hBo, hS, hZ1, hZ2, hZ3, hZ4⟩ := hI.all
            have hval := runsOf_val heq
            have HCk := Lib.hid (fun w' (k : Gr wr w') => dchk_any adc cc L.flatten 1 1 w' (hCo.row.gr k) (by have h1 := hCo.2.1; have h2 := hCo.2.2.1; unfold maxLen at h2; omega) (fun c hc => Nat.le_trans (hval c hc) (by decide)))
            have HLy := Lib.hid (fun (hg : GoodL L) (hN : L ≠ []) (j : Nat) (hj : j < 64) w' (k : Gr wr w') => dlay_any adb cb L vs ((j : Int) + 1) w' (hBo.row.gr k) (hS.sls.gr k) hg.ne hg.count hg.len (fun r _ c _ => sortG_len _ _ _) (fun s hs => by
              obtain ⟨c, h1, h2⟩ := keys_mem hs
              have := keyC_le (hg.ok c h1)
              rw [h2] at this
              omega) (by omega) (by omega) (Nat.le_trans (hg.lay (good_of (hg.chk hN (size := 1) (bits := (j : Int) + 1) (by decide) (by decide) (by omega) (by omega))).2.2.1) (by decide)))
            have z0 := hT.cell (i := 0) rfl
            have HTb := Lib.hid (fun w' (k : Gr wr w') => show ∃ g' ad c z, some (⟨g, 0, none⟩ : Addr) = some ⟨g', 0, none⟩ ∧ Blk w' g' 39 [.slice ad L.flatten.length c, z] ∧ L.flatten.length ≤ c ∧ c ≤ maxLen ∧ Row w' ad (cv L.flatten) from ⟨g, adc, cc, _, rfl, hT.gr k, hCo.2.1, hCo.2.2.1, hCo.row.gr k⟩)
            have HGr := Lib.hid (HGw.out.trans hI.gr)
            obtain ⟨FL, hFL⟩ : ∃ n, n = L.flatten.length := ⟨_, rfl⟩
            have HFL := Lib.hid hFL
            rw [← hFL] at z0 HCk
            clear hI heq hLl hT hCo hBo hS hZ1 hZ2 hZ3 hZ4 hFL hval HLr HKl HOp2
            by_cases hck : chkT L.flatten 1 1 = 0
            · rw [hck] at HCk
              obtain ⟨_, _, _, _, hl5, hbg, hne, hord⟩ := chkT_ok hck
              have hgood : GoodL L := ⟨fun r hr => (hne0 r hr).1, hl5, ord_asc hord, ord_ok hord, big_le hbg⟩
              have hN : L ≠ [] := fun e => hne (by rw [e]; rfl)
              have HLz := Lib.hid (HLy.out hgood hN)
              have HO2 := Lib.hid (show docOpenF b = if (List.range 64).any (fun i => layF L (buildF (keysF L.flatten) ((i : Int) + 1)).1 == b) = true then some (L.flatten, f) else none by rw [HO.out]; simp only [hck, true_and])
              clear HLy hl5 hbg hne hord hck hgood hN hne0 HO
              obtain ⟨LY, hLY⟩ : ∃ LY : Nat → List UInt8, ∀ i, LY i = layF L (buildF (keysF L.flatten) ((i : Int) + 1)).1 := ⟨_, fun _ => rfl⟩
              simp only [← hLY] at HLz HO2
              clear hLY
              go_wp2_with (first
                | (go_at_call 16; go_must (refine (HCk.out _ (Gr.refl _)).mono ?_); rintro e w5 ⟨rfl, g5⟩)
                | fail)
              go_loopw [25] (fun vj wk => ∃ j : Nat, vj = .int .i64 ((j : Int) + 1) ∧ j ≤ 64 ∧ Gr wr wk ∧ ∀ k, k < j → (LY k == b) = false) (fun vj _ => 65 - (intOf vj).toNat)
              case atStart => exact ⟨0, rfl, Nat.zero_le _, g5, fun k h => by omega⟩
              case round =>
                obtain ⟨j, rfl, hj, hG, hB⟩ := hrel
                have HB := Lib.hid hB
                clear hB
                by_cases hlt : j < 64
                · have hltI : (j : Int) + 1 ≤ 64 := by omega
                  have HL3 := Lib.hid (HLz.out j hlt _ hG)
                  cases hy : (LY j == b) with
                  | true =>
                    have HS := Lib.hid (show docOpenF b = some (L.flatten, f) by rw [HO2.out, if_pos]; exact List.any_eq_true.2 ⟨j, List.mem_range.2 hlt, hy⟩)
                    have hyb : LY j = b := eq_of_beq hy
                    rw [hyb] at HL3
                    clear hyb hy HO2 HLz HB
                    go_wp2_with (first
                      | (go_at_call 17; go_must (refine HL3.out.mono ?_); rintro e w6 ⟨rfl, g6⟩)
                      | fail)
                    go_ret
                    refine ⟨some ⟨g, 0, none⟩, rfl, HGr.out.trans (hG.trans g6), fun h => (by rw [HS.out] at h; cases h), fun C f2 hc2 => ?_⟩
                    rw [HS.out] at hc2
                    cases hc2
                    exact HTb.out _ (hG.trans g6)
                  | false =>
                    have HN := Lib.hid (show ∀ k, k < j + 1 → (LY k == b) = false from fun k hk => by
                      rcases Nat.eq_or_lt_of_le (Nat.le_of_lt_succ hk) with e | e
                      · rw [e]; exact hy
                      · exact HB.out k e)
                    clear HO2 HLz HB
                    generalize LY j = Y at *
                    go_wp2_with (first
                      | (go_at_call 17; go_must (refine HL3.out.mono ?_); rintro e w6 ⟨rfl, g6⟩)
                      | fail)
                    go_roundw
                    case rel => exact ⟨j + 1, by go_num, hlt, hG.trans g6, HN.out⟩
                    case measure => simp [intOf]; omega
                · obtain rfl : j = 64 := by omega
                  have HN := Lib.hid (show docOpenF b = none by
                    rw [HO2.out, if_neg]
                    intro h
                    obtain ⟨k, hk, hk2⟩ := List.any_eq_true.1 h
                    rw [HB.out k (List.mem_range.1 hk)] at hk2
                    cases hk2)
                  clear HO2 HLz HB
                  go_wp2
                  go_ret
                  exact RetD.no HN.out (HGr.out.trans hG)
            · have HN := Lib.hid (show docOpenF b = none by rw [HO.out, if_neg (fun h => hck h.1)])
              obtain ⟨c, hcc⟩ : ∃ c, c = chkT L.flatten 1 1 := ⟨_, rfl⟩
              rw [← hcc] at HCk hck
              have hne : ((c : Int) != 0) = true := by rw [bne_iff_ne]; omega
              clear hcc hck HLy HO
              go_wp2_with (first
                | (go_at_call 16; go_must (refine (HCk.out _ (Gr.refl _)).mono ?_); rintro e w5 ⟨rfl, g5⟩)
                | fail)
              go_ret
              exact RetD.no HN.out (HGr.out.trans g5)
            -->>after
      · have he2 : e6 = 2 := by
          rcases hpe with h | h
          · exact absurd h h6
          · exact (Prod.mk.inj h).2
        have HN := Lib.hid (show docOpenF b = none by rw [HOp.out, if_pos h6])
        subst he2
        clear hpe HPo HOp h6
        go_wp2_with (first
          | (go_at_call 28; go_must (refine (HPs.out _).mono ?_); rintro e w2 ⟨adl, cl, rfl, ol, gl⟩)
          | fail)
        go_ret
        exact RetD.no HN.out (HG2.out.trans gl)
theorem dOpen_any (b : List UInt8) (w : World) (hl : b.length ≤ 1000000) : Calls Tryz.prog 9 #[.string (str b)] w (RetD w (docOpenF b)) := by
  by_cases h24 : b.length < 24
  · exact dOpen_short b w h24
  · cases hf : filtOf b with
    | none => exact dOpen_cut b w (by omega) hl (.inl hf)
    | some f =>
      cases hx : idxOf b with
      | none => exact dOpen_cut b w (by omega) hl (.inr hx)
      | some x => exact dOpen_rest b f x w (by omega) hl hf hx
end Go.Proofs.YtlfbelocdpboeaaGreatDoor
