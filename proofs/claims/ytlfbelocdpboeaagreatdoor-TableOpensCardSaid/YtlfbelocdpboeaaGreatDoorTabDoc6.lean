/- Layer 14 (table): the head of the reference's DocOpen walked. -/
import Derived.Test.YtlfbelocdpboeaaGreatDoorTabDoc5
namespace Go.Proofs.YtlfbelocdpboeaaGreatDoor
set_option linter.unusedVariables false
set_option linter.unusedSimpArgs false
open Go.RowKit Tab
/-- what the reference's cut answers -/
def docCut (b : List UInt8) (off n : Nat) : List UInt8 × Bool := if b.length < off + n + 4 then ([], false) else ((b.drop off).take n, numF b (off + n) == markF ((b.drop off).take n))
theorem docCut_len (b : List UInt8) (off n : Nat) : (docCut b off n).1.length ≤ b.length := by
  unfold docCut
  split
  · exact Nat.zero_le _
  · simp only [List.length_take, List.length_drop]; omega
theorem docCut_some (b : List UInt8) (off n : Nat) : (docCut b off n).2 = (cutF b off n).isSome ∧ ∀ s, cutF b off n = some s → (docCut b off n).1 = s := by
  unfold docCut cutF
  by_cases h : b.length < off + n + 4
  · rw [if_pos h, if_pos h]
    exact ⟨rfl, fun s hs => (by cases hs)⟩
  · rw [if_neg h, if_neg h]
    by_cases hm : numF b (off + n) = markF ((b.drop off).take n)
    · rw [if_pos hm, hm]
      exact ⟨by simp, fun s hs => Option.some.inj hs⟩
    · rw [if_neg hm]
      exact ⟨by simp [hm], fun s hs => (by cases hs)⟩
theorem dcut_is (b : List UInt8) (off n : Nat) (w : World) (hl : b.length ≤ 1000000000) (ho : off < 4611686018427387904) (hn : n < 4611686018427387904) :
    Calls Tryz.prog 26 #[.string (str b), .int .i64 (off : Int), .int .i64 (n : Int)] w fun e w' => e = .returned (.tuple #[.string (str (docCut b off n).1), .bool (docCut b off n).2]) ∧ Gr w w' := by
  unfold docCut
  by_cases h : b.length < off + n + 4
  · rw [if_pos h]; exact dcut_none b off n w hl ho hn h
  · rw [if_neg h]; exact dcut_at b off n w hl (by omega)
/-- a table of the reference, or none -/
def RetD (w : World) (o : Option (List Ci × List UInt8)) : Ending → World → Prop := fun x w' =>
  ∃ p, x = .returned (.pointer p) ∧ Gr w w' ∧ (o = none → p = none) ∧ ∀ C f, o = some (C, f) → ∃ g ad cc z, p = some ⟨g, 0, none⟩ ∧ Blk w' g 39 [.slice ad C.length cc, z] ∧ C.length ≤ cc ∧ cc ≤ maxLen ∧ Row w' ad (cv C)
theorem RetD.no {w w' : World} {o : Option (List Ci × List UInt8)} (h : o = none) (k : Gr w w') : RetD w o (.returned (.pointer none)) w' :=
  ⟨none, rfl, k, fun _ => rfl, fun C f hc => by rw [h] at hc; cases hc⟩
set_option maxRecDepth 100000 in
theorem dOpen_short (b : List UInt8) (w : World) (h : b.length < 24) : Calls Tryz.prog 9 #[.string (str b)] w (RetD w (docOpenF b)) := by
  have HN := Lib.hid (show docOpenF b = none by unfold docOpenF; rw [if_pos h])
  have hlt : (b.length : Int) < 24 := by omega
  go_enter Tryz.func9, Tryz.ntmps9
  go_wp2
  go_ret
  exact RetD.no HN.out (Gr.refl _)
theorem numF_drop (b : List UInt8) (a k : Nat) : Varint.le (((b.drop a).drop k).take 4) = numF b (a + k) := by unfold numF; rw [List.drop_drop]
set_option maxRecDepth 100000 in
set_option maxHeartbeats 4000000 in
theorem dOpen_cut (b : List UInt8) (w : World) (h24 : 24 ≤ b.length) (hl : b.length ≤ 1000000) (hn : filtOf b = none ∨ idxOf b = none) :
    Calls Tryz.prog 9 #[.string (str b)] w (RetD w (docOpenF b)) := by
  have HN := Lib.hid (show docOpenF b = none by
    unfold docOpenF
    rw [if_neg (by omega)]
    rcases hn with h | h
    · rw [h]
    · rw [h]; cases filtOf b <;> rfl)
  obtain ⟨a, ha⟩ : ∃ a, a = b.length - 24 := ⟨_, rfl⟩
  have haI : (b.length : Int) - 24 = (a : Int) := by omega
  have hal : a ≤ b.length := by omega
  obtain ⟨ft, hft⟩ : ∃ ft, ft = b.drop a := ⟨_, rfl⟩
  have hftl : ft.length = 24 := by rw [hft, List.length_drop]; omega
  obtain ⟨f4, hf4⟩ : ∃ f4, f4 = ft.drop 4 := ⟨_, rfl⟩
  obtain ⟨f8, hf8⟩ : ∃ f8, f8 = ft.drop 8 := ⟨_, rfl⟩
  obtain ⟨f12, hf12⟩ : ∃ f12, f12 = ft.drop 12 := ⟨_, rfl⟩
  have l4 : f4.length = 20 := by rw [hf4, List.length_drop, hftl]
  have l8 : f8.length = 16 := by rw [hf8, List.length_drop, hftl]
  have l12 : f12.length = 12 := by rw [hf12, List.length_drop, hftl]
  have HN0 := Lib.hid (fun w => dnumber_any ft w (by omega) (by omega))
  have HN1 := Lib.hid (fun w => dnumber_any f4 w (by omega) (by omega))
  have HN2 := Lib.hid (fun w => dnumber_any f8 w (by omega) (by omega))
  have HN3 := Lib.hid (fun w => dnumber_any f12 w (by omega) (by omega))
  rw [show Varint.le (ft.take 4) = numF b (a + 0) by rw [hft, ← numF_drop]; rfl] at HN0
  rw [show Varint.le (f4.take 4) = numF b (a + 4) by rw [hf4, hft, numF_drop]] at HN1
  rw [show Varint.le (f8.take 4) = numF b (a + 8) by rw [hf8, hft, numF_drop]] at HN2
  rw [show Varint.le (f12.take 4) = numF b (a + 12) by rw [hf12, hft, numF_drop]] at HN3
  have n0 := numF_lt b (a + 0)
  have n1 := numF_lt b (a + 4)
  have n2 := numF_lt b (a + 8)
  have n3 := numF_lt b (a + 12)
  have HC1 := Lib.hid (fun w => dcut_is b (numF b (a + 0)) (numF b (a + 4)) w (by omega) (by omega) (by omega))
  have HC2 := Lib.hid (fun w => dcut_is b (numF b (a + 8)) (numF b (a + 12)) w (by omega) (by omega) (by omega))
  have hk : (docCut b (numF b (a + 0)) (numF b (a + 4))).2 = false ∨ (docCut b (numF b (a + 8)) (numF b (a + 12))).2 = false := by
    rw [(docCut_some _ _ _).1, (docCut_some _ _ _).1]
    rcases hn with h | h
    · unfold filtOf at h; rw [← ha] at h; left; rw [show a + 0 = a from rfl, h]; rfl
    · unfold idxOf at h; rw [← ha] at h; right; rw [h]; rfl
  generalize numF b (a + 0) = m0 at *
  generalize numF b (a + 4) = m1 at *
  generalize numF b (a + 8) = m2 at *
  generalize numF b (a + 12) = m3 at *
  generalize docCut b m0 m1 = D1 at *
  generalize docCut b m2 m3 = D2 at *
  obtain ⟨S1, k1⟩ := D1
  obtain ⟨S2, k2⟩ := D2
  simp only at HC1 HC2 hk
  have hft2 : b.drop a = ft := hft.symm
  have hft3 : ft.take (b.length - a) = ft := List.take_of_length_le (by rw [hft, List.length_drop]; omega)
  have e4 : ft.drop 4 = f4 := hf4.symm
  have e4' : f4.take 20 = f4 := List.take_of_length_le (by omega)
  have e8 : ft.drop 8 = f8 := hf8.symm
  have e8' : f8.take 16 = f8 := List.take_of_length_le (by omega)
  have e12 : ft.drop 12 = f12 := hf12.symm
  have e12' : f12.take 12 = f12 := List.take_of_length_le (by omega)
  have hbI : (b.length : Int) ≤ 1000000 := by omega
  clear ha hn n0 n1 n2 n3 l4 l8 l12 hft hf4 hf8 hf12
  go_enter Tryz.func9, Tryz.ntmps9
  go_wp2
  refine region_any_gr _ [Is (.string (str b)), Is (.string (str ft)), Is (.int .i64 (m0 : Int)), Is (.string (str ft)), Is (.string (str f4)), Is (.int .i64 (m1 : Int)), Is (.tuple #[.string (str S1), .bool k1]), Is (.tuple #[.string (str S1), .bool k1]), Is (.string (str S1)), Is (.bool k1), Is (.string (str S1)), Is (.bool k1)] (by kernel_rfl) (by kernel_rfl) (by kernel_rfl) rfl rfl ⟨Is.stable _, Is.stable _, Is.stable _, Is.stable _, Is.stable _, Is.stable _, Is.stable _, Is.stable _, Is.stable _, Is.stable _, Is.stable _, Is.stable _, trivial⟩ ⟨?s0, ?s1, ?s2, ?s3, ?s4, ?s5, ?s6, ?s7, ?s8, ?s9, ?s10, ?s11, trivial⟩ ?fin
  case' s0 | s1 | s2 | s3 | s4 | s5 | s6 | s7 | s8 | s9 | s10 | s11 =>
    intro ρ wr hρ hg hK
    simp [readsOf, slotsOf, Op.operands, Call.operands, tmpOf, List.filterMap_cons, List.filterMap_nil, KnownAll, knownOf, srcOf, depsOf, dstOf, Region.binds, nth, Is] at hK
    obtain ⟨hc, hf, hgl⟩ := hρ
    try simp only [wantedBy, dstOf, boolOf, nth, List.getD_cons_zero, List.getD_cons_succ, List.getElem?_cons_zero, List.getElem?_cons_succ, Option.bind_some, if_true, hK, BEq.rfl]
    try go_simp
    first | exact rfl | (rw [if_pos (by omega)]; exact is_here rfl) | (rw [dif_pos (by omega)]; exact is_here rfl) | exact congrArg (Value.int _) (IntWalk.i64_in _ ⟨by omega, by omega⟩) | skip
  case s2 => exact any_gr (HN0.out _)
  case s5 => exact any_gr (HN1.out _)
  case s6 => exact any_gr (HC1.out _)
  case fin =>
    intro w1 val hg hH
    simp only [Holds, Is, Nat.zero_add, Nat.reduceAdd] at hH
    obtain ⟨h0, h1, h2, h3, h4, h5, h6, h7, h8, h9, h10, h11, _⟩ := hH
    simp only [List.take_succ_cons, List.take_zero, List.drop_succ_cons, List.drop_zero, putAll, h0, h1, h2, h3, h4, h5, h6, h7, h8, h9, h10, h11, Nat.zero_add, Nat.reduceAdd]
    have HG1 := Lib.hid hg
    clear hg HN0 HN1 HC1
    go_simp
    go_wp2
    refine region_any_gr _ [Is (.string (str b)), Is (.string (str ft)), Is (.string (str f8)), Is (.int .i64 (m2 : Int)), Is (.string (str ft)), Is (.string (str f12)), Is (.int .i64 (m3 : Int)), Is (.tuple #[.string (str S2), .bool k2]), Is (.tuple #[.string (str S2), .bool k2]), Is (.string (str S2)), Is (.bool k2), Is (.string (str S2)), Is (.bool k2)] (by kernel_rfl) (by kernel_rfl) (by kernel_rfl) rfl rfl ⟨Is.stable _, Is.stable _, Is.stable _, Is.stable _, Is.stable _, Is.stable _, Is.stable _, Is.stable _, Is.stable _, Is.stable _, Is.stable _, Is.stable _, Is.stable _, trivial⟩ ⟨?s0x1, ?s1x1, ?s2x1, ?s3x1, ?s4x1, ?s5x1, ?s6x1, ?s7x1, ?s8x1, ?s9x1, ?s10x1, ?s11x1, ?s12x1, trivial⟩ ?finx1
    case' s0x1 | s1x1 | s2x1 | s3x1 | s4x1 | s5x1 | s6x1 | s7x1 | s8x1 | s9x1 | s10x1 | s11x1 | s12x1 =>
      intro ρ wr hρ hg hK
      simp [readsOf, slotsOf, Op.operands, Call.operands, tmpOf, List.filterMap_cons, List.filterMap_nil, KnownAll, knownOf, srcOf, depsOf, dstOf, Region.binds, nth, Is] at hK
      obtain ⟨hc, hf, hgl⟩ := hρ
      try simp only [wantedBy, dstOf, boolOf, nth, List.getD_cons_zero, List.getD_cons_succ, List.getElem?_cons_zero, List.getElem?_cons_succ, Option.bind_some, if_true, hK, BEq.rfl]
      try go_simp
      first | exact rfl | (rw [if_pos (by omega)]; exact is_here rfl) | (rw [dif_pos (by omega)]; exact is_here rfl) | exact congrArg (Value.int _) (IntWalk.i64_in _ ⟨by omega, by omega⟩) | skip
    case s3x1 => exact any_gr (HN2.out _)
    case s6x1 => exact any_gr (HN3.out _)
    case s7x1 => exact any_gr (HC2.out _)
    case finx1 =>
      intro w1 val hg hH
      simp only [Holds, Is, Nat.zero_add, Nat.reduceAdd] at hH
      obtain ⟨h0, h1, h2, h3, h4, h5, h6, h7, h8, h9, h10, h11, h12, _⟩ := hH
      simp only [List.take_succ_cons, List.take_zero, List.drop_succ_cons, List.drop_zero, putAll, h0, h1, h2, h3, h4, h5, h6, h7, h8, h9, h10, h11, h12, Nat.zero_add, Nat.reduceAdd]
      have HG2 := Lib.hid (HG1.out.trans hg)
      clear hg HN2 HN3 HC2
      go_simp
      cases k1 with
      | false =>
        go_wp2
        go_ret
        exact RetD.no HN.out HG2.out
      | true =>
        have hk2 : k2 = false := by
          rcases hk with h | h
          · cases h
          · exact h
        subst hk2
        go_wp2
        go_ret
        exact RetD.no HN.out HG2.out
end Go.Proofs.YtlfbelocdpboeaaGreatDoor
