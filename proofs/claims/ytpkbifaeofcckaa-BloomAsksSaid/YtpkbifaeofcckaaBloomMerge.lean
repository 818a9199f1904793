/- Layer 6 (bloom): filters are merged; does a filter do what it should? -/
import Derived.Test.YtpkbifaeofcckaaBloomMay
namespace Go.Proofs.Ytpkbifaeofcckaa
set_option linter.unusedVariables false
set_option linter.unusedSimpArgs false
open Go.RowKit Bloom
def orF (a b : List UInt8) : List UInt8 := List.zipWith (· ||| ·) a b
theorem orF_len (a b : List UInt8) (h : a.length = b.length) : (orF a b).length = a.length := by simp [orF, h]
theorem orF_take (a b : List UInt8) (i : Nat) (h1 : i < a.length) (h2 : i < b.length) : orF (a.take (i + 1)) (b.take (i + 1)) = orF (a.take i) (b.take i) ++ [a[i] ||| b[i]] := by
  unfold orF
  rw [List.take_succ_eq_append_getElem h1, List.take_succ_eq_append_getElem h2, List.zipWith_append (by simp; omega)]
  rfl
def mergeF (a b : List UInt8) : List UInt8 × Nat :=
  if rightF a = false ∨ rightF b = false then ([], 2)
  else if a.length ≠ b.length ∨ a.getD (a.length - 1) 0 ≠ b.getD (b.length - 1) 0 then ([], 1)
  else (orF (a.take (a.length - 1)) (b.take (b.length - 1)) ++ [a.getD (a.length - 1) 0], 0)
set_option maxRecDepth 100000 in
set_option maxHeartbeats 1000000 in
theorem Merge_good (m m' : List UInt8) (x : UInt8) (ad ad' : Option Addr) (cap cap' : Nat) (w : World) (hc : m.length + 1 ≤ cap) (hcm : cap ≤ maxLen) (hc' : m.length + 1 ≤ cap') (hcm' : cap' ≤ maxLen) (hlen : m'.length = m.length) (hl : m.length ≤ 100000000) (h1 : 1 ≤ m.length) (h2 : 1 ≤ x.toNat) (h3 : x.toNat ≤ 30) (hb : Bytes w ad (m ++ [x])) (hb' : Bytes w ad' (m' ++ [x])) :
    Calls Try.prog 16 #[.slice ad (m.length + 1) cap, .slice ad' (m.length + 1) cap'] w (RetBE 5 w (orF m m' ++ [x]) 0) := by
  have HS := Lib.hid (split_yes m x ad cap w hc hcm h1 h2 h3 hb)
  have HS' := Lib.hid (fun w1 (g : Gr w w1) => split_yes m' x ad' cap' w1 (by omega) hcm' (by omega) h2 h3 (hb'.gr g))
  rw [hlen] at HS'
  have hbm : Bytes w ad m := by have := hb.take m.length; simpa using this
  have hbm' : Bytes w ad' m' := by have := hb'.take m'.length; simpa using this
  have HB := Lib.hid hbm; have HB' := Lib.hid hbm'
  have HL := Lib.hid hlen
  have HO := Lib.hid (orF_len m m' hlen.symm)
  clear hb hb' hbm hbm' hlen
  go_enter Try.func16, Try.ntmps16
  go_wp2_with (first
    | (go_at_call 24; (with_reducible refine HS.out.mono ?_); rintro e w1 ⟨rfl, g1⟩; clear HS)
    | (go_at_call 24; (with_reducible refine (HS'.out _ g1).mono ?_); rintro e w2 ⟨rfl, g2⟩))
  have G2 := g1.trans g2
  go_loopw [12, 13, 46] (fun v _ i wr => ∃ (j : Nat) (ad2 : Option Addr) (cap2 : Nat), j ≤ m.length ∧ i = .int .i64 (j : Int) ∧ v = .slice ad2 j cap2 ∧ Owns wr w.heap.size 5 1 ad2 cap2 j (bv (orF (m.take j) (m'.take j))) ∧ Gr w wr) (fun _ _ i _ => m.length - (intOf i).toNat)
  case atStart => exact ⟨0, none, 0, Nat.zero_le _, rfl, rfl, Owns.empty _ _ _ _, G2⟩
  case round =>
    obtain ⟨j, ad2, cap2, hj, rfl, rfl, ho, hg⟩ := hrel
    have hgw := hg
    by_cases hlt : j < m.length
    · have hlt' : j < m'.length := by rw [HL.out]; exact hlt
      have hbj := HB.out.gr hg
      have hbj' := HB'.out.gr hg
      have hx := byte_hi m[j]
      have hy := byte_hi m'[j]
      have hor := b8_or m[j] m'[j]
      have HOR := Lib.hid hor
      clear hor
      obtain ⟨b, off, rfl, hc0⟩ := hbj j hlt
      obtain ⟨b', off', rfl, hc1⟩ := hbj' j hlt'
      have hm1 : j + 1 ≤ maxLen := by unfold maxLen; omega
      have hm2 : (j + 1) * 1 ≤ 140737488355328 := by omega
      have hbs := hg.size
      go_wp2
      refine region_tail_gr 11 _ [Is ?r0, Is ?r1, Is ?r2, Is (.pointer (some ⟨b, off + j, none⟩)), Is (.int .u8 (m[j].toNat : Int)), Is ?r5, Is ?r6, Is (.pointer (some ⟨b', off' + j, none⟩)), Is (.int .u8 (m'[j].toNat : Int)), Is (.int .u8 ((m[j] ||| m'[j]).toNat : Int)), ReadsB ([m[j] ||| m'[j]])] (by kernel_rfl) (by kernel_rfl) (by kernel_rfl) (by kernel_rfl) rfl rfl ⟨Is.stable _, Is.stable _, Is.stable _, Is.stable _, Is.stable _, Is.stable _, Is.stable _, Is.stable _, Is.stable _, Is.stable _, ReadsB.stable _, trivial⟩ ⟨?s0, ?s1, ?s2, ?s3, ?s4, ?s5, ?s6, ?s7, ?s8, ?s9, ?s10, trivial⟩ ?fin
      case' s0 | s1 | s2 | s3 | s4 | s5 | s6 | s7 | s8 | s9 | s10 =>
        intro ρ wr hρ hg hK
        simp [readsOf, slotsOf, Op.operands, Call.operands, tmpOf, List.filterMap_cons, List.filterMap_nil, KnownAll, knownOf, srcOf, depsOf, dstOf, Region.binds, nth, Is] at hK
        obtain ⟨hc, hf, hgl⟩ := hρ
        try simp only [wantedBy, dstOf, boolOf, nth, List.getD_cons_zero, List.getD_cons_succ, List.getElem?_cons_zero, List.getElem?_cons_succ, Option.bind_some, if_true, hK, BEq.rfl]
        try go_simp
        first | exact rfl | (rw [if_pos (by omega)]; exact is_here rfl) | (rw [dif_pos (by omega)]; exact is_here rfl) | exact congrArg (Value.int _) (IntWalk.i64_in _ ⟨by omega, by omega⟩) | skip
      case s4 => have q := hg.cell hc0; go_simp; exact rfl
      case s8 => have q := hg.cell hc1; go_simp; exact rfl
      case s9 => exact congrArg (Value.int _) HOR.out
      case s10 => exact ⟨Gr.alloc _ _, some ⟨wr.heap.size, 0, none⟩, 1, rfl, Bytes.alloc _ _ _ (0, 0) [m[j] ||| m'[j]] rfl⟩
      case fin =>
        intro w1 val hg hH
        simp only [Holds, Is, Nat.zero_add, Nat.reduceAdd] at hH
        obtain ⟨h0, h1, h2, h3, h4, h5, h6, h7, h8, h9, ⟨ad10, cap10, h10, hb10⟩, _⟩ := hH
        simp only [List.take_succ_cons, List.take_zero, List.drop_succ_cons, List.drop_zero, putAll, h0, h1, h2, h3, h4, h5, h6, h7, h8, h9, h10, Nat.zero_add, Nat.reduceAdd]
        go_simp
        have hbs2 := hg.size
        have hbs3 : w.heap.size ≤ w1.heap.size := by omega
        go_wp2_with (at_builtin; go_must (refine wp_append elemB rfl _ _ rfl rfl (ho.gr hg) rfl (Src.bytes hb10 rfl Try.underlying30) hm1 hm2 hbs3 ?_); intro ad3 cap3 w4 o4 k4 f4)
        go_roundw
        case rel => exact ⟨j + 1, ad3, cap3, by omega, by go_num, rfl, by rw [orF_take m m' j hlt hlt', bv_append]; exact o4, (hgw.trans hg).grown k4 (fun g e => by
          cases ad2 with
          | none => cases e
          | some a => cases e; exact (ho.lt a rfl).1)⟩
        case measure => simp [intOf]; omega
    · obtain rfl : j = m.length := by omega
      have ho2 := ho
      rw [List.take_length, show m'.take m.length = m' from List.take_of_length_le (by rw [HL.out]; exact Nat.le_refl _)] at ho2
      have HX2 := Lib.hid (show (x.toNat : Int) = (x.toNat : Int) from rfl)
      have hbs : w.heap.size ≤ (wr.alloc (.cells #[.int .u8 (x.toNat : Int)] 5)).heap.size := by have := hg.size; simp; omega
      have hm1 : m.length + 1 ≤ maxLen := by unfold maxLen; omega
      have hm3 : (m.length + 1) * 1 ≤ 140737488355328 := by omega
      have hx8 : (x.toNat : Int) < 256 := byte_hi x
      go_wp2_with (at_builtin; go_must (refine wp_append elemB rfl _ _ rfl rfl (ho2.gr (Gr.alloc _ _)) rfl (Src.one _ _ x rfl Try.underlying30) hm1 hm3 hbs ?_); intro ad3 cap3 w4 o4 k4 f4)
      go_ret2
      have hlf : (orF m m' ++ [x]).length = m.length + 1 := by rw [List.length_append, HO.out]; rfl
      refine ⟨ad3, cap3, ?_, ?_, hg.app ho2 (Nat.le_refl _) k4⟩
      · rw [hlf]; rfl
      · rw [hlf, bv_append]; exact o4
set_option maxRecDepth 100000 in
set_option maxHeartbeats 1000000 in
theorem Merge_form (va vb sa sb : Value) (xa xb : Int) (oka okb : Bool) (w : World) (h : oka = false ∨ okb = false)
    (HSa : Calls Try.prog 24 #[va] w fun e w' => e = .returned (.tuple #[sa, .int .i64 xa, .bool oka]) ∧ Gr w w')
    (HSb : ∀ w1, Gr w w1 → Calls Try.prog 24 #[vb] w1 fun e w' => e = .returned (.tuple #[sb, .int .i64 xb, .bool okb]) ∧ Gr w1 w') :
    Calls Try.prog 16 #[va, vb] w (RetBE 5 w [] 2) := by
  have HA := Lib.hid HSa
  have HB := Lib.hid HSb
  clear HSa HSb
  cases oka with
  | false =>
    go_enter Try.func16, Try.ntmps16
    go_wp2_with (first
      | (go_at_call 24; (with_reducible refine HA.out.mono ?_); rintro e w1 ⟨rfl, g1⟩; clear HA)
      | (go_at_call 24; (with_reducible refine (HB.out _ g1).mono ?_); rintro e w2 ⟨rfl, g2⟩))
    go_ret2
    exact ⟨none, 0, rfl, Owns.empty _ _ _ _, g1.trans g2⟩
  | true =>
    obtain rfl : okb = false := by rcases h with h | h; cases h; exact h
    go_enter Try.func16, Try.ntmps16
    go_wp2_with (first
      | (go_at_call 24; (with_reducible refine HA.out.mono ?_); rintro e w1 ⟨rfl, g1⟩; clear HA)
      | (go_at_call 24; (with_reducible refine (HB.out _ g1).mono ?_); rintro e w2 ⟨rfl, g2⟩))
    go_ret2
    exact ⟨none, 0, rfl, Owns.empty _ _ _ _, g1.trans g2⟩
set_option maxRecDepth 100000 in
set_option maxHeartbeats 1000000 in
theorem Merge_apart (m m' : List UInt8) (x y : UInt8) (ad ad' : Option Addr) (cap cap' : Nat) (w : World) (hc : m.length + 1 ≤ cap) (hcm : cap ≤ maxLen) (hc' : m'.length + 1 ≤ cap') (hcm' : cap' ≤ maxLen) (h : m.length ≠ m'.length ∨ x ≠ y) (h1 : 1 ≤ m.length) (h1' : 1 ≤ m'.length) (h2 : 1 ≤ x.toNat) (h3 : x.toNat ≤ 30) (h2' : 1 ≤ y.toNat) (h3' : y.toNat ≤ 30) (hb : Bytes w ad (m ++ [x])) (hb' : Bytes w ad' (m' ++ [y])) :
    Calls Try.prog 16 #[.slice ad (m.length + 1) cap, .slice ad' (m'.length + 1) cap'] w (RetBE 5 w [] 1) := by
  have HS := Lib.hid (split_yes m x ad cap w hc hcm h1 h2 h3 hb)
  have HS' := Lib.hid (fun w1 (g : Gr w w1) => split_yes m' y ad' cap' w1 hc' hcm' h1' h2' h3' (hb'.gr g))
  have hxy : x.toNat = y.toNat → x = y := UInt8.toNat_inj.1
  clear hb hb'
  by_cases hl : m.length = m'.length
  · have hne : ((x.toNat : Int) != (y.toNat : Int)) = true := by
      rw [bne_iff_ne]; intro e
      rcases h with h | h
      · exact h hl
      · exact h (hxy (by omega))
    have hle : ((m.length : Int) != (m'.length : Int)) = false := by rw [bne_eq_false_iff_eq]; omega
    have HL := Lib.hid hl
    clear h hl hxy
    go_enter Try.func16, Try.ntmps16
    go_wp2_with (first
      | (go_at_call 24; (with_reducible refine HS.out.mono ?_); rintro e w1 ⟨rfl, g1⟩; clear HS)
      | (go_at_call 24; (with_reducible refine (HS'.out _ g1).mono ?_); rintro e w2 ⟨rfl, g2⟩))
    go_ret2
    exact ⟨none, 0, rfl, Owns.empty _ _ _ _, g1.trans g2⟩
  · have hle : ((m.length : Int) != (m'.length : Int)) = true := by rw [bne_iff_ne]; omega
    clear h hxy
    go_enter Try.func16, Try.ntmps16
    go_wp2_with (first
      | (go_at_call 24; (with_reducible refine HS.out.mono ?_); rintro e w1 ⟨rfl, g1⟩; clear HS)
      | (go_at_call 24; (with_reducible refine (HS'.out _ g1).mono ?_); rintro e w2 ⟨rfl, g2⟩))
    go_ret2
    exact ⟨none, 0, rfl, Owns.empty _ _ _ _, g1.trans g2⟩
theorem merge_good (m m' : List UInt8) (x : UInt8) (hlen : m'.length = m.length) (h1 : 1 ≤ m.length) (h2 : 1 ≤ x.toNat) (h3 : x.toNat ≤ 30) : mergeF (m ++ [x]) (m' ++ [x]) = (orF m m' ++ [x], 0) := by
  unfold mergeF
  rw [right_mk h1 h2 h3, right_mk (by omega) h2 h3, if_neg (by simp), if_neg (by simp [hlen])]
  simp
theorem merge_apart (m m' : List UInt8) (x y : UInt8) (h : m.length ≠ m'.length ∨ x ≠ y) (h1 : 1 ≤ m.length) (h1' : 1 ≤ m'.length) (h2 : 1 ≤ x.toNat) (h3 : x.toNat ≤ 30) (h2' : 1 ≤ y.toNat) (h3' : y.toNat ≤ 30) : mergeF (m ++ [x]) (m' ++ [y]) = ([], 1) := by
  unfold mergeF
  rw [right_mk h1 h2 h3, right_mk h1' h2' h3', if_neg (by simp), if_pos (by simpa using h)]
theorem merge_form {a b : List UInt8} (h : rightF a = false ∨ rightF b = false) : mergeF a b = ([], 2) := by
  unfold mergeF
  rw [if_pos h]
theorem split_any (l : List UInt8) (ad : Option Addr) (cap : Nat) (w : World) (hlc : l.length ≤ cap) (hcm : cap ≤ maxLen) (hb : Bytes w ad l) :
    ∃ s x, ∀ w1, Gr w w1 → Calls Try.prog 24 #[.slice ad l.length cap] w1 fun e w' => e = .returned (.tuple #[s, .int .i64 x, .bool (rightF l)]) ∧ Gr w1 w' := by
  cases hr : rightF l with
  | true =>
    obtain ⟨m, x, rfl, h1, h2, h3⟩ := right_of hr
    simp only [List.length_append, List.length_cons, List.length_nil, Nat.zero_add] at hlc ⊢
    exact ⟨_, _, fun w1 g => split_yes m x ad cap w1 hlc hcm h1 h2 h3 (hb.gr g)⟩
  | false => exact ⟨_, _, fun w1 g => split_no l ad cap w1 (Nat.le_trans hlc hcm) hr (hb.gr g)⟩
theorem Merge_any (a b : List UInt8) (ad ad' : Option Addr) (cap cap' : Nat) (w : World) (hc : a.length ≤ cap) (hcm : cap ≤ maxLen) (hc' : b.length ≤ cap') (hcm' : cap' ≤ maxLen) (hl : a.length ≤ 100000000) (hb : Bytes w ad a) (hb' : Bytes w ad' b) :
    Calls Try.prog 16 #[.slice ad a.length cap, .slice ad' b.length cap'] w (RetBE 5 w (mergeF a b).1 (mergeF a b).2) := by
  by_cases h : rightF a = false ∨ rightF b = false
  · rw [merge_form h]
    obtain ⟨sa, xa, HA⟩ := split_any a ad cap w hc hcm hb
    obtain ⟨sb, xb, HB⟩ := split_any b ad' cap' w hc' hcm' hb'
    exact Merge_form _ _ sa sb xa xb _ _ w h (HA w (Gr.refl w)) HB
  · have ha : rightF a = true := by cases hx : rightF a with | true => rfl | false => exact absurd (.inl hx) h
    have hb2 : rightF b = true := by cases hx : rightF b with | true => rfl | false => exact absurd (.inr hx) h
    obtain ⟨m, x, rfl, h1, h2, h3⟩ := right_of ha
    obtain ⟨m', y, rfl, h1', h2', h3'⟩ := right_of hb2
    simp only [List.length_append, List.length_cons, List.length_nil, Nat.zero_add] at hc hc' hl ⊢
    by_cases hs : m.length ≠ m'.length ∨ x ≠ y
    · rw [merge_apart m m' x y hs h1 h1' h2 h3 h2' h3']
      exact Merge_apart m m' x y ad ad' cap cap' w hc hcm hc' hcm' hs h1 h1' h2 h3 h2' h3' hb hb'
    · obtain ⟨e1, e2⟩ : m'.length = m.length ∧ x = y := by
        constructor
        · rcases Nat.decEq m.length m'.length with e | e
          · exact absurd (.inl e) hs
          · exact e.symm
        · rcases (inferInstance : Decidable (x = y)) with e | e
          · exact absurd (.inr e) hs
          · exact e
      subst e2
      rw [merge_good m m' x e1 h1 h2 h3, e1]
      exact Merge_good m m' x ad ad' cap cap' w hc hcm (by omega) hcm' e1 (by omega) h1 h2 h3 hb hb'
end Go.Proofs.Ytpkbifaeofcckaa
