/- Layer 8 (frame): the reference's DocScan. -/
import Derived.Test.YtmjhffohfppnaaaFrameLays
import Derived.Test.YtmjhffohfppnaaaFrameNext2
namespace Go.Proofs.Ytmjhffohfppnaaa
set_option linter.unusedVariables false
set_option linter.unusedSimpArgs false
open Go.RowKit Fr
structure DocAt (w : World) (l : List UInt8) (a e : Nat) (o : Bool) (r : List UInt8) (out : List (List UInt8)) (ado : Option Addr) (capo : Nat) (wr : World) : Prop where
  ha : a ≤ l.length
  hr : r.length ≤ a
  ho : out.length ≤ a
  gr : Gr w wr
  owno : Owns wr w.heap.size 9 1 ado capo out.length (sv out)
  same : scanF l = scanW l a e o r out
set_option maxRecDepth 100000 in
set_option maxHeartbeats 4000000 in
theorem rDocScan_any (l : List UInt8) (w : World) (hl : l.length ≤ 100000000) : Calls Try.prog 15 #[.string (str l)] w (RetS w (scanF l)) := by
  go_enter Try.func15, Try.ntmps15
  go_wp2
  go_loopw [4, 5, 6, 7, 8, 9, 10, 11, 12] (fun vo va ve vop vr _ _ _ _ wr => ∃ (a e : Nat) (o : Bool) (r : List UInt8) (out : List (List UInt8)) (ado : Option Addr) (capo : Nat), vo = .slice ado out.length capo ∧ vr = .string (str r) ∧ va = .int .i64 (a : Int) ∧ ve = .int .i64 (e : Int) ∧ vop = .bool o ∧ DocAt w l a e o r out ado capo wr) (fun _ va _ _ _ _ _ _ _ _ => l.length - (intOf va).toNat)
  case atStart => exact ⟨0, 0, false, [], [], none, 0, rfl, rfl, rfl, rfl, rfl, Nat.zero_le _, Nat.zero_le _, Nat.zero_le _, Gr.refl _, Owns.empty _ _ _ _, rfl⟩
  case round =>
    obtain ⟨a, e, o, r, out, ado, capo, rfl, rfl, rfl, rfl, rfl, ha, hr, ho, hgw, owno, hsame⟩ := hrel
    have HTK := Lib.hid (rnext_any l a wr hl ha)
    have HS := Lib.hid hsame
    clear hsame
    cases hT : takeF l a with
    | none =>
      rw [hT] at HTK
      have HN := Lib.hid (scanW_none (e := e) (o := o) (r := r) (out := out) hT)
      clear hT
      go_wp2_with (go_at_call 23; refine HTK.out.mono ?_; rintro x w1 ⟨k1, s1, t1, ok, rfl, g1, hok⟩; obtain rfl : ok = false := hok)
      go_ret2
      refine ⟨ado, capo, ?_, ?_, hgw.trans g1⟩
      · rw [HS.out, HN.out]; rfl
      · rw [HS.out, HN.out]; exact owno.gr g1
    | some T =>
      obtain ⟨k, s, t⟩ := T
      rw [hT] at HTK
      have hlt := take_lt hT
      have HN := Lib.hid (scanW_some (e := e) (o := o) (r := r) (out := out) hT)
      clear hT
      have q6 : a + 7 + s.length ≤ t := by omega
      obtain ⟨q1, q2, q3, q4, q5, q7⟩ := hlt
      clear q5 q7
      have hkn : (o = false ∧ k.toNat = 1) ∨ (o = false ∧ k.toNat = 2) ∨ (o = true ∧ k.toNat = 3) ∨ (o = true ∧ k.toNat = 4) ∨ (o = true ∧ k.toNat = 1) ∨ (o = true ∧ k.toNat = 2) ∨ (o = false ∧ k.toNat = 3) ∨ (o = false ∧ k.toNat = 4) := by
        cases o <;> simp <;> omega
      have hB : w.heap.size ≤ wr.heap.size := hgw.size
      have m2 : out.length + 1 ≤ maxLen := by unfold maxLen; omega
      have m2' : (out.length + 1) * 16 ≤ 140737488355328 := by omega
      rcases hkn with ⟨rfl, hk⟩ | ⟨rfl, hk⟩ | ⟨rfl, hk⟩ | ⟨rfl, hk⟩ | ⟨rfl, hk⟩ | ⟨rfl, hk⟩ | ⟨rfl, hk⟩ | ⟨rfl, hk⟩
      · have KV := Lib.hid (show (k.toNat : Int) = 1 by omega)
        have hk3 : k = 1 := UInt8.toNat_inj.1 hk
        rw [hk3, show midF 1 = false from rfl, show goesF 1 = false from rfl] at HN
        clear hk hk3
        have hB2 : ∀ w1, Gr wr w1 → w.heap.size ≤ (w1.alloc (.cells #[.string (str s)] 9)).heap.size := fun w1 g1 => Nat.le_trans (Nat.le_trans hB g1.size) (Gr.alloc _ _).size
        go_wp2_with (first
          | (go_at_call 23; refine HTK.out.mono ?_; rintro x w1 ⟨k1, s1, t1, ok, rfl, g1, hok, hk1, hs1, ht1⟩; obtain rfl : ok = true := hok; have hk9 := hk1.trans KV.out; clear hk1; subst hk9; obtain rfl := hs1.symm; subst ht1; have hB1 := Nat.le_trans hB g1.size; have owno1 := owno.gr g1)
          | (at_builtin; go_must (refine wp_append elemS rfl _ _ rfl rfl (owno1.gr (Gr.alloc _ _)) rfl (src_cell _ _ rfl Try.underlying31) m2 m2' (hB2 _ g1) ?_); intro ad4 cap4 w4 o4 k4 f4))
        go_roundw
        case rel =>
          exact ⟨t, t, false, s, out ++ [s], ad4, cap4, by rw [List.length_append]; rfl, rfl, rfl, rfl, rfl, q2, by omega, by rw [List.length_append]; show out.length + 1 ≤ t; omega, ((hgw.trans g1).trans (Gr.alloc _ _)).grown k4 (row_from owno1), by rw [List.length_append, sv_append]; exact o4, by rw [HS.out, HN.out]; rfl⟩
        case measure => simp [intOf]; omega
      · have KV := Lib.hid (show (k.toNat : Int) = 2 by omega)
        have hk3 : k = 2 := UInt8.toNat_inj.1 hk
        rw [hk3, show midF 2 = false from rfl, show goesF 2 = true from rfl] at HN
        clear hk hk3
        go_wp2_with (first
          | (go_at_call 23; refine HTK.out.mono ?_; rintro x w1 ⟨k1, s1, t1, ok, rfl, g1, hok, hk1, hs1, ht1⟩; obtain rfl : ok = true := hok; have hk9 := hk1.trans KV.out; clear hk1; subst hk9; obtain rfl := hs1.symm; subst ht1; have hB1 := Nat.le_trans hB g1.size; have owno1 := owno.gr g1)
          | fail)
        go_roundw
        case rel =>
          exact ⟨t, e, true, s, out, ado, capo, rfl, rfl, rfl, rfl, rfl, q2, by omega, by omega, hgw.trans g1, owno1, by rw [HS.out, HN.out]; rfl⟩
        case measure => simp [intOf]; omega
      · have KV := Lib.hid (show (k.toNat : Int) = 3 by omega)
        have hk3 : k = 3 := UInt8.toNat_inj.1 hk
        rw [hk3, show midF 3 = true from rfl, show goesF 3 = true from rfl] at HN
        clear hk hk3
        go_wp2_with (first
          | (go_at_call 23; refine HTK.out.mono ?_; rintro x w1 ⟨k1, s1, t1, ok, rfl, g1, hok, hk1, hs1, ht1⟩; obtain rfl : ok = true := hok; have hk9 := hk1.trans KV.out; clear hk1; subst hk9; obtain rfl := hs1.symm; subst ht1; have hB1 := Nat.le_trans hB g1.size; have owno1 := owno.gr g1)
          | fail)
        go_roundw
        case rel =>
          exact ⟨t, e, true, r ++ s, out, ado, capo, rfl, rfl, rfl, rfl, rfl, q2, by rw [List.length_append]; omega, by omega, hgw.trans g1, owno1, by rw [HS.out, HN.out]; rfl⟩
        case measure => simp [intOf]; omega
      · have KV := Lib.hid (show (k.toNat : Int) = 4 by omega)
        have hk3 : k = 4 := UInt8.toNat_inj.1 hk
        rw [hk3, show midF 4 = true from rfl, show goesF 4 = false from rfl] at HN
        clear hk hk3
        have hB2 : ∀ w1, Gr wr w1 → w.heap.size ≤ (w1.alloc (.cells #[.string (str (r ++ s))] 9)).heap.size := fun w1 g1 => Nat.le_trans (Nat.le_trans hB g1.size) (Gr.alloc _ _).size
        go_wp2_with (first
          | (go_at_call 23; refine HTK.out.mono ?_; rintro x w1 ⟨k1, s1, t1, ok, rfl, g1, hok, hk1, hs1, ht1⟩; obtain rfl : ok = true := hok; have hk9 := hk1.trans KV.out; clear hk1; subst hk9; obtain rfl := hs1.symm; subst ht1; have hB1 := Nat.le_trans hB g1.size; have owno1 := owno.gr g1)
          | (at_builtin; go_must (refine wp_append elemS rfl _ _ rfl rfl (owno1.gr (Gr.alloc _ _)) rfl (src_cell _ _ rfl Try.underlying31) m2 m2' (hB2 _ g1) ?_); intro ad4 cap4 w4 o4 k4 f4))
        go_roundw
        case rel =>
          exact ⟨t, t, false, r ++ s, out ++ [r ++ s], ad4, cap4, by rw [List.length_append]; rfl, rfl, rfl, rfl, rfl, q2, by rw [List.length_append]; omega, by rw [List.length_append]; show out.length + 1 ≤ t; omega, ((hgw.trans g1).trans (Gr.alloc _ _)).grown k4 (row_from owno1), by rw [List.length_append, sv_append]; exact o4, by rw [HS.out, HN.out]; rfl⟩
        case measure => simp [intOf]; omega
      · have KV := Lib.hid (show (k.toNat : Int) = 1 by omega)
        have hk3 : k = 1 := UInt8.toNat_inj.1 hk
        rw [hk3, show midF 1 = false from rfl, show goesF 1 = false from rfl] at HN
        clear hk hk3
        go_wp2_with (first
          | (go_at_call 23; refine HTK.out.mono ?_; rintro x w1 ⟨k1, s1, t1, ok, rfl, g1, hok, hk1, hs1, ht1⟩; obtain rfl : ok = true := hok; have hk9 := hk1.trans KV.out; clear hk1; subst hk9; obtain rfl := hs1.symm; subst ht1; have hB1 := Nat.le_trans hB g1.size; have owno1 := owno.gr g1)
          | fail)
        go_ret2
        refine ⟨ado, capo, ?_, ?_, hgw.trans g1⟩
        · rw [HS.out, HN.out]; rfl
        · rw [HS.out, HN.out]; exact owno.gr g1
      · have KV := Lib.hid (show (k.toNat : Int) = 2 by omega)
        have hk3 : k = 2 := UInt8.toNat_inj.1 hk
        rw [hk3, show midF 2 = false from rfl, show goesF 2 = true from rfl] at HN
        clear hk hk3
        go_wp2_with (first
          | (go_at_call 23; refine HTK.out.mono ?_; rintro x w1 ⟨k1, s1, t1, ok, rfl, g1, hok, hk1, hs1, ht1⟩; obtain rfl : ok = true := hok; have hk9 := hk1.trans KV.out; clear hk1; subst hk9; obtain rfl := hs1.symm; subst ht1; have hB1 := Nat.le_trans hB g1.size; have owno1 := owno.gr g1)
          | fail)
        go_ret2
        refine ⟨ado, capo, ?_, ?_, hgw.trans g1⟩
        · rw [HS.out, HN.out]; rfl
        · rw [HS.out, HN.out]; exact owno.gr g1
      · have KV := Lib.hid (show (k.toNat : Int) = 3 by omega)
        have hk3 : k = 3 := UInt8.toNat_inj.1 hk
        rw [hk3, show midF 3 = true from rfl, show goesF 3 = true from rfl] at HN
        clear hk hk3
        go_wp2_with (first
          | (go_at_call 23; refine HTK.out.mono ?_; rintro x w1 ⟨k1, s1, t1, ok, rfl, g1, hok, hk1, hs1, ht1⟩; obtain rfl : ok = true := hok; have hk9 := hk1.trans KV.out; clear hk1; subst hk9; obtain rfl := hs1.symm; subst ht1; have hB1 := Nat.le_trans hB g1.size; have owno1 := owno.gr g1)
          | fail)
        go_ret2
        refine ⟨ado, capo, ?_, ?_, hgw.trans g1⟩
        · rw [HS.out, HN.out]; rfl
        · rw [HS.out, HN.out]; exact owno.gr g1
      · have KV := Lib.hid (show (k.toNat : Int) = 4 by omega)
        have hk3 : k = 4 := UInt8.toNat_inj.1 hk
        rw [hk3, show midF 4 = true from rfl, show goesF 4 = false from rfl] at HN
        clear hk hk3
        go_wp2_with (first
          | (go_at_call 23; refine HTK.out.mono ?_; rintro x w1 ⟨k1, s1, t1, ok, rfl, g1, hok, hk1, hs1, ht1⟩; obtain rfl : ok = true := hok; have hk9 := hk1.trans KV.out; clear hk1; subst hk9; obtain rfl := hs1.symm; subst ht1; have hB1 := Nat.le_trans hB g1.size; have owno1 := owno.gr g1)
          | fail)
        go_ret2
        refine ⟨ado, capo, ?_, ?_, hgw.trans g1⟩
        · rw [HS.out, HN.out]; rfl
        · rw [HS.out, HN.out]; exact owno.gr g1
end Go.Proofs.Ytmjhffohfppnaaa
