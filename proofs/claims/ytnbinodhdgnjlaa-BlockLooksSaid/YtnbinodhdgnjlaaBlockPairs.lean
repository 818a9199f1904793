/- Layer 13 (block): Pairs. -/
import Derived.Test.YtnbinodhdgnjlaaBlockEntry
import Derived.Test.YtnbinodhdgnjlaaBlockWhole
namespace Go.Proofs.Ytnbinodhdgnjlaa
set_option linter.unusedVariables false
set_option linter.unusedSimpArgs false
open Go.RowKit Bk
theorem equal_any (ad1 ad2 : Option Addr) (n1 n2 c1 c2 : Nat) (a b : List UInt8) (w : World) (h1 : a.length = n1) (h2 : b.length = n2) (hb1 : Bytes w ad1 a) (hb2 : Bytes w ad2 b) :
    Calls Try.prog 36 #[.slice ad1 n1 c1, .slice ad2 n2 c2] w fun e w' => e = .returned (.bool (a == b)) ∧ w = w' := by
  have s1 := run_string (P := Try.prog) Try.underlying26 Try.underlying5 Try.underlying9 (cap := c1) h1 hb1
  have s2 := run_string (P := Try.prog) Try.underlying26 Try.underlying5 Try.underlying9 (cap := c2) h2 hb2
  go_enter Try.func36, Try.ntmps36
  go_wp2
  go_ret
  exact ⟨rfl, rfl⟩
/-- pairs of its own, and an error's number -/
def RetPE (w : World) (l : List Pr) (n : Nat) : Ending → World → Prop := fun x w' => ∃ ad cap, x = .returned (.tuple #[.slice ad l.length cap, .int .i64 (n : Int)]) ∧ Owns w' w.heap.size 31 2 ad cap l.length (pv l) ∧ Gr w w'
/-- one element, in a block that was made since -/
def OneN (N : Nat) (xs : List Value) : Value → World → Prop := fun v w => ∃ g e fr, v = .slice (some ⟨g, 0, none⟩) 1 1 ∧ N ≤ g ∧ w.heap[g]? = some (.cells xs.toArray e fr)
theorem OneN.one {N : Nat} {xs : List Value} {v : Value} {w : World} (h : OneN N xs v w) : OneB xs v w := by
  obtain ⟨g, e, fr, h1, _, h2⟩ := h; exact ⟨g, e, fr, h1, h2⟩
theorem OneN.stable {row : Option Nat} {A B : Option Obj} {N : Nat} {xs : List Value} (h : ∀ g, row = some g → g < N) : Stable (Once row A B) (OneN N xs) := by
  rintro v w1 w2 ⟨g, e, fr, rfl, hN, hg⟩ k
  exact ⟨g, e, fr, rfl, hN, (k.1.block g (Array.getElem?_eq_some_iff.1 hg).1 (fun hh => by have := h g hh.symm; omega)).trans hg⟩
theorem entry_len {b : List UInt8} {a : Nat} {key : List UInt8} {p : Pr} {t : Nat} (h : entryF b a key = some (p, t)) (ha : a ≤ b.length) : p.1.length ≤ key.length + 200 ∧ t ≤ b.length := by
  unfold entryF at h
  have f0 := Varint.getF_le (b.drop a)
  rw [List.length_drop] at f0
  have f1 := Varint.getF_le (b.drop (a + (Varint.getF (b.drop a)).2.1))
  rw [List.length_drop] at f1
  have f2 := Varint.getF_le (b.drop (a + (Varint.getF (b.drop a)).2.1 + (Varint.getF (b.drop (a + (Varint.getF (b.drop a)).2.1))).2.1))
  rw [List.length_drop] at f2
  split at h
  · cases h
  · split at h
    · cases h
    · split at h
      · cases h
      · simp only at h
        split at h
        · cases h
        · rename_i hh
          simp only [Option.some.injEq, Prod.mk.injEq] at h
          obtain ⟨rfl, rfl⟩ := h
          simp only [List.length_append, List.length_take, List.length_drop]
          omega
set_option maxRecDepth 100000 in
set_option maxHeartbeats 4000000 in
theorem Pairs_any (ad : Option Addr) (cap : Nat) (b : List UInt8) (w : World) (hl : b.length ≤ 1000000000) (hc : b.length ≤ cap) (hm : cap ≤ maxLen) (hb : Bytes w ad b) :
    Calls Try.prog 12 #[.slice ad b.length cap] w (RetPE w (pairsF b).1 (pairsF b).2) := by
  have HP := Lib.hid (parts_any ad cap b w hl hc hm hb)
  have HB := Lib.hid hb
  clear hb
  unfold RetParts at HP
  cases hp : partsF b with
  | none =>
    have HN := Lib.hid (show pairsF b = ([], 2) by unfold pairsF; rw [hp])
    rw [hp] at HP
    clear hp
    go_enter Try.func12, Try.ntmps12
    go_wp2_with (go_at_call 34; refine HP.out.mono ?_; rintro e w1 ⟨g1, s1, s2, i1, i2, rfl⟩)
    go_ret2
    rw [HN.out]
    exact ⟨none, 0, rfl, Owns.empty _ _ _ _, g1⟩
  | some X =>
    obtain ⟨d, itv, c⟩ := X
    rw [hp] at HP
    have hcc : c ≤ 10000 ∧ 1 ≤ itv ∧ itv ≤ 64 := by
      unfold partsF at hp
      split at hp
      · cases hp
      · simp only at hp
        split at hp
        · cases hp
        · split at hp
          · cases hp
          · cases hp; omega
    obtain ⟨hcc, hi1, hi2⟩ := hcc
    have HPF := Lib.hid (show pairsF b = match decN d c 0 [] with | none => ([], 2) | some l => if chkF l (itv : Int) = 0 ∧ buildF itv l = b then (l, 0) else ([], 2) by unfold pairsF; rw [hp]; rfl)
    clear hp
    go_enter Try.func12, Try.ntmps12
    go_wp2_with (go_at_call 34; refine HP.out.mono ?_; rintro e wp ⟨g1, b1, o1, ad2, c1, c2, rfl, hb1, hd1, hd2, _, _, hdl, hbd, _, _⟩)
    have hc1m : c1 ≤ maxLen := Nat.le_trans hd2 hm
    go_loopw [9, 10, 11, 28] (fun vo va vk vi wr => ∃ (i a : Nat) (key : List UInt8) (P : List Pr) (adO : Option Addr) (cO : Nat), i ≤ c ∧ P.length = i ∧ vo = .slice adO i cO ∧ va = .int .i64 (a : Int) ∧ vk = .string (str key) ∧ vi = .int .i64 (i : Int) ∧ a ≤ d.length ∧ key.length ≤ 200 * i ∧
      Owns wr wp.heap.size 31 2 adO cO i (pv P) ∧ Gr wp wr ∧ decN d c 0 [] = (decN d (c - i) a key).map (P ++ ·)) (fun _ _ _ vi _ => c - (intOf vi).toNat)
    case atStart => exact ⟨0, 0, [], [], none, 0, Nat.zero_le _, rfl, rfl, rfl, rfl, rfl, Nat.zero_le _, Nat.zero_le _, Owns.empty _ _ _ _, Gr.refl _, by cases decN d c 0 [] <;> rfl⟩
    case round =>
      obtain ⟨i, a, key, P, adO, cO, hic, hPl, rfl, rfl, rfl, rfl, ha, hk, oO, hg1, hdec⟩ := hrel
      have hg := g1.trans hg1
      have HDEC := Lib.hid hdec; clear hdec
      have HPL := Lib.hid hPl; clear hPl
      have hbs := hg1.size
      by_cases hlt : i < c
      · have HEN := Lib.hid (entry_any b1 o1 c1 d a key wr (by omega) hd1 hc1m ha (by omega) (Nat.lt_of_lt_of_le hb1 hg1.size) (hbd.gr hg1))
        have hstep : decN d (c - i) a key = match entryF d a key with | none => none | some (p, t) => (decN d (c - (i + 1)) t p.1).map (p :: ·) := by
          rw [show c - i = (c - (i + 1)) + 1 by omega, decN]
          cases entryF d a key <;> rfl
        have HST := Lib.hid hstep; clear hstep
        cases he : entryF d a key with
        | none =>
          have HN := Lib.hid (show pairsF b = ([], 2) by rw [HPF.out, HDEC.out, HST.out, he]; rfl)
          rw [he] at HEN
          clear he
          go_wp2_with (go_at_call 35; refine HEN.out.mono ?_; rintro e w2 ⟨p, t, ok, rfl, g2, hok⟩; obtain rfl : ok = false := hok)
          go_ret2
          rw [HN.out]
          exact ⟨none, 0, rfl, Owns.empty _ _ _ _, (hg.trans g2).trans (Gr.alloc _ _)⟩
        | some X =>
          obtain ⟨p, t⟩ := X
          have hel := entry_len he ha
          have HN := Lib.hid (show decN d c 0 [] = (decN d (c - (i + 1)) t p.1).map ((P ++ [p]) ++ ·) by
            rw [HDEC.out, HST.out, he]
            simp only
            cases decN d (c - (i + 1)) t p.1 <;> simp)
          rw [he] at HEN
          clear he
          go_wp2_with (go_at_call 35; refine HEN.out.mono ?_; rintro e w2 ⟨p', t', ok, rfl, g2, hok, hp', ht'⟩; obtain rfl : ok = true := hok; obtain rfl := hp'; subst ht')
          obtain ⟨gb, hgb⟩ : ∃ gb, gb = w2.heap.size := ⟨_, rfl⟩
          have bk : Blk (w2.alloc (.cells #[.string (str p'.1), .string (str p'.2)] 31)) gb 31 [.string (str p'.1), .string (str p'.2)] := by rw [hgb]; exact Blk.new _ _ _
          have gw2 : Gr wr (w2.alloc (.cells #[.string (str p'.1), .string (str p'.2)] 31)) := g2.trans (Gr.alloc _ _)
          have hgs : wr.heap.size ≤ gb := by rw [hgb]; exact g2.size
          have hgb2 : gb < (w2.alloc (.cells #[.string (str p'.1), .string (str p'.2)] 31)).heap.size := bk.lt
          rw [← hgb]
          clear hgb
          generalize w2.alloc (.cells #[.string (str p'.1), .string (str p'.2)] 31) = W at *
          have oO2 := oO.gr gw2
          have gW := hg.trans gw2
          obtain ⟨x0, x1⟩ := bk.two
          obtain ⟨row, hrow⟩ : ∃ row, row = adO.map (·.block) := ⟨_, rfl⟩
          have hrlt : ∀ g', row = some g' → g' < wr.heap.size ∧ wp.heap.size ≤ g' := by
            intro g' hg'
            rw [hrow] at hg'
            cases adO with
            | none => cases hg'
            | some y => cases hg'; exact ⟨(oO.lt y rfl).2, (oO.lt y rfl).1⟩
          have hgne : some gb ≠ row := fun h => by have := (hrlt gb h.symm).1; omega
          have hWs := gw2.size
          obtain ⟨A, hA⟩ : ∃ A : Option Obj, ∀ g, row = some g → A = W.heap[g]? := ⟨row.bind fun g => W.heap[g]?, fun g hg' => by rw [hg']; rfl⟩
          obtain ⟨B, hB⟩ : ∃ B : Option Obj, B = if i + 1 ≤ cO then appRow (i * 2) [.string (str p'.1), .string (str p'.2)] A else A := ⟨_, rfl⟩
          have m1 : i + 1 ≤ maxLen := by unfold maxLen; omega
          have m2 : (i + 1) * 32 ≤ 140737488355328 := by omega
          have hbsW : wp.heap.size ≤ W.heap.size := Nat.le_trans hbs hWs
          have HRow := Lib.hid hrow; have HA := Lib.hid hA; have HBB := Lib.hid hB; have HRL := Lib.hid hrlt
          clear hrow hA hB hrlt
          refine region_store_once row A B _ [Is (.slice adO i cO), Is (.agg #[.string (str p'.1), .string (str p'.2)]), OneN W.heap.size [.string (str p'.1), .string (str p'.2)], Apn row B wp.heap.size 31 2 (i + 1) (pv P ++ [.string (str p'.1), .string (str p'.2)]) W.heap.size, Is (.int .i64 (t : Int)), Is (.pointer (some ⟨gb, 0, none⟩)), Is (.string (str p'.1)), Apn row B wp.heap.size 31 2 (i + 1) (pv P ++ [.string (str p'.1), .string (str p'.2)]) W.heap.size, Is (.int .i64 (t : Int)), Is (.string (str p'.1))] (by kernel_rfl) (by kernel_rfl) (by kernel_rfl) rfl rfl ⟨Is.stable _, Is.stable _, OneN.stable (fun g h => by have := (HRL.out g h).1; omega), Apn.stable _ _ _ _ _ _, Is.stable _, Is.stable _, Is.stable _, Apn.stable _ _ _ _ _ _, Is.stable _, Is.stable _, trivial⟩ ⟨?s0, ?s1, ?s2, ?s3, ?s4, ?s5, ?s6, ?s7, ?s8, ?s9, trivial⟩ ?fin
          case' s0 | s1 | s2 | s4 | s5 | s6 | s7 | s8 | s9 =>
            intro ρ wr hρ hg hK
            simp [readsOf, slotsOf, Op.operands, Call.operands, tmpOf, List.filterMap_cons, List.filterMap_nil, KnownAll, knownOf, srcOf, depsOf, dstOf, Region.binds, nth, Is] at hK
            obtain ⟨hc, hf, hgl⟩ := hρ
            try simp only [wantedBy, dstOf, boolOf, nth, List.getD_cons_zero, List.getD_cons_succ, List.getElem?_cons_zero, List.getElem?_cons_succ, Option.bind_some, if_true, hK, BEq.rfl]
            try go_simp
            first | exact rfl | (rw [if_pos (by omega)]; exact is_here rfl) | (rw [dif_pos (by omega)]; exact is_here rfl) | exact congrArg (Value.int _) (IntWalk.i64_in _ ⟨by omega, by omega⟩) | skip
          case' s3 =>
            intro ρ wr hρ hg hK
            simp [readsOf, slotsOf, Op.operands, Call.operands, tmpOf, List.filterMap_cons, List.filterMap_nil, KnownAll, knownOf, srcOf, depsOf, dstOf, Region.binds, nth, Is] at hK
            obtain ⟨hc, hf, hgl⟩ := hρ
            try simp only [wantedBy, dstOf, boolOf, nth, List.getD_cons_zero, List.getD_cons_succ, List.getElem?_cons_zero, List.getElem?_cons_succ, Option.bind_some, if_true, hK, BEq.rfl]
          case s1 =>
            have z0 := hg.cell x0 hgne
            have z1 := hg.cell x1 hgne
            go_simp
            exact rfl
          case s2 => exact ⟨(Gr.alloc _ _).once (fun g h => by have := (HRL.out g h).1; have := hg.size; omega), _, _, _, rfl, hg.size, heap_alloc_new _ _⟩
          case s3 =>
            obtain ⟨e0, hone⟩ := hK
            obtain ⟨v, w3, r1, r2, r3⟩ := append_once2 (ty := 22) (u := 22) elemP oO2 HRow.out HA.out HBB.out hg (hone.one.src rfl (pv_one [p']) Try.underlying22) m1 m2 hbsW
            simp only [execOp, resolve, invoke, builtin, Sem.run_bind, Sem.run_pure, Result.andThen_ok, List.map_toArray, List.map_cons, List.map_nil, e0]
            rw [r1]
            exact ⟨r2, r3⟩
          case s6 =>
            have z0 := hg.cell x0 hgne
            go_simp
            exact rfl
          case fin =>
            intro w1 val hg hH
            simp only [Holds, Is, Nat.zero_add, Nat.reduceAdd] at hH
            obtain ⟨h0, h1, h2, h3, h4, h5, h6, h7, h8, h9, _⟩ := hH
            simp only [List.take_succ_cons, List.take_zero, List.drop_succ_cons, List.drop_zero, putAll, h0, h1, h4, h5, h6, h8, h9, Nat.zero_add, Nat.reduceAdd]
            obtain ⟨ad7, c7, e7, o7, _, _⟩ := h7
            obtain ⟨ad3, c3, e3, _⟩ := h3
            obtain ⟨g9, e9, fr9, e2, _⟩ := h2
            simp only [e7, e3, e2]
            go_simp
            go_wp2
            go_roundw
            case rel =>
              exact ⟨i + 1, t, p'.1, P ++ [p'], ad7, c7, hlt, by rw [List.length_append, HPL.out]; rfl, rfl, rfl, rfl, by go_num, hel.2, by omega, by rw [pv_append]; exact o7, (hg1.trans gw2).grown hg.1 (fun g h => (HRL.out g h).2), HN.out⟩
            case measure => simp [intOf]; omega
      · obtain rfl : i = c := by omega
        have HD2 := Lib.hid (show decN d i 0 [] = some P by rw [HDEC.out, Nat.sub_self, decN]; simp)
        have HBU := Lib.hid (fun w' (g : Gr wr w') => Build_at adO i cO P (itv : Int) w' (chkF P (itv : Int)) (if chkF P (itv : Int) = 0 then buildF itv P else []) HPL.out.symm (oO.gr g).row (by have := HPL.out; omega) rfl rfl)
        have HR := Lib.hid (show pairsF b = if chkF P (itv : Int) = 0 ∧ buildF itv P = b then (P, 0) else ([], 2) by rw [HPF.out, HD2.out])
        clear hlt
        by_cases hk0 : chkF P (itv : Int) = 0
        · rw [hk0] at HBU HR
          simp only [if_true, true_and] at HBU HR
          generalize buildF itv P = out at *
          by_cases heq : out = b
          · subst heq
            have hbe : (out == out) = true := by simp
            rw [if_pos rfl] at HR
            clear hk0
            go_wp2_with (first
              | (go_at_call 11; refine (HBU.out _ (Gr.refl _)).mono ?_; rintro e w3 ⟨ad3, c3, rfl, o3, g3⟩)
              | (go_at_call 36; refine (equal_any _ _ _ _ _ _ out out _ rfl rfl (HB.out.gr (hg.trans g3)) o3.bytes).mono ?_; rintro e w4 ⟨rfl, rfl⟩))
            go_ret2
            rw [HR.out]
            refine ⟨adO, cO, by rw [HPL.out]; rfl, ?_, hg.trans g3⟩
            rw [HPL.out]
            exact (oO.gr g3).base g1.size
          · have hbe : (b == out) = false := by rw [beq_eq_false_iff_ne]; exact fun h => heq h.symm
            rw [if_neg heq] at HR
            clear hk0 heq
            go_wp2_with (first
              | (go_at_call 11; refine (HBU.out _ (Gr.refl _)).mono ?_; rintro e w3 ⟨ad3, c3, rfl, o3, g3⟩)
              | (go_at_call 36; refine (equal_any _ _ _ _ _ _ b out _ rfl rfl (HB.out.gr (hg.trans g3)) o3.bytes).mono ?_; rintro e w4 ⟨rfl, rfl⟩))
            go_ret2
            rw [HR.out]
            exact ⟨none, 0, rfl, Owns.empty _ _ _ _, hg.trans g3⟩
        · have HR2 := Lib.hid (HR.out.trans (if_neg (fun h => hk0 h.1)))
          generalize hcc9 : chkF P (itv : Int) = ck at *
          have hne : ((ck : Int) != 0) = true := by rw [bne_iff_ne]; omega
          rw [if_neg hk0] at HBU
          clear hk0 hcc9
          go_wp2_with (first
            | (go_at_call 11; refine (HBU.out _ (Gr.refl _)).mono ?_; rintro e w3 ⟨ad3, c3, rfl, o3, g3⟩))
          go_ret2
          rw [HR2.out]
          exact ⟨none, 0, rfl, Owns.empty _ _ _ _, hg.trans g3⟩
end Go.Proofs.Ytnbinodhdgnjlaa
