/- Layer 6 (bloom): what filters do together; BloomMerges answers true. -/
import Derived.Test.YtlfbelocdpboeaaGreatDoorBunB1
import Derived.Test.YtlfbelocdpboeaaGreatDoorBunB2
import Derived.Test.YtlfbelocdpboeaaGreatDoorBunB0
import Derived.Lib.SliceRun
import Derived.Test.YtlfbelocdpboeaaGreatDoorRows
import Derived.Outline
/- Layer 13 (block): Pairs. -/
namespace Go.Proofs.YtlfbelocdpboeaaGreatDoor
set_option linter.unusedVariables false
set_option linter.unusedSimpArgs false
open Go.RowKit Bk
theorem equal_any (ad1 ad2 : Option Addr) (n1 n2 c1 c2 : Nat) (a b : List UInt8) (w : World) (h1 : a.length = n1) (h2 : b.length = n2) (hb1 : Bytes w ad1 a) (hb2 : Bytes w ad2 b) :
    Calls Tryz.prog 37 #[.slice ad1 n1 c1, .slice ad2 n2 c2] w fun e w' => e = .returned (.bool (a == b)) ∧ w = w' := by
  have s1 := run_string (P := Tryz.prog) Tryz.underlying27 Tryz.underlying5 Tryz.underlying9 (cap := c1) h1 hb1
  have s2 := run_string (P := Tryz.prog) Tryz.underlying27 Tryz.underlying5 Tryz.underlying9 (cap := c2) h2 hb2
  go_enter Tryz.func37, Tryz.ntmps37
  go_wp2
  go_ret
  exact ⟨rfl, rfl⟩
/-- pairs of its own, and an error's number -/
def RetPE (w : World) (l : List Pr) (n : Nat) : Ending → World → Prop := fun x w' => ∃ ad cap, x = .returned (.tuple #[.slice ad l.length cap, .int .i64 (n : Int)]) ∧ Owns w' w.heap.size 72 2 ad cap l.length (pv l) ∧ Gr w w'
/-- one element, in a block that was made since -/
def OneN (N : Nat) (xs : List Value) : Value → World → Prop := fun v w => ∃ g e fr, v = .slice (some ⟨g, 0, none⟩) 1 1 ∧ N ≤ g ∧ w.heap[g]? = some (.cells xs.toArray e fr)
theorem OneN.one {N : Nat} {xs : List Value} {v : Value} {w : World} (h : OneN N xs v w) : OneB xs v w := by
  obtain ⟨g, e, fr, h1, _, h2⟩ := h; exact ⟨g, e, fr, h1, h2⟩
theorem OneN.stable {row : Option Nat} {A B : Option Obj} {N : Nat} {xs : List Value} (h : ∀ g, row = some g → g < N) : Stable (Once row A B) (OneN N xs) := by
  rintro v w1 w2 ⟨g, e, fr, rfl, hN, hg⟩ k
  exact ⟨g, e, fr, rfl, hN, (k.1.block g (Array.getElem?_eq_some_iff.1 hg).1 (fun hh => by have := h g hh.symm; omega)).trans hg⟩
theorem entry_len {b : List UInt8} {a : Nat} {key : List UInt8} {p : Pr} {t : Nat} (h : entryF b a key = some (p, t)) (ha : a ≤ b.length) : p.1.length ≤ key.length + 200 ∧ t ≤ b.length := by
  unfold entryF at h
  have f0 := Varint.getF_le (b.drop a)
  rw [List.length_drop] at f0
  have f1 := Varint.getF_le (b.drop (a + (Varint.getF (b.drop a)).2.1))
  rw [List.length_drop] at f1
  have f2 := Varint.getF_le (b.drop (a + (Varint.getF (b.drop a)).2.1 + (Varint.getF (b.drop (a + (Varint.getF (b.drop a)).2.1))).2.1))
  rw [List.length_drop] at f2
  split at h
  · cases h
  · split at h
    · cases h
    · split at h
      · cases h
      · simp only at h
        split at h
        · cases h
        · rename_i hh
          simp only [Option.some.injEq, Prod.mk.injEq] at h
          obtain ⟨rfl, rfl⟩ := h
          simp only [List.length_append, List.length_take, List.length_drop]
          omega
set_option maxRecDepth 100000 in
set_option maxHeartbeats 4000000 in
theorem Pairs_any (ad : Option Addr) (cap : Nat) (b : List UInt8) (w : World) (hl : b.length ≤ 1000000000) (hc : b.length ≤ cap) (hm : cap ≤ maxLen) (hb : Bytes w ad b) :
    Calls Tryz.prog 33 #[.slice ad b.length cap] w (RetPE w (pairsF b).1 (pairsF b).2) := by
  have HP := Lib.hid (parts_any ad cap b w hl hc hm hb)
  have HB := Lib.hid hb
  clear hb
  unfold RetParts at HP
  cases hp : partsF b with
  | none =>
    have HN := Lib.hid (show pairsF b = ([], 2) by unfold pairsF; rw [hp])
    rw [hp] at HP
    clear hp
    go_enter Tryz.func33, Tryz.ntmps33
    go_wp2_with (go_at_call 67; refine HP.out.mono ?_; rintro e w1 ⟨g1, s1, s2, i1, i2, rfl⟩)
    go_ret2
    rw [HN.out]
    exact ⟨none, 0, rfl, Owns.empty _ _ _ _, g1⟩
  | some X =>
    obtain ⟨d, itv, c⟩ := X
    rw [hp] at HP
    have hcc : c ≤ 10000 ∧ 1 ≤ itv ∧ itv ≤ 64 := by
      unfold partsF at hp
      split at hp
      · cases hp
      · simp only at hp
        split at hp
        · cases hp
        · split at hp
          · cases hp
          · cases hp; omega
    obtain ⟨hcc, hi1, hi2⟩ := hcc
    have HPF := Lib.hid (show pairsF b = match decN d c 0 [] with | none => ([], 2) | some l => if chkF l (itv : Int) = 0 ∧ buildF itv l = b then (l, 0) else ([], 2) by unfold pairsF; rw [hp]; rfl)
    clear hp
    go_enter Tryz.func33, Tryz.ntmps33
    go_wp2_with (go_at_call 67; refine HP.out.mono ?_; rintro e wp ⟨g1, b1, o1, ad2, c1, c2, rfl, hb1, hd1, hd2, _, _, hdl, hbd, _, _⟩)
    have hc1m : c1 ≤ maxLen := Nat.le_trans hd2 hm
    go_loopw [9, 10, 11, 28] (fun vo va vk vi wr => ∃ (i a : Nat) (key : List UInt8) (P : List Pr) (adO : Option Addr) (cO : Nat), i ≤ c ∧ P.length = i ∧ vo = .slice adO i cO ∧ va = .int .i64 (a : Int) ∧ vk = .string (str key) ∧ vi = .int .i64 (i : Int) ∧ a ≤ d.length ∧ key.length ≤ 200 * i ∧
      Owns wr wp.heap.size 72 2 adO cO i (pv P) ∧ Gr wp wr ∧ decN d c 0 [] = (decN d (c - i) a key).map (P ++ ·)) (fun _ _ _ vi _ => c - (intOf vi).toNat)
    case atStart => exact ⟨0, 0, [], [], none, 0, Nat.zero_le _, rfl, rfl, rfl, rfl, rfl, Nat.zero_le _, Nat.zero_le _, Owns.empty _ _ _ _, Gr.refl _, by cases decN d c 0 [] <;> rfl⟩
    case round =>
      obtain ⟨i, a, key, P, adO, cO, hic, hPl, rfl, rfl, rfl, rfl, ha, hk, oO, hg1, hdec⟩ := hrel
      have hg := g1.trans hg1
      have HDEC := Lib.hid hdec; clear hdec
      have HPL := Lib.hid hPl; clear hPl
      have hbs := hg1.size
      by_cases hlt : i < c
      · have HEN := Lib.hid (entry_any b1 o1 c1 d a key wr (by omega) hd1 hc1m ha (by omega) (Nat.lt_of_lt_of_le hb1 hg1.size) (hbd.gr hg1))
        have hstep : decN d (c - i) a key = match entryF d a key with | none => none | some (p, t) => (decN d (c - (i + 1)) t p.1).map (p :: ·) := by
          rw [show c - i = (c - (i + 1)) + 1 by omega, decN]
          cases entryF d a key <;> rfl
        have HST := Lib.hid hstep; clear hstep
        cases he : entryF d a key with
        | none =>
          have HN := Lib.hid (show pairsF b = ([], 2) by rw [HPF.out, HDEC.out, HST.out, he]; rfl)
          rw [he] at HEN
          clear he
          go_wp2_with (go_at_call 68; refine HEN.out.mono ?_; rintro e w2 ⟨p, t, ok, rfl, g2, hok⟩; obtain rfl : ok = false := hok)
          go_ret2
          rw [HN.out]
          exact ⟨none, 0, rfl, Owns.empty _ _ _ _, (hg.trans g2).trans (Gr.alloc _ _)⟩
        | some X =>
          obtain ⟨p, t⟩ := X
          have hel := entry_len he ha
          have HN := Lib.hid (show decN d c 0 [] = (decN d (c - (i + 1)) t p.1).map ((P ++ [p]) ++ ·) by
            rw [HDEC.out, HST.out, he]
            simp only
            cases decN d (c - (i + 1)) t p.1 <;> simp)
          rw [he] at HEN
          clear he
          go_wp2_with (go_at_call 68; refine HEN.out.mono ?_; rintro e w2 ⟨p', t', ok, rfl, g2, hok, hp', ht'⟩; obtain rfl : ok = true := hok; obtain rfl := hp'; subst ht')
          obtain ⟨gb, hgb⟩ : ∃ gb, gb = w2.heap.size := ⟨_, rfl⟩
          have bk : Blk (w2.alloc (.cells #[.string (str p'.1), .string (str p'.2)] 72)) gb 72 [.string (str p'.1), .string (str p'.2)] := by rw [hgb]; exact Blk.new _ _ _
          have gw2 : Gr wr (w2.alloc (.cells #[.string (str p'.1), .string (str p'.2)] 72)) := g2.trans (Gr.alloc _ _)
          have hgs : wr.heap.size ≤ gb := by rw [hgb]; exact g2.size
          have hgb2 : gb < (w2.alloc (.cells #[.string (str p'.1), .string (str p'.2)] 72)).heap.size := bk.lt
          rw [← hgb]
          clear hgb
          generalize w2.alloc (.cells #[.string (str p'.1), .string (str p'.2)] 72) = W at *
          have oO2 := oO.gr gw2
          have gW := hg.trans gw2
          obtain ⟨x0, x1⟩ := bk.two
          obtain ⟨row, hrow⟩ : ∃ row, row = adO.map (·.block) := ⟨_, rfl⟩
          have hrlt : ∀ g', row = some g' → g' < wr.heap.size ∧ wp.heap.size ≤ g' := by
            intro g' hg'
            rw [hrow] at hg'
            cases adO with
            | none => cases hg'
            | some y => cases hg'; exact ⟨(oO.lt y rfl).2, (oO.lt y rfl).1⟩
          have hgne : some gb ≠ row := fun h => by have := (hrlt gb h.symm).1; omega
          have hWs := gw2.size
          obtain ⟨A, hA⟩ : ∃ A : Option Obj, ∀ g, row = some g → A = W.heap[g]? := ⟨row.bind fun g => W.heap[g]?, fun g hg' => by rw [hg']; rfl⟩
          obtain ⟨B, hB⟩ : ∃ B : Option Obj, B = if i + 1 ≤ cO then appRow (i * 2) [.string (str p'.1), .string (str p'.2)] A else A := ⟨_, rfl⟩
          have m1 : i + 1 ≤ maxLen := by unfold maxLen; omega
          have m2 : (i + 1) * 32 ≤ 140737488355328 := by omega
          have hbsW : wp.heap.size ≤ W.heap.size := Nat.le_trans hbs hWs
          have HRow := Lib.hid hrow; have HA := Lib.hid hA; have HBB := Lib.hid hB; have HRL := Lib.hid hrlt
          clear hrow hA hB hrlt
          refine region_store_once row A B _ [Is (.slice adO i cO), Is (.agg #[.string (str p'.1), .string (str p'.2)]), OneN W.heap.size [.string (str p'.1), .string (str p'.2)], Apn row B wp.heap.size 72 2 (i + 1) (pv P ++ [.string (str p'.1), .string (str p'.2)]) W.heap.size, Is (.int .i64 (t : Int)), Is (.pointer (some ⟨gb, 0, none⟩)), Is (.string (str p'.1)), Apn row B wp.heap.size 72 2 (i + 1) (pv P ++ [.string (str p'.1), .string (str p'.2)]) W.heap.size, Is (.int .i64 (t : Int)), Is (.string (str p'.1))] (by kernel_rfl) (by kernel_rfl) (by kernel_rfl) rfl rfl ⟨Is.stable _, Is.stable _, OneN.stable (fun g h => by have := (HRL.out g h).1; omega), Apn.stable _ _ _ _ _ _, Is.stable _, Is.stable _, Is.stable _, Apn.stable _ _ _ _ _ _, Is.stable _, Is.stable _, trivial⟩ ⟨?s0, ?s1, ?s2, ?s3, ?s4, ?s5, ?s6, ?s7, ?s8, ?s9, trivial⟩ ?fin
          case' s0 | s1 | s2 | s4 | s5 | s6 | s7 | s8 | s9 =>
            intro ρ wr hρ hg hK
            simp [readsOf, slotsOf, Op.operands, Call.operands, tmpOf, List.filterMap_cons, List.filterMap_nil, KnownAll, knownOf, srcOf, depsOf, dstOf, Region.binds, nth, Is] at hK
            obtain ⟨hc, hf, hgl⟩ := hρ
            try simp only [wantedBy, dstOf, boolOf, nth, List.getD_cons_zero, List.getD_cons_succ, List.getElem?_cons_zero, List.getElem?_cons_succ, Option.bind_some, if_true, hK, BEq.rfl]
            try go_simp
            first | exact rfl | (rw [if_pos (by omega)]; exact is_here rfl) | (rw [dif_pos (by omega)]; exact is_here rfl) | exact congrArg (Value.int _) (IntWalk.i64_in _ ⟨by omega, by omega⟩) | skip
          case' s3 =>
            intro ρ wr hρ hg hK
            simp [readsOf, slotsOf, Op.operands, Call.operands, tmpOf, List.filterMap_cons, List.filterMap_nil, KnownAll, knownOf, srcOf, depsOf, dstOf, Region.binds, nth, Is] at hK
            obtain ⟨hc, hf, hgl⟩ := hρ
            try simp only [wantedBy, dstOf, boolOf, nth, List.getD_cons_zero, List.getD_cons_succ, List.getElem?_cons_zero, List.getElem?_cons_succ, Option.bind_some, if_true, hK, BEq.rfl]
          case s1 =>
            have z0 := hg.cell x0 hgne
            have z1 := hg.cell x1 hgne
            go_simp
            exact rfl
          case s2 => exact ⟨(Gr.alloc _ _).once (fun g h => by have := (HRL.out g h).1; have := hg.size; omega), _, _, _, rfl, hg.size, heap_alloc_new _ _⟩
          case s3 =>
            obtain ⟨e0, hone⟩ := hK
            obtain ⟨v, w3, r1, r2, r3⟩ := append_once2 (ty := 65) (u := 65) elemP oO2 HRow.out HA.out HBB.out hg (hone.one.src rfl (pv_one [p']) Tryz.underlying65) m1 m2 hbsW
            simp only [execOp, resolve, invoke, builtin, Sem.run_bind, Sem.run_pure, Result.andThen_ok, List.map_toArray, List.map_cons, List.map_nil, e0]
            rw [r1]
            exact ⟨r2, r3⟩
          case s6 =>
            have z0 := hg.cell x0 hgne
            go_simp
            exact rfl
          case fin =>
            intro w1 val hg hH
            simp only [Holds, Is, Nat.zero_add, Nat.reduceAdd] at hH
            obtain ⟨h0, h1, h2, h3, h4, h5, h6, h7, h8, h9, _⟩ := hH
            simp only [List.take_succ_cons, List.take_zero, List.drop_succ_cons, List.drop_zero, putAll, h0, h1, h4, h5, h6, h8, h9, Nat.zero_add, Nat.reduceAdd]
            obtain ⟨ad7, c7, e7, o7, _, _⟩ := h7
            obtain ⟨ad3, c3, e3, _⟩ := h3
            obtain ⟨g9, e9, fr9, e2, _⟩ := h2
            simp only [e7, e3, e2]
            go_simp
            go_wp2
            go_roundw
            case rel =>
              exact ⟨i + 1, t, p'.1, P ++ [p'], ad7, c7, hlt, by rw [List.length_append, HPL.out]; rfl, rfl, rfl, rfl, by go_num, hel.2, by omega, by rw [pv_append]; exact o7, (hg1.trans gw2).grown hg.1 (fun g h => (HRL.out g h).2), HN.out⟩
            case measure => simp [intOf]; omega
      · obtain rfl : i = c := by omega
        have HD2 := Lib.hid (show decN d i 0 [] = some P by rw [HDEC.out, Nat.sub_self, decN]; simp)
        have HBU := Lib.hid (fun w' (g : Gr wr w') => Build_at adO i cO P (itv : Int) w' (chkF P (itv : Int)) (if chkF P (itv : Int) = 0 then buildF itv P else []) HPL.out.symm (oO.gr g).row (by have := HPL.out; omega) rfl rfl)
        have HR := Lib.hid (show pairsF b = if chkF P (itv : Int) = 0 ∧ buildF itv P = b then (P, 0) else ([], 2) by rw [HPF.out, HD2.out])
        clear hlt
        by_cases hk0 : chkF P (itv : Int) = 0
        · rw [hk0] at HBU HR
          simp only [if_true, true_and] at HBU HR
          generalize buildF itv P = out at *
          by_cases heq : out = b
          · subst heq
            have hbe : (out == out) = true := by simp
            rw [if_pos rfl] at HR
            clear hk0
            go_wp2_with (first
              | (go_at_call 57; refine (HBU.out _ (Gr.refl _)).mono ?_; rintro e w3 ⟨ad3, c3, rfl, o3, g3⟩)
              | (go_at_call 37; refine (equal_any _ _ _ _ _ _ out out _ rfl rfl (HB.out.gr (hg.trans g3)) o3.bytes).mono ?_; rintro e w4 ⟨rfl, rfl⟩))
            go_ret2
            rw [HR.out]
            refine ⟨adO, cO, by rw [HPL.out]; rfl, ?_, hg.trans g3⟩
            rw [HPL.out]
            exact (oO.gr g3).base g1.size
          · have hbe : (b == out) = false := by rw [beq_eq_false_iff_ne]; exact fun h => heq h.symm
            rw [if_neg heq] at HR
            clear hk0 heq
            go_wp2_with (first
              | (go_at_call 57; refine (HBU.out _ (Gr.refl _)).mono ?_; rintro e w3 ⟨ad3, c3, rfl, o3, g3⟩)
              | (go_at_call 37; refine (equal_any _ _ _ _ _ _ b out _ rfl rfl (HB.out.gr (hg.trans g3)) o3.bytes).mono ?_; rintro e w4 ⟨rfl, rfl⟩))
            go_ret2
            rw [HR.out]
            exact ⟨none, 0, rfl, Owns.empty _ _ _ _, hg.trans g3⟩
        · have HR2 := Lib.hid (HR.out.trans (if_neg (fun h => hk0 h.1)))
          generalize hcc9 : chkF P (itv : Int) = ck at *
          have hne : ((ck : Int) != 0) = true := by rw [bne_iff_ne]; omega
          rw [if_neg hk0] at HBU
          clear hk0 hcc9
          go_wp2_with (first
            | (go_at_call 57; refine (HBU.out _ (Gr.refl _)).mono ?_; rintro e w3 ⟨ad3, c3, rfl, o3, g3⟩))
          go_ret2
          rw [HR2.out]
          exact ⟨none, 0, rfl, Owns.empty _ _ _ _, hg.trans g3⟩
end Go.Proofs.YtlfbelocdpboeaaGreatDoor
/- Layer 13 (block): Same (the reference's), and BlockIntervals answers true. -/
namespace Go.Proofs.YtlfbelocdpboeaaGreatDoor
set_option linter.unusedVariables false
set_option linter.unusedSimpArgs false
open Go.RowKit Bk
theorem chkF_take {l : List Pr} {a : Int} (m : Nat) (h1 : 1 ≤ a) (h2 : a ≤ 64) (h : chkF l a = 0) : chkF (l.take m) a = 0 := by
  have h0 := h
  unfold chkF at h
  rw [if_neg (by omega)] at h
  split at h
  · cases h
  · rename_i h3
    have h4 : ¬ 10000 < l.length ∧ ¬ l.any longB = true := not_or.1 h3
    split at h
    · rename_i h5
      unfold chkF
      have ha : (l.take m).any longB = false := by
        rw [List.any_eq_false]
        intro x hx hb
        exact h4.2 (List.any_eq_true.2 ⟨x, List.mem_of_mem_take hx, hb⟩)
      have hr : riseB (l.take m) = true := riseB_iff.2 fun i hi => by
        rw [List.length_take] at hi
        rw [getD_take _ _ _ (by omega), getD_take _ _ _ (by omega)]
        exact riseB_iff.1 h5 i (by omega)
      rw [if_neg (by omega), if_neg (by rw [ha, List.length_take]; simp; omega), if_pos hr]
    · cases h
theorem Pairs_at (ad : Option Addr) (n cap : Nat) (b : List UInt8) (w : World) (P : List Pr) (e : Nat) (hn : n = b.length) (hp : pairsF b = (P, e)) (hl : b.length ≤ 1000000000) (hc : b.length ≤ cap) (hm : cap ≤ maxLen) (hb : Bytes w ad b) :
    Calls Tryz.prog 33 #[.slice ad n cap] w (RetPE w P e) := by
  subst hn
  have := Pairs_any ad cap b w hl hc hm hb
  rw [hp] at this
  exact this
theorem Row.pvTake {w : World} {ad : Option Addr} {l : List Pr} (h : Row w ad (pv l)) (n : Nat) : Row w ad (pv (l.take n)) := fun x u hx => h x u (by
  rw [pv_take, List.getElem?_take] at hx
  split at hx
  · exact hx
  · cases hx)
end Go.Proofs.YtlfbelocdpboeaaGreatDoor
/- Layer 13 (block): the reference's DocCheck, common, fixed. -/
namespace Go.Proofs.YtlfbelocdpboeaaGreatDoor
set_option linter.unusedVariables false
set_option linter.unusedSimpArgs false
open Go.RowKit Bk
open Go.Op (bytesLess)
section
open Varint
set_option maxRecDepth 100000 in
set_option maxHeartbeats 1000000 in
theorem rPut_any : ∀ (k n : Nat) (w : World), n < 2 * 128 ^ k → k ≤ 9 → Calls Tryz.prog 45 #[.int .u64 n] w fun e w' => e = .returned (.string (str (putN k n))) ∧ Gr w w' := by
  have small : ∀ (k n : Nat) (w : World), n < 128 → Calls Tryz.prog 45 #[.int .u64 n] w fun e w' => e = .returned (.string (str (putN k n))) ∧ Gr w w' := by
    intro k n w hlt
    have HV := Lib.hid (show (n : Int) = ((UInt8.ofNat n).toNat : Int) by rw [UInt8.toNat_ofNat']; omega)
    have HR := Lib.hid (putN_small (k := k) hlt)
    have hs := (run_string (P := Tryz.prog) Tryz.underlying27 Tryz.underlying5 Tryz.underlying9 (cap := 1) (len := 1) rfl (Bytes.alloc w #[.int .u8 (n : Int)] 5 (0, 0) [UInt8.ofNat n] (by rw [HV.out]; rfl)))
    go_enter Tryz.func45, Tryz.ntmps45
    go_wp2
    go_ret
    exact ⟨by rw [HR.out]; rfl, Gr.alloc _ _⟩
  intro k
  induction k with
  | zero =>
    intro n w hn _
    have h2 : n < 2 := by simpa using hn
    exact small 0 n w (by omega)
  | succ k ih =>
    intro n w hn hk
    have IH := Lib.hid ih; clear ih
    have HN := Lib.hid hn
    have hpw : 128 ^ (k + 1) ≤ 128 ^ 9 := Nat.pow_le_pow_right (by decide) hk
    have hb : n < 18446744073709551616 := by omega
    clear hn hpw
    by_cases hlt : n < 128
    · exact small _ _ _ hlt
    · generalize hx : UInt8.ofNat (n % 128 + 128) = x
      have HX := Lib.hid hx; clear hx
      have HV := Lib.hid (show IntKind.u8.wrap (IntKind.u64.wrap ((n : Int).tmod 128 + 128)) = (x.toNat : Int) by
        rw [← HX.out, UInt8.toNat_ofNat', Int.tmod_eq_emod_of_nonneg (by omega), IntKind.wrap_u64, IntKind.wrap_u8']; omega)
      have HD := Lib.hid (show IntKind.u64.wrap ((n : Int) / 128) = ((n / 128 : Nat) : Int) by rw [IntKind.wrap_u64]; omega)
      have HB := Lib.hid (show n / 128 < 2 * 128 ^ k by have := HN.out; rw [Nat.pow_succ] at this; omega)
      go_enter Tryz.func45, Tryz.ntmps45
      go_wp2
      refine region_any_gr 19 [Is ?r0, Is ?r1, Is ?r2, Is ?r3, ReadsB [x], Is (.string (str [x])), Is ?r6, Is ?r7, Is (.string (str (putN k (n / 128)))), Is (.string (str (x :: putN k (n / 128)))), Is ?r10] (by kernel_rfl) (by kernel_rfl) (by kernel_rfl) rfl rfl ⟨Is.stable _, Is.stable _, Is.stable _, Is.stable _, ReadsB.stable _, Is.stable _, Is.stable _, Is.stable _, Is.stable _, Is.stable _, Is.stable _, trivial⟩ ⟨?s0, ?s1, ?s2, ?s3, ?s4, ?s5, ?s6, ?s7, ?s8, ?s9, ?s10, trivial⟩ ?fin
      case' s0 | s1 | s2 | s3 | s4 | s5 | s6 | s7 | s8 | s9 | s10 =>
        intro ρ w1 hρ hg hK
        simp [readsOf, slotsOf, Op.operands, Call.operands, tmpOf, List.filterMap_cons, List.filterMap_nil, KnownAll, knownOf, srcOf, depsOf, dstOf, Region.binds, nth, Is] at hK
        obtain ⟨hc, hf, hgl⟩ := hρ
        simp only [wantedBy, nth, List.getD_cons_zero, List.getD_cons_succ, if_true]
        go_simp
        try exact rfl
      case s4 => exact ⟨Gr.alloc _ _, some ⟨w1.heap.size, 0, none⟩, 1, rfl, Bytes.alloc _ _ _ (0, 0) [x] (by rw [HV.out]; rfl)⟩
      case s5 =>
        obtain ⟨ad, cap, e, hb⟩ := hK
        rw [e, run_string Tryz.underlying27 Tryz.underlying5 Tryz.underlying9 rfl hb]
        exact is_here rfl
      case s8 =>
        rw [HD.out]
        refine (IH.out (n / 128) w1 HB.out (by omega)).mono ?_
        rintro e w2 ⟨rfl, hg2⟩
        exact ⟨_, rfl, hg2, rfl⟩
      case s9 =>
        rw [if_neg (by first | (rw [str_size, str_size]; have := putN_len k (n / 128); simp; omega) | (have := putN_len k (n / 128); omega))]
        exact is_here (by first | (rw [str_append]; rfl) | rfl)
      case fin =>
        intro w1 val hg hH
        simp only [Holds, Is, Nat.zero_add, Nat.reduceAdd] at hH
        obtain ⟨h0, h1, h2, h3, ⟨ad, cap, h4, _⟩, h5, h6, h7, h8, h9, h10, _⟩ := hH
        simp only [putAll, h0, h1, h2, h3, h4, h5, h6, h7, h8, h9, h10, Nat.zero_add, Nat.reduceAdd]
        go_simp
        go_wp2
        go_ret
        exact ⟨by rw [putN_big hlt, HX.out]; rfl, hg⟩
set_option maxRecDepth 100000 in
set_option maxHeartbeats 2000000 in
theorem rGet_any (t : ByteArray) (w : World) (hm : t.size ≤ maxLen) :
    Calls Tryz.prog 29 #[.string t] w fun e w' => e = .returned (.tuple #[.int .u64 (getF t.data.toList).1, .int .i64 (getF t.data.toList).2.1, .int .i64 (getF t.data.toList).2.2]) ∧ w = w' := by
  unfold maxLen at hm
  have HZ := Lib.hid (show t.data.toList.length = t.size by simp)
  generalize hl : t.data.toList = l at *
  have HL := Lib.hid hl; clear hl
  have hat : ∀ k (h : k < t.size), l[k]'(by rw [HZ.out]; exact h) = t[k] := by
    intro k h
    have := HL.out
    subst this
    rfl
  have HA := Lib.hid hat; clear hat
  go_enter Tryz.func29, Tryz.ntmps29
  go_wp2
  go_loop [5, 6, 7] (fun i _ _ => ∃ k : Nat, k ≤ t.size ∧ k ≤ 10 ∧ i = .int .i64 k ∧ getF l = getAt l (10 - k) k) (fun i _ _ => t.size - (intOf i).toNat)
  case atStart => exact ⟨0, Nat.zero_le _, by omega, rfl, rfl⟩
  case round =>
    obtain ⟨k, hk, hk10, rfl, hg⟩ := hrel
    have HG := Lib.hid hg; clear hg
    by_cases hin : k < t.size ∧ k < 10
    · obtain ⟨hlt, h10⟩ := hin
      have hll : k < l.length := by rw [HZ.out]; exact hlt
      have hx := byte_hi t[k]
      obtain ⟨f, hf⟩ : ∃ f, 10 - k = f + 1 := ⟨9 - k, by omega⟩
      have HF := Lib.hid hf; clear hf
      have hlx : l[k] = t[k] := HA.out k hlt
      have HX := Lib.hid hlx; clear hlx
      by_cases hxs : t[k].toNat < 128
      · have HE := Lib.hid (show getF l = endAt l k t[k].toNat by rw [HG.out, HF.out, getAt_end hll (by rw [HX.out]; exact hxs), HX.out])
        by_cases hbad : k = 9 ∧ 1 < t[k].toNat ∨ 0 < k ∧ t[k].toNat = 0
        · have HR := Lib.hid (HE.out.trans (endAt_bad hbad))
          by_cases h9 : k = 9
          · have b9 : ((k : Int) == 9) = true := by rw [beq_iff_eq]; omega
            by_cases hx1 : 1 < t[k].toNat
            · have bd : decide ((1 : Int) < t[k].toNat) = true := by simp; omega
              clear h9 hbad
              go_wp2
              go_ret3
              exact ⟨ret3_of HR.out rfl rfl rfl, rfl⟩
            · have bd : decide ((1 : Int) < t[k].toNat) = false := by simp; omega
              have hk0 : 0 < k := by omega
              have b0 : ((t[k].toNat : Int) == 0) = true := by rw [beq_iff_eq]; omega
              clear h9 hbad
              go_wp2
              go_ret3
              exact ⟨ret3_of HR.out rfl rfl rfl, rfl⟩
          · have b9 : ((k : Int) == 9) = false := by rw [beq_eq_false_iff_ne]; omega
            have hk0 : 0 < k := by omega
            have b0 : ((t[k].toNat : Int) == 0) = true := by rw [beq_iff_eq]; omega
            clear hbad
            go_wp2
            go_ret3
            exact ⟨ret3_of HR.out rfl rfl rfl, rfl⟩
        · have HR := Lib.hid (HE.out.trans (endAt_good hbad))
          have HV := Lib.hid (show ∀ j, j ≤ k + 1 → val ((l.take (k + 1)).drop j) < 18446744073709551616 from fun j _ => by
            have h1 := getF_lt l
            rw [HR.out] at h1
            exact Nat.lt_of_le_of_lt (val_drop_le _ j) h1)
          have HD := Lib.hid (show ∀ q, q < k + 1 → ∀ h : q < t.size, val ((l.take (k + 1)).drop q) = t[q].toNat % 128 + 128 * val ((l.take (k + 1)).drop (q + 1)) from fun q hq h => by
            rw [List.drop_eq_getElem_cons (by simp [HZ.out]; omega), List.getElem_take, HA.out q h]; rfl)
          by_cases h9 : k = 9
          · have b9 : ((k : Int) == 9) = true := by rw [beq_iff_eq]; omega
            have bd : decide ((1 : Int) < t[k].toNat) = false := by simp; omega
            have hk0 : 0 < k := by omega
            have b0 : ((t[k].toNat : Int) == 0) = false := by rw [beq_eq_false_iff_ne]; omega
            clear h9 hbad
            go_wp2
            go_loop [6, 7] (fun v i => ∃ j : Nat, j ≤ k + 1 ∧ i = .int .i64 ((j : Int) - 1) ∧ v = .int .u64 (val ((l.take (k + 1)).drop j))) (fun _ i => (intOf i + 1).toNat)
            case atStart => exact ⟨k + 1, Nat.le_refl _, by go_num, by rw [List.drop_of_length_le (by simp; omega)]; rfl⟩
            case round =>
              obtain ⟨j, hj, rfl, rfl⟩ := hrel
              by_cases hj0 : 0 < j
              · obtain ⟨q, rfl⟩ : ∃ q, j = q + 1 := ⟨j - 1, by omega⟩
                have hq : q < t.size := by omega
                have e1 : ((q + 1 : Nat) : Int) - 1 = (q : Int) := by omega
                have hxq := byte_hi t[q]
                have hd := Lib.hid (HD.out q (by omega) hq)
                have hlim := HV.out q (by omega)
                rw [hd.out] at hlim
                generalize hV : val ((l.take (k + 1)).drop (q + 1)) = V at *
                have HV2 := Lib.hid hV; clear hV
                have hx2 : 0 ≤ (t[q].toNat : Int) := Int.natCast_nonneg _
                simp only [e1]
                clear e1
                go_wp2
                go_round
                case rel => exact ⟨q, by omega, rfl, by rw [hd.out]; go_num⟩
                case measure => simp [intOf]
              · obtain rfl : j = 0 := by omega
                go_wp2
                go_ret3
                exact ⟨ret3_of HR.out rfl (by omega) rfl, rfl⟩
          · have b9 : ((k : Int) == 9) = false := by rw [beq_eq_false_iff_ne]; omega
            by_cases hk0 : 0 < k
            · have b0 : ((t[k].toNat : Int) == 0) = false := by rw [beq_eq_false_iff_ne]; omega
              clear h9 hbad
              go_wp2
              go_loop [6, 7] (fun v i => ∃ j : Nat, j ≤ k + 1 ∧ i = .int .i64 ((j : Int) - 1) ∧ v = .int .u64 (val ((l.take (k + 1)).drop j))) (fun _ i => (intOf i + 1).toNat)
              case atStart => exact ⟨k + 1, Nat.le_refl _, by go_num, by rw [List.drop_of_length_le (by simp; omega)]; rfl⟩
              case round =>
                obtain ⟨j, hj, rfl, rfl⟩ := hrel
                by_cases hj0 : 0 < j
                · obtain ⟨q, rfl⟩ : ∃ q, j = q + 1 := ⟨j - 1, by omega⟩
                  have hq : q < t.size := by omega
                  have e1 : ((q + 1 : Nat) : Int) - 1 = (q : Int) := by omega
                  have hxq := byte_hi t[q]
                  have hd := Lib.hid (HD.out q (by omega) hq)
                  have hlim := HV.out q (by omega)
                  rw [hd.out] at hlim
                  generalize hV : val ((l.take (k + 1)).drop (q + 1)) = V at *
                  have HV2 := Lib.hid hV; clear hV
                  have hx2 : 0 ≤ (t[q].toNat : Int) := Int.natCast_nonneg _
                  simp only [e1]
                  clear e1
                  go_wp2
                  go_round
                  case rel => exact ⟨q, by omega, rfl, by rw [hd.out]; go_num⟩
                  case measure => simp [intOf]
                · obtain rfl : j = 0 := by omega
                  go_wp2
                  go_ret3
                  exact ⟨ret3_of HR.out rfl (by omega) rfl, rfl⟩
            · clear h9 hbad
              go_wp2
              go_loop [6, 7] (fun v i => ∃ j : Nat, j ≤ k + 1 ∧ i = .int .i64 ((j : Int) - 1) ∧ v = .int .u64 (val ((l.take (k + 1)).drop j))) (fun _ i => (intOf i + 1).toNat)
              case atStart => exact ⟨k + 1, Nat.le_refl _, by go_num, by rw [List.drop_of_length_le (by simp; omega)]; rfl⟩
              case round =>
                obtain ⟨j, hj, rfl, rfl⟩ := hrel
                by_cases hj0 : 0 < j
                · obtain ⟨q, rfl⟩ : ∃ q, j = q + 1 := ⟨j - 1, by omega⟩
                  have hq : q < t.size := by omega
                  have e1 : ((q + 1 : Nat) : Int) - 1 = (q : Int) := by omega
                  have hxq := byte_hi t[q]
                  have hd := Lib.hid (HD.out q (by omega) hq)
                  have hlim := HV.out q (by omega)
                  rw [hd.out] at hlim
                  generalize hV : val ((l.take (k + 1)).drop (q + 1)) = V at *
                  have HV2 := Lib.hid hV; clear hV
                  have hx2 : 0 ≤ (t[q].toNat : Int) := Int.natCast_nonneg _
                  simp only [e1]
                  clear e1
                  go_wp2
                  go_round
                  case rel => exact ⟨q, by omega, rfl, by rw [hd.out]; go_num⟩
                  case measure => simp [intOf]
                · obtain rfl : j = 0 := by omega
                  go_wp2
                  go_ret3
                  exact ⟨ret3_of HR.out rfl (by omega) rfl, rfl⟩
      · go_wp2
        go_round
        case rel =>
          refine ⟨k + 1, by omega, by omega, by go_num, ?_⟩
          rw [HG.out, HF.out, getAt_on hll (by rw [HX.out]; exact hxs)]
          have := HF.out
          congr 1
          omega
        case measure => simp [intOf]; omega
    · have HR0 := Lib.hid (show getF l = short l by
        rw [HG.out]
        rcases Nat.lt_or_ge k 10 with h | h
        · exact getAt_none (by rw [HZ.out]; omega)
        · have : k = 10 := by omega
          subst this; rfl)
      by_cases hkt : k < t.size
      · have h10 : k = 10 := by omega
        have HR := Lib.hid (show getF l = (0, 0, 2) by rw [HR0.out, short, HZ.out, if_neg (by omega)])
        have hk10' : ¬ k < 10 := by omega
        clear hin h10
        go_wp2
        go_ret3
        exact ⟨ret3_of HR.out rfl rfl rfl, rfl⟩
      · by_cases h10 : t.size < 10
        · have HR := Lib.hid (show getF l = (0, 0, 9) by rw [HR0.out, short, HZ.out, if_pos h10])
          clear hin
          go_wp2
          go_ret3
          exact ⟨ret3_of HR.out rfl rfl rfl, rfl⟩
        · have HR := Lib.hid (show getF l = (0, 0, 2) by rw [HR0.out, short, HZ.out, if_neg h10])
          clear hin
          go_wp2
          go_ret3
          exact ⟨ret3_of HR.out rfl rfl rfl, rfl⟩
set_option maxRecDepth 100000 in
set_option maxHeartbeats 1000000 in
theorem rFixed_any (n : Nat) (s : Int) (w : World) (hn : n < 18446744073709551616) (h1 : -9223372036854775808 ≤ s) (h2 : s ≤ 9223372036854775807) :
    Calls Tryz.prog 80 #[.int .u64 n, .int .i64 s] w fun e w' => e = .returned (.tuple #[.string (str (fixedF n s).1), .int .i64 (fixedF n s).2]) ∧ Gr w w' := by
  by_cases hs : s < 0 ∨ 8 < s
  · have H := Lib.hid (show fixedF n s = ([], 1) by unfold fixedF; rw [if_pos hs])
    rcases hs with hs | hs
    all_goals
      go_enter Tryz.func80, Tryz.ntmps80
      go_wp2
      go_ret2
      exact ⟨by rw [H.out]; rfl, Gr.refl _⟩
  · obtain ⟨k, rfl⟩ := Int.eq_ofNat_of_zero_le (show 0 ≤ s by omega)
    have hk : k ≤ 8 := by omega
    clear hs h1 h2
    go_enter Tryz.func80, Tryz.ntmps80
    go_wp2
    go_loopw [0, 6, 7] (fun v b i wr => ∃ (j : Nat) (ad : Option Addr) (cap : Nat), j ≤ k ∧ i = .int .i64 j ∧ v = .int .u64 ((n / 256 ^ j : Nat) : Int) ∧ b = .slice ad j cap ∧ Owns wr w.heap.size 5 1 ad cap j (bv (bytesN j n)) ∧ Gr w wr) (fun _ _ i _ => k - (intOf i).toNat)
    case atStart => exact ⟨0, none, 0, Nat.zero_le _, rfl, by simp, rfl, Owns.empty _ _ _ _, Gr.refl _⟩
    case round =>
      obtain ⟨j, ad, cap, hj, rfl, rfl, rfl, ho, hg⟩ := hrel
      have hs := hg.size
      by_cases hlt : j < k
      · generalize hc : n / 256 ^ j = cur at *
        have hb : cur < 18446744073709551616 := by rw [← hc]; exact Nat.lt_of_le_of_lt (Nat.div_le_self _ _) hn
        have HC := Lib.hid hc; clear hc
        have HX := Lib.hid (show (cur : Int) % 256 = ((UInt8.ofNat cur).toNat : Int) by rw [UInt8.toNat_ofNat']; omega)
        go_wp2_with (at_builtin; refine wp_append elemB rfl _ _ rfl rfl (ho.gr (Gr.alloc _ _)) rfl (Src.one _ _ (UInt8.ofNat cur) HX.out Tryz.underlying27) (by unfold maxLen; omega) (by omega) (by simp; omega) ?_; intro ad2 cap2 w2 o2 k2 f2)
        go_roundw
        case rel =>
          refine ⟨j + 1, ad2, cap2, by omega, by go_num, ?_, rfl, ?_, hg.app ho (Nat.le_refl _) k2⟩
          · rw [Nat.pow_succ, ← Nat.div_div_eq_div_mul, HC.out]; go_num
          · rw [bytesN_snoc, bv_append, HC.out]; exact o2
        case measure => simp [intOf]; omega
      · obtain rfl : j = k := by omega
        have HS := run_string (P := Tryz.prog) Tryz.underlying27 Tryz.underlying5 Tryz.underlying9 (cap := cap) (bytesN_len j n) ho.bytes
        by_cases hb : n / 256 ^ j = 0
        · have H := Lib.hid (show fixedF n j = (bytesN j n, 0) by unfold fixedF; rw [if_neg (by omega), if_neg (by simpa using hb)]; rfl)
          have hq : ((n : Int) / 256 ^ j != 0) = false := by rw [show (n : Int) / 256 ^ j = ((n / 256 ^ j : Nat) : Int) by simp, hb]; rfl
          have HB := Lib.hid hb; clear hb
          go_wp2
          go_ret2
          exact ⟨by rw [H.out]; rfl, hg⟩
        · have H := Lib.hid (show fixedF n j = ([], 14) by unfold fixedF; rw [if_neg (by omega), if_pos (by simpa using hb)])
          have hq : ((n : Int) / 256 ^ j != 0) = true := by rw [show (n : Int) / 256 ^ j = ((n / 256 ^ j : Nat) : Int) by simp, bne_iff_ne]; omega
          clear hb
          go_wp2
          go_ret2
          exact ⟨by rw [H.out]; rfl, hg⟩
set_option maxRecDepth 100000 in
set_option maxHeartbeats 1000000 in
theorem rWhole_any (t : ByteArray) (w : World) (hm : t.size ≤ maxLen) :
    Calls Tryz.prog 62 #[.string t] w fun e w' => e = .returned (.tuple #[.int .u64 (wholeF t.data.toList).1, .int .i64 (wholeF t.data.toList).2]) ∧ w = w' := by
  unfold maxLen at hm
  have hsz : t.data.toList.length = t.size := by simp
  by_cases h8 : 8 < t.size
  · have H := Lib.hid (show wholeF t.data.toList = (0, 1) by unfold wholeF; rw [if_pos (by omega)])
    clear hsz
    go_enter Tryz.func62, Tryz.ntmps62
    go_wp2
    go_ret2
    exact ⟨by rw [H.out]; rfl, rfl⟩
  · have H := Lib.hid (show wholeF t.data.toList = (le t.data.toList, 0) by unfold wholeF; rw [if_neg (by omega)])
    have HZ := Lib.hid hsz; clear hsz
    go_enter Tryz.func62, Tryz.ntmps62
    go_wp2
    go_loop [4, 5] (fun v i => ∃ k : Nat, k ≤ t.size ∧ i = .int .i64 ((k : Int) - 1) ∧ v = .int .u64 (le (t.data.toList.drop k))) (fun _ i => (intOf i + 1).toNat)
    case atStart => exact ⟨t.size, Nat.le_refl _, rfl, by rw [List.drop_of_length_le (by rw [HZ.out]; exact Nat.le_refl _)]; rfl⟩
    case round =>
      obtain ⟨k, hk, rfl, rfl⟩ := hrel
      by_cases hlt : 0 < k
      · obtain ⟨j, rfl⟩ : ∃ j, k = j + 1 := ⟨k - 1, by omega⟩
        have hj : j < t.size := by omega
        have e1 : ((j + 1 : Nat) : Int) - 1 = (j : Int) := by omega
        have hx := byte_hi t[j]
        have hd := Lib.hid (show le (t.data.toList.drop j) = t[j].toNat + 256 * le (t.data.toList.drop (j + 1)) by
          rw [List.drop_eq_getElem_cons (by rw [HZ.out]; exact hj)]; rfl)
        have hlim : le (t.data.toList.drop (j + 1)) < 72057594037927936 := by
          have h1 := le_lt (t.data.toList.drop (j + 1))
          have h2 : 256 ^ (t.data.toList.drop (j + 1)).length ≤ 256 ^ 7 := Nat.pow_le_pow_right (by decide) (by rw [List.length_drop, HZ.out]; omega)
          omega
        generalize hV : le (t.data.toList.drop (j + 1)) = V at *
        have HV := Lib.hid hV; clear hV
        simp only [e1]
        clear e1
        go_wp2
        go_round
        case rel => exact ⟨j, by omega, rfl, by rw [hd.out]; go_num⟩
        case measure => simp [intOf]
      · obtain rfl : k = 0 := by omega
        go_wp2
        go_ret2
        exact ⟨by rw [H.out]; rfl, rfl⟩
end
theorem longB_of (p : Pr) : longB p = true ↔ 200 < p.1.length ∨ 2000 < p.2.length := by simp [longB]
set_option maxRecDepth 100000 in
set_option maxHeartbeats 2000000 in
theorem rDocCheck_any (ad : Option Addr) (cap : Nat) (l : List Pr) (itv : Int) (w : World) (hr : Row w ad (pv l)) (hl : l.length ≤ 9223372036854775807) :
    Calls Tryz.prog 72 #[.slice ad l.length cap, .int .i64 itv] w fun e w' => e = .returned (.int .i64 (chkF l itv : Nat)) ∧ Gr w w' := by
  have HR := Lib.hid hr.pair
  clear hr
  by_cases h1 : itv < 1 ∨ 64 < itv
  · have HC := Lib.hid (show chkF l itv = 1 by unfold chkF; rw [if_pos h1])
    have h2 : itv < 1 ∨ (1 ≤ itv ∧ 64 < itv) := by omega
    clear h1
    rcases h2 with h2 | ⟨h2, h3⟩
    · go_enter Tryz.func72, Tryz.ntmps72
      go_wp2
      go_ret
      exact ⟨by rw [HC.out]; rfl, Gr.refl _⟩
    · go_enter Tryz.func72, Tryz.ntmps72
      go_wp2
      go_ret
      exact ⟨by rw [HC.out]; rfl, Gr.refl _⟩
  · have i1 : 1 ≤ itv := by omega
    have i2 : itv ≤ 64 := by omega
    by_cases h3 : 10000 < l.length
    · have HC := Lib.hid (show chkF l itv = 14 by unfold chkF; rw [if_neg h1, if_pos (.inl h3)])
      clear h1
      go_enter Tryz.func72, Tryz.ntmps72
      go_wp2
      go_ret
      exact ⟨by rw [HC.out]; rfl, Gr.refl _⟩
    · have hl4 : l.length ≤ 10000 := by omega
      have HC14 := Lib.hid (fun (hb : l.any longB = true) => show chkF l itv = 14 by unfold chkF; rw [if_neg h1, if_pos (.inr hb)])
      have HC2 := Lib.hid (fun (hb : l.any longB = false) => show chkF l itv = if riseB l = true then 0 else 2 by unfold chkF; rw [if_neg h1, if_neg (by rw [hb]; simp; omega)])
      clear h1 h3
      go_enter Tryz.func72, Tryz.ntmps72
      go_wp2
      go_loopw [5] (fun v wr => ∃ i : Nat, i ≤ l.length ∧ v = .int .i64 (i : Int) ∧ Gr w wr ∧ (l.take i).any longB = false) (fun v _ => l.length - (intOf v).toNat)
      case atStart => exact ⟨0, Nat.zero_le _, rfl, Gr.refl _, rfl⟩
      case round =>
        obtain ⟨i, hi, rfl, hg, hn⟩ := hrel
        have HN := Lib.hid hn; clear hn
        by_cases hlt : i < l.length
        · obtain ⟨b, off, rfl, hc1, hc2⟩ := HR.out i hlt
          have q1 := hg.cell hc1
          have q2 := hg.cell hc2
          have HT := Lib.hid (show (l.take (i + 1)).any longB = longB l[i] by rw [List.take_succ_eq_append_getElem hlt, List.any_append, HN.out]; simp)
          have HM := Lib.hid (List.getElem_mem hlt)
          generalize l[i] = p at *
          by_cases hb1 : 200 < p.1.length
          · have HB := Lib.hid ((longB_of p).2 (.inl hb1))
            go_wp2
            go_ret
            exact ⟨by rw [HC14.out (List.any_eq_true.2 ⟨p, HM.out, HB.out⟩)]; rfl, hg⟩
          · by_cases hb2 : 2000 < p.2.length
            · have HB := Lib.hid ((longB_of p).2 (.inr hb2))
              go_wp2
              go_ret
              exact ⟨by rw [HC14.out (List.any_eq_true.2 ⟨p, HM.out, HB.out⟩)]; rfl, hg⟩
            · have HB := Lib.hid (show longB p = false by rw [Bool.eq_false_iff]; intro h; have := (longB_of p).1 h; omega)
              go_wp2
              go_roundw
              case rel => exact ⟨i + 1, hlt, by go_num, hg, by rw [HT.out, HB.out]⟩
              case measure => simp [intOf]; omega
        · obtain rfl : i = l.length := by omega
          have hb : l.any longB = false := by have := HN.out; rwa [List.take_length] at this
          have HCC := Lib.hid (HC2.out hb)
          clear hb
          go_wp2
          go_loopw [6] (fun v wr => ∃ i : Nat, 1 ≤ i ∧ (i ≤ l.length ∨ i = 1) ∧ v = .int .i64 (i : Int) ∧ Gr w wr ∧ (∀ j, j + 1 < i → bytesLess (l.getD j noPr).1 (l.getD (j + 1) noPr).1 = true)) (fun v _ => l.length - (intOf v).toNat)
          case atStart => exact ⟨1, Nat.le_refl _, .inr rfl, rfl, hg, fun j hj => by omega⟩
          case round =>
            obtain ⟨i, hi1, hi2, rfl, hg, hn⟩ := hrel
            have HN := Lib.hid hn; clear hn
            by_cases hlt : i < l.length
            · obtain ⟨i0, rfl⟩ : ∃ i0, i = i0 + 1 := ⟨i - 1, by omega⟩
              obtain ⟨b, off, rfl, hc1, hc2⟩ := HR.out (i0 + 1) hlt
              obtain ⟨b', off', e', hc3, hc4⟩ := HR.out i0 (by omega)
              cases e'
              have q1 := hg.cell hc1
              have q3 := hg.cell hc3
              have hlt0 : i0 < l.length := by omega
              have G1 := Lib.hid (show l.getD (i0 + 1) noPr = l[i0 + 1] by rw [List.getD_eq_getElem?_getD, List.getElem?_eq_getElem hlt, Option.getD_some])
              have G0 := Lib.hid (show l.getD i0 noPr = l[i0] by rw [List.getD_eq_getElem?_getD, List.getElem?_eq_getElem hlt0, Option.getD_some])
              clear hc1 hc2 hc3 hc4
              generalize l[i0 + 1] = p at *
              generalize l[i0] = p0 at *
              have HJ := Lib.hid (show ∀ j, j + 1 < i0 + 1 + 1 → j + 1 < i0 + 1 ∨ j = i0 from fun j hj => by omega)
              cases hb : bytesLess p0.1 p.1 with
              | true =>
                have HB := Lib.hid hb
                have x1 := bl_asymm hb
                have x2 : (p.1 == p0.1) = false := by rw [beq_eq_false_iff_ne]; intro e; rw [e, bl_irr] at hb; cases hb
                clear hb
                go_wp2
                go_quiet (fail)
                go_wp2
                go_roundw
                case rel =>
                  refine ⟨i0 + 1 + 1, by omega, .inl (by omega), by go_num, hg.trans (Gr.drewN _ _), fun j hj => ?_⟩
                  rcases HJ.out j hj with h | rfl
                  · exact HN.out j h
                  · rw [G0.out, G1.out]; exact HB.out
                case measure => simp [intOf]; omega
              | false =>
                have HF := Lib.hid (show riseB l = false by
                  rw [Bool.eq_false_iff]; intro h
                  have := riseB_iff.1 h i0 hlt
                  rw [G0.out, G1.out, hb] at this; cases this)
                cases hc : bytesLess p.1 p0.1 with
                | true =>
                  clear hb
                  go_wp2
                  go_quiet (fail)
                  go_wp2
                  go_ret
                  exact ⟨by rw [HCC.out, HF.out]; rfl, hg.trans (Gr.drewN _ _)⟩
                | false =>
                  have x2 : (p.1 == p0.1) = true := by rw [beq_iff_eq]; exact bl_total hc hb
                  clear hb
                  go_wp2
                  go_quiet (fail)
                  go_wp2
                  go_ret
                  exact ⟨by rw [HCC.out, HF.out]; rfl, hg.trans (Gr.drewN _ _)⟩
            · go_wp2
              go_ret
              refine ⟨?_, hg⟩
              rw [HCC.out, if_pos (riseB_iff.2 fun j hj => HN.out j (by omega))]
              rfl
set_option maxRecDepth 100000 in
set_option maxHeartbeats 1000000 in
theorem rcommon_any (a b : List UInt8) (w : World) (ha : a.length ≤ 9223372036854775806) (hb : b.length ≤ 9223372036854775806) :
    Calls Tryz.prog 74 #[.string (str a), .string (str b)] w fun e w' => e = .returned (.int .i64 (comF a b : Nat)) ∧ Gr w w' := by
  go_enter Tryz.func74, Tryz.ntmps74
  go_wp2
  go_loopw [5] (fun v wr => ∃ n : Nat, n ≤ a.length ∧ n ≤ b.length ∧ v = .int .i64 (n : Int) ∧ Gr w wr ∧ comF a b = n + comF (a.drop n) (b.drop n)) (fun v _ => a.length - (intOf v).toNat)
  case atStart => exact ⟨0, Nat.zero_le _, Nat.zero_le _, rfl, Gr.refl _, by simp⟩
  case round =>
    obtain ⟨n, hn1, hn2, rfl, hg0, hc⟩ := hrel
    by_cases k1 : n < a.length
    · by_cases k2 : n < b.length
      · by_cases he : a[n]'k1 = b[n]'k2
        · have HC := Lib.hid (hc.trans (congrArg (n + ·) (comF_step k1 k2 he)))
          have hbe : (((a[n]'k1).toNat : Int) == ((b[n]'k2).toNat : Int)) = true := by rw [he]; simp
          clear hc he
          go_wp2
          refine region_any_gr _ [Is ?r0, Is ?r1, Is (.int .i64 (a.length : Int)), Is (.bool true), Is (.bool true), Is ?r5, Is ?r6, Is (.int .i64 (b.length : Int)), Is (.bool true), Is (.bool true), Is (.bool true), Is (.string (str a)), Is (.int .i64 (n : Int)), Is (.int .u8 ((a[n]'k1).toNat : Int)), Is (.string (str b)), Is (.int .i64 (n : Int)), Is (.int .u8 ((b[n]'k2).toNat : Int)), Is (.bool true), Is (.bool true)] (by kernel_rfl) (by kernel_rfl) (by kernel_rfl) rfl rfl ⟨Is.stable _, Is.stable _, Is.stable _, Is.stable _, Is.stable _, Is.stable _, Is.stable _, Is.stable _, Is.stable _, Is.stable _, Is.stable _, Is.stable _, Is.stable _, Is.stable _, Is.stable _, Is.stable _, Is.stable _, Is.stable _, Is.stable _, trivial⟩ ⟨?s0, ?s1, ?s2, ?s3, ?s4, ?s5, ?s6, ?s7, ?s8, ?s9, ?s10, ?s11, ?s12, ?s13, ?s14, ?s15, ?s16, ?s17, ?s18, trivial⟩ ?fin
          case' s0 | s1 | s2 | s3 | s4 | s5 | s6 | s7 | s8 | s9 | s10 | s11 | s12 | s13 | s14 | s15 | s16 | s17 | s18 =>
            intro ρ wr hρ hg hK
            simp [readsOf, slotsOf, Op.operands, Call.operands, tmpOf, List.filterMap_cons, List.filterMap_nil, KnownAll, knownOf, srcOf, depsOf, dstOf, Region.binds, nth, Is] at hK
            obtain ⟨hc, hf, hgl⟩ := hρ
            try simp only [wantedBy, dstOf, boolOf, nth, List.getD_cons_zero, List.getD_cons_succ, List.getElem?_cons_zero, List.getElem?_cons_succ, Option.bind_some, if_true, hK, BEq.rfl]
            try go_simp
            first | exact rfl | (rw [if_pos (by omega)]; exact is_here rfl) | (rw [dif_pos (by omega)]; exact is_here rfl) | exact congrArg (Value.int _) (IntWalk.i64_in _ ⟨by omega, by omega⟩) | skip
          case fin =>
            intro w1 val hg hH
            simp only [Holds, Is, Nat.zero_add, Nat.reduceAdd] at hH
            obtain ⟨h0, h1, h2, h3, h4, h5, h6, h7, h8, h9, h10, h11, h12, h13, h14, h15, h16, h17, h18, _⟩ := hH
            simp only [List.take_succ_cons, List.take_zero, List.drop_succ_cons, List.drop_zero, putAll, h0, h1, h2, h3, h4, h5, h6, h7, h8, h9, h10, h11, h12, h13, h14, h15, h16, h17, h18, Nat.zero_add, Nat.reduceAdd]
            go_simp
            go_wp2
            go_roundw
            case rel => exact ⟨n + 1, k1, k2, by go_num, hg0.trans hg, by rw [HC.out]; omega⟩
            case measure => simp [intOf]; omega
        · have HC := Lib.hid (show comF a b = n by rw [hc, comF_stop k1 k2 he]; rfl)
          have hbe : (((a[n]'k1).toNat : Int) == ((b[n]'k2).toNat : Int)) = false := by
            rw [beq_eq_false_iff_ne]; intro h; exact he (UInt8.toNat_inj.1 (by omega))
          clear hc he
          go_wp2
          refine region_any_gr _ [Is ?r0x1, Is ?r1x1, Is (.int .i64 (a.length : Int)), Is (.bool true), Is (.bool true), Is ?r5x1, Is ?r6x1, Is (.int .i64 (b.length : Int)), Is (.bool true), Is (.bool true), Is (.bool true), Is (.string (str a)), Is (.int .i64 (n : Int)), Is (.int .u8 ((a[n]'k1).toNat : Int)), Is (.string (str b)), Is (.int .i64 (n : Int)), Is (.int .u8 ((b[n]'k2).toNat : Int)), Is (.bool false), Is (.bool false)] (by kernel_rfl) (by kernel_rfl) (by kernel_rfl) rfl rfl ⟨Is.stable _, Is.stable _, Is.stable _, Is.stable _, Is.stable _, Is.stable _, Is.stable _, Is.stable _, Is.stable _, Is.stable _, Is.stable _, Is.stable _, Is.stable _, Is.stable _, Is.stable _, Is.stable _, Is.stable _, Is.stable _, Is.stable _, trivial⟩ ⟨?s0x1, ?s1x1, ?s2x1, ?s3x1, ?s4x1, ?s5x1, ?s6x1, ?s7x1, ?s8x1, ?s9x1, ?s10x1, ?s11x1, ?s12x1, ?s13x1, ?s14x1, ?s15x1, ?s16x1, ?s17x1, ?s18x1, trivial⟩ ?finx1
          case' s0x1 | s1x1 | s2x1 | s3x1 | s4x1 | s5x1 | s6x1 | s7x1 | s8x1 | s9x1 | s10x1 | s11x1 | s12x1 | s13x1 | s14x1 | s15x1 | s16x1 | s17x1 | s18x1 =>
            intro ρ wr hρ hg hK
            simp [readsOf, slotsOf, Op.operands, Call.operands, tmpOf, List.filterMap_cons, List.filterMap_nil, KnownAll, knownOf, srcOf, depsOf, dstOf, Region.binds, nth, Is] at hK
            obtain ⟨hc, hf, hgl⟩ := hρ
            try simp only [wantedBy, dstOf, boolOf, nth, List.getD_cons_zero, List.getD_cons_succ, List.getElem?_cons_zero, List.getElem?_cons_succ, Option.bind_some, if_true, hK, BEq.rfl]
            try go_simp
            first | exact rfl | (rw [if_pos (by omega)]; exact is_here rfl) | (rw [dif_pos (by omega)]; exact is_here rfl) | exact congrArg (Value.int _) (IntWalk.i64_in _ ⟨by omega, by omega⟩) | skip
          case finx1 =>
            intro w1 val hg hH
            simp only [Holds, Is, Nat.zero_add, Nat.reduceAdd] at hH
            obtain ⟨h0, h1, h2, h3, h4, h5, h6, h7, h8, h9, h10, h11, h12, h13, h14, h15, h16, h17, h18, _⟩ := hH
            simp only [List.take_succ_cons, List.take_zero, List.drop_succ_cons, List.drop_zero, putAll, h0, h1, h2, h3, h4, h5, h6, h7, h8, h9, h10, h11, h12, h13, h14, h15, h16, h17, h18, Nat.zero_add, Nat.reduceAdd]
            go_simp
            go_wp2
            go_ret
            exact ⟨by rw [HC.out]; rfl, hg0.trans hg⟩
      · have HC := Lib.hid (show comF a b = n by rw [hc, comF_end (by omega)]; rfl)
        clear hc
        go_wp2
        refine region_any_gr _ [Is ?r0x2, Is ?r1x2, Is (.int .i64 (a.length : Int)), Is (.bool true), Is (.bool true), Is ?r5x2, Is ?r6x2, Is (.int .i64 (b.length : Int)), Is (.bool false), Is (.bool false), Is (.bool false), Is (undef), Is (undef), Is (undef), Is (undef), Is (undef), Is (undef), Is (undef), Is (.bool false)] (by kernel_rfl) (by kernel_rfl) (by kernel_rfl) rfl rfl ⟨Is.stable _, Is.stable _, Is.stable _, Is.stable _, Is.stable _, Is.stable _, Is.stable _, Is.stable _, Is.stable _, Is.stable _, Is.stable _, Is.stable _, Is.stable _, Is.stable _, Is.stable _, Is.stable _, Is.stable _, Is.stable _, Is.stable _, trivial⟩ ⟨?s0x2, ?s1x2, ?s2x2, ?s3x2, ?s4x2, ?s5x2, ?s6x2, ?s7x2, ?s8x2, ?s9x2, ?s10x2, ?s11x2, ?s12x2, ?s13x2, ?s14x2, ?s15x2, ?s16x2, ?s17x2, ?s18x2, trivial⟩ ?finx2
        case' s0x2 | s1x2 | s2x2 | s3x2 | s4x2 | s5x2 | s6x2 | s7x2 | s8x2 | s9x2 | s10x2 | s11x2 | s12x2 | s13x2 | s14x2 | s15x2 | s16x2 | s17x2 | s18x2 =>
          intro ρ wr hρ hg hK
          simp [readsOf, slotsOf, Op.operands, Call.operands, tmpOf, List.filterMap_cons, List.filterMap_nil, KnownAll, knownOf, srcOf, depsOf, dstOf, Region.binds, nth, Is] at hK
          obtain ⟨hc, hf, hgl⟩ := hρ
          try simp only [wantedBy, dstOf, boolOf, nth, List.getD_cons_zero, List.getD_cons_succ, List.getElem?_cons_zero, List.getElem?_cons_succ, Option.bind_some, if_true, hK, BEq.rfl]
          try go_simp
          first | exact rfl | (rw [if_pos (by omega)]; exact is_here rfl) | (rw [dif_pos (by omega)]; exact is_here rfl) | exact congrArg (Value.int _) (IntWalk.i64_in _ ⟨by omega, by omega⟩) | skip
        case finx2 =>
          intro w1 val hg hH
          simp only [Holds, Is, Nat.zero_add, Nat.reduceAdd] at hH
          obtain ⟨h0, h1, h2, h3, h4, h5, h6, h7, h8, h9, h10, h11, h12, h13, h14, h15, h16, h17, h18, _⟩ := hH
          simp only [List.take_succ_cons, List.take_zero, List.drop_succ_cons, List.drop_zero, putAll, h0, h1, h2, h3, h4, h5, h6, h7, h8, h9, h10, h11, h12, h13, h14, h15, h16, h17, h18, Nat.zero_add, Nat.reduceAdd]
          go_simp
          go_wp2
          go_ret
          exact ⟨by rw [HC.out]; rfl, hg0.trans hg⟩
    · have HC := Lib.hid (show comF a b = n by rw [hc, comF_end (by omega)]; rfl)
      clear hc
      go_wp2
      refine region_any_gr _ [Is ?r0x3, Is ?r1x3, Is (.int .i64 (a.length : Int)), Is (.bool false), Is (.bool false), Is (undef), Is (undef), Is (undef), Is (undef), Is (.bool false), Is (.bool false), Is (undef), Is (undef), Is (undef), Is (undef), Is (undef), Is (undef), Is (undef), Is (.bool false)] (by kernel_rfl) (by kernel_rfl) (by kernel_rfl) rfl rfl ⟨Is.stable _, Is.stable _, Is.stable _, Is.stable _, Is.stable _, Is.stable _, Is.stable _, Is.stable _, Is.stable _, Is.stable _, Is.stable _, Is.stable _, Is.stable _, Is.stable _, Is.stable _, Is.stable _, Is.stable _, Is.stable _, Is.stable _, trivial⟩ ⟨?s0x3, ?s1x3, ?s2x3, ?s3x3, ?s4x3, ?s5x3, ?s6x3, ?s7x3, ?s8x3, ?s9x3, ?s10x3, ?s11x3, ?s12x3, ?s13x3, ?s14x3, ?s15x3, ?s16x3, ?s17x3, ?s18x3, trivial⟩ ?finx3
      case' s0x3 | s1x3 | s2x3 | s3x3 | s4x3 | s5x3 | s6x3 | s7x3 | s8x3 | s9x3 | s10x3 | s11x3 | s12x3 | s13x3 | s14x3 | s15x3 | s16x3 | s17x3 | s18x3 =>
        intro ρ wr hρ hg hK
        simp [readsOf, slotsOf, Op.operands, Call.operands, tmpOf, List.filterMap_cons, List.filterMap_nil, KnownAll, knownOf, srcOf, depsOf, dstOf, Region.binds, nth, Is] at hK
        obtain ⟨hc, hf, hgl⟩ := hρ
        try simp only [wantedBy, dstOf, boolOf, nth, List.getD_cons_zero, List.getD_cons_succ, List.getElem?_cons_zero, List.getElem?_cons_succ, Option.bind_some, if_true, hK, BEq.rfl]
        try go_simp
        first | exact rfl | (rw [if_pos (by omega)]; exact is_here rfl) | (rw [dif_pos (by omega)]; exact is_here rfl) | exact congrArg (Value.int _) (IntWalk.i64_in _ ⟨by omega, by omega⟩) | skip
      case finx3 =>
        intro w1 val hg hH
        simp only [Holds, Is, Nat.zero_add, Nat.reduceAdd] at hH
        obtain ⟨h0, h1, h2, h3, h4, h5, h6, h7, h8, h9, h10, h11, h12, h13, h14, h15, h16, h17, h18, _⟩ := hH
        simp only [List.take_succ_cons, List.take_zero, List.drop_succ_cons, List.drop_zero, putAll, h0, h1, h2, h3, h4, h5, h6, h7, h8, h9, h10, h11, h12, h13, h14, h15, h16, h17, h18, Nat.zero_add, Nat.reduceAdd]
        go_simp
        go_wp2
        go_ret
        exact ⟨by rw [HC.out]; rfl, hg0.trans hg⟩
theorem rfixed_at (X S : Int) (n k : Nat) (w : World) (hX : X = (n : Int)) (hS : S = (k : Int)) (hk : k ≤ 8) (hn : n < 256 ^ k) :
    Calls Tryz.prog 73 #[.int .i64 X, .int .i64 S] w fun e w' => e = .returned (.string (str (Varint.bytesN k n))) ∧ Gr w w' := by
  subst hX hS
  have h8 : 256 ^ k ≤ 256 ^ 8 := Nat.pow_le_pow_right (by decide) hk
  have hn9 : n < 18446744073709551616 := by omega
  have h := fun w => rFixed_any n (k : Int) w hn9 (by omega) (by omega)
  have e : Varint.fixedF n (k : Int) = (Varint.bytesN k n, 0) := by
    unfold Varint.fixedF
    rw [if_neg (by omega), if_neg (by rw [Int.toNat_natCast]; exact fun h => h (Nat.div_eq_of_lt hn))]
    rfl
  rw [e] at h
  have H := Lib.hid h
  clear h h8 hn e
  go_enter Tryz.func73, Tryz.ntmps73
  go_wp2_with (go_at_call 80; refine (H.out _).mono ?_; rintro e w1 ⟨rfl, g1⟩)
  go_ret
  exact ⟨rfl, g1⟩
end Go.Proofs.YtlfbelocdpboeaaGreatDoor
/- Layer 13 (block): the reference's DocBuild. -/
namespace Go.Proofs.YtlfbelocdpboeaaGreatDoor
set_option linter.unusedVariables false
set_option linter.unusedSimpArgs false
open Go.RowKit Bk
theorem rPut_at (X : Int) (n : Nat) (w : World) (hX : X = (n : Int)) (hn : n < 16384) : Calls Tryz.prog 45 #[.int .u64 X] w fun e w' => e = .returned (.string (str (Varint.putF n))) ∧ Gr w w' := by
  subst hX; exact rPut_any 9 n w (by omega) (by omega)
theorem rDocBuild_bad (ad : Option Addr) (cap : Nat) (l : List Pr) (itv : Int) (w : World) (hr : Row w ad (pv l)) (hl : l.length ≤ 9223372036854775807) (hc : chkF l itv ≠ 0) :
    Calls Tryz.prog 43 #[.slice ad l.length cap, .int .i64 itv] w fun e w' => e = .returned (.tuple #[.string (str []), .int .i64 (chkF l itv : Nat)]) ∧ Gr w w' := by
  have HC := Lib.hid (rDocCheck_any ad cap l itv w hr hl)
  generalize chkF l itv = c at *
  have hne : ((c : Int) != 0) = true := by rw [bne_iff_ne]; omega
  go_enter Tryz.func43, Tryz.ntmps43
  go_wp2_with (go_at_call 72; refine HC.out.mono ?_; rintro e w1 ⟨rfl, g1⟩)
  go_ret2
  exact ⟨rfl, g1⟩
set_option maxRecDepth 100000 in
set_option maxHeartbeats 4000000 in
theorem rDocBuild_ok (ad : Option Addr) (cap : Nat) (l : List Pr) (itv : Nat) (w : World) (hr : Row w ad (pv l)) (h1 : 1 ≤ itv) (h2 : itv ≤ 64) (hl : l.length ≤ 10000) (hc : chkF l itv = 0) :
    Calls Tryz.prog 43 #[.slice ad l.length cap, .int .i64 (itv : Int)] w fun e w' => e = .returned (.tuple #[.string (str (buildF itv l)), .int .i64 0]) ∧ Gr w w' := by
  have HC := Lib.hid (rDocCheck_any ad cap l itv w hr (by omega))
  have HOK := Lib.hid (chkF_ok hc).1
  rw [hc] at HC
  clear hc
  have HR := Lib.hid hr.pair
  clear hr
  go_enter Tryz.func43, Tryz.ntmps43
  go_wp2_with (go_at_call 72; refine HC.out.mono ?_; rintro e w1 ⟨rfl, g1⟩)
  go_loopw [7, 8, 9] (fun vb vp vi wr => ∃ (i : Nat) (adb : Option Addr) (cb : Nat), vb = .slice adb (dataN itv l i).length cb ∧ vp = .string (str (placeN itv l i)) ∧ vi = .int .i64 (i : Int) ∧ i ≤ l.length ∧
    Owns wr w.heap.size 5 1 adb cb (dataN itv l i).length (bv (dataN itv l i)) ∧ Gr w wr) (fun _ _ vi _ => l.length - (intOf vi).toNat)
  case atStart => exact ⟨0, none, 0, rfl, rfl, rfl, Nat.zero_le _, Owns.empty _ _ _ _, g1⟩
  case round =>
    obtain ⟨i, adb, cb, rfl, rfl, rfl, hi, ob, hg⟩ := hrel
    have hbs := hg.size
    have HGW := Lib.hid hg
    by_cases hlt : i < l.length
    · obtain ⟨bl, off, rfl, hc1, hc2⟩ := HR.out i hlt
      have hdl := dataN_len (itv := itv) HOK.out i
      have hpl := placeN_len itv l i
      have hD : dataN itv l (i + 1) = dataN itv l i ++ entF (nAt itv l i) (l.getD i noPr) := rfl
      have hP : placeN itv l (i + 1) = placeN itv l i ++ (if i % itv = 0 then Varint.bytesN 4 (dataN itv l i).length else []) := rfl
      have hge : l.getD i noPr = l[i] := by rw [List.getD_eq_getElem?_getD, List.getElem?_eq_getElem hlt, Option.getD_some]
      have hok := HOK.out i
      have hnk := nAt_le itv l i
      rw [hge] at hD hok hnk
      have HD := Lib.hid hD; have HP := Lib.hid hP; have HGE := Lib.hid hge
      clear hD hP hge
      generalize hpp : l[i] = p at *
      have HPP := Lib.hid hpp; clear hpp
      obtain ⟨k, v⟩ := p
      dsimp only at *
      generalize hDD : dataN itv l i = D at *
      generalize hPP : placeN itv l i = Pc at *
      have HDD := Lib.hid hDD; have HPL := Lib.hid hPP
      clear hDD hPP
      generalize hn : nAt itv l i = n at *
      have HN := Lib.hid hn; clear hn
      have p1 := putF_le n (by omega)
      have p2 := putF_le (k.length - n) (by omega)
      have p3 := putF_le v.length (by omega)
      have hEF := Lib.hid (show entF n (k, v) = Varint.putF n ++ Varint.putF (k.length - n) ++ Varint.putF v.length ++ k.drop n ++ v by simp [entF])
      have hel := (entF_len n (k, v) hok.1 hok.2 hnk).1
      dsimp only at hel
      have hdk : (k.drop n).length = k.length - n := List.length_drop
      by_cases h0 : i % itv = 0
      · have hz : (i : Int) % (itv : Int) = 0 := by omega
        have HP2 := Lib.hid (show placeN itv l (i + 1) = Pc ++ Varint.bytesN 4 D.length by rw [HP.out, if_pos h0])
        have hn0 : n = 0 := by rw [← HN.out]; unfold nAt; rw [if_pos h0]
        have hb4 := Varint.bytesN_len 4 D.length
        have q1 := hg.cell hc1
        have q2 := hg.cell hc2
        have HX := Lib.hid (show (0 : Int) = (n : Int) by omega)
        have HK := Lib.hid (show (k.length : Int) = ((k.length - n : Nat) : Int) by omega)
        have HEF2 := Lib.hid (show entF n (k, v) = Varint.putF n ++ (Varint.putF (k.length - n) ++ (Varint.putF v.length ++ (k ++ v))) by rw [hn0]; rfl)
        clear h0 hn0
        go_wp2_with (first
          | (go_at_call 73; refine (rfixed_at _ 4 D.length 4 _ rfl rfl (by omega) (by omega)).mono ?_; rintro e w2 ⟨rfl, g2⟩; have y1 := g2.cell q1; have y2 := g2.cell q2)
          | fail)
        have HS := Lib.hid (fun w' => src_str (P := Tryz.prog) (w := w') (Varint.putF n ++ (Varint.putF (k.length - n) ++ (Varint.putF v.length ++ (k ++ v)))) Tryz.underlying9)
        have hEL : (Varint.putF n ++ (Varint.putF (k.length - n) ++ (Varint.putF v.length ++ (k ++ v)))).length ≤ 2206 := by rw [← HEF2.out]; omega
        have hm1 : D.length + (Varint.putF n ++ (Varint.putF (k.length - n) ++ (Varint.putF v.length ++ (k ++ v)))).length ≤ maxLen := by unfold maxLen; omega
        have hm2 : (D.length + (Varint.putF n ++ (Varint.putF (k.length - n) ++ (Varint.putF v.length ++ (k ++ v)))).length) * 1 ≤ 140737488355328 := by omega
        have HM1 := Lib.hid hm1; have HM2 := Lib.hid hm2
        clear hEL hm1 hm2
        refine region_tail_gr 26 _ [Is (.slice adb D.length cb), Is (.int .i64 0), Is (.int .u64 0), Is (.string (str (Varint.putF n))), Is (.string (str (k))), Is (.int .i64 (k.length : Int)), Is (.int .u64 (k.length : Int)), Is (.string (str (Varint.putF (k.length - n)))), Is (.string (str (Varint.putF n ++ Varint.putF (k.length - n)))), Is (.slice (some ⟨bl, off, none⟩) l.length cap), Is (.int .i64 (i : Int)), Is (.pointer (some ⟨bl, off + i * 2, none⟩)), Is (.pointer (some ⟨bl, off + i * 2 + 1, none⟩)), Is (.string (str v)), Is (.int .i64 (v.length : Int)), Is (.int .u64 (v.length : Int)), Is (.string (str (Varint.putF v.length))), Is (.string (str (Varint.putF n ++ (Varint.putF (k.length - n) ++ Varint.putF v.length)))), Is (.string (str (k))), Is (.string (str (Varint.putF n ++ (Varint.putF (k.length - n) ++ (Varint.putF v.length ++ k))))), Is (.slice (some ⟨bl, off, none⟩) l.length cap), Is (.int .i64 (i : Int)), Is (.pointer (some ⟨bl, off + i * 2, none⟩)), Is (.pointer (some ⟨bl, off + i * 2 + 1, none⟩)), Is (.string (str v)), Is (.string (str (Varint.putF n ++ (Varint.putF (k.length - n) ++ (Varint.putF v.length ++ (k ++ v))))))] (by kernel_rfl) (by kernel_rfl) (by kernel_rfl) (by kernel_rfl) rfl rfl ⟨Is.stable _, Is.stable _, Is.stable _, Is.stable _, Is.stable _, Is.stable _, Is.stable _, Is.stable _, Is.stable _, Is.stable _, Is.stable _, Is.stable _, Is.stable _, Is.stable _, Is.stable _, Is.stable _, Is.stable _, Is.stable _, Is.stable _, Is.stable _, Is.stable _, Is.stable _, Is.stable _, Is.stable _, Is.stable _, Is.stable _, trivial⟩ ⟨?s0, ?s1, ?s2, ?s3, ?s4, ?s5, ?s6, ?s7, ?s8, ?s9, ?s10, ?s11, ?s12, ?s13, ?s14, ?s15, ?s16, ?s17, ?s18, ?s19, ?s20, ?s21, ?s22, ?s23, ?s24, ?s25, trivial⟩ ?fin
        case' s0 | s1 | s2 | s3 | s4 | s5 | s6 | s7 | s8 | s9 | s10 | s11 | s12 | s13 | s14 | s15 | s16 | s17 | s18 | s19 | s20 | s21 | s22 | s23 | s24 | s25 =>
          intro ρ wr hρ hg hK
          simp [readsOf, slotsOf, Op.operands, Call.operands, tmpOf, List.filterMap_cons, List.filterMap_nil, KnownAll, knownOf, srcOf, depsOf, dstOf, Region.binds, nth, Is] at hK
          obtain ⟨hc, hf, hgl⟩ := hρ
          try simp only [wantedBy, dstOf, boolOf, nth, List.getD_cons_zero, List.getD_cons_succ, List.getElem?_cons_zero, List.getElem?_cons_succ, Option.bind_some, if_true, hK, BEq.rfl]
          try go_simp
          first | exact rfl | (rw [if_pos (by omega)]; exact is_here rfl) | (rw [dif_pos (by omega)]; exact is_here rfl) | exact congrArg (Value.int _) (IntWalk.i64_in _ ⟨by omega, by omega⟩) | skip
        case s3 => exact any_gr (rPut_at _ n _ HX.out (by omega))
        case s7 => exact any_gr (rPut_at _ (k.length - n) _ HK.out (by omega))
        case s16 => exact any_gr (rPut_at _ v.length _ rfl (by omega))
        case s8 | s17 | s19 | s25 => rw [if_neg (by omega)]; exact is_here rfl
        case s13 | s24 => have := hg.cell y2; go_simp; exact rfl
        all_goals try exact congrArg (Value.int _) (u64_wrap_nat _ (by omega))
        case fin =>
          intro w1 val hg hH
          simp only [Holds, Is, Nat.zero_add, Nat.reduceAdd] at hH
          obtain ⟨h0, h1, h2, h3, h4, h5, h6, h7, h8, h9, h10, h11, h12, h13, h14, h15, h16, h17, h18, h19, h20, h21, h22, h23, h24, h25, _⟩ := hH
          simp only [List.take_succ_cons, List.take_zero, List.drop_succ_cons, List.drop_zero, putAll, h0, h1, h2, h3, h4, h5, h6, h7, h8, h9, h10, h11, h12, h13, h14, h15, h16, h17, h18, h19, h20, h21, h22, h23, h24, h25, Nat.zero_add, Nat.reduceAdd]
          go_simp
          have ob2 := (ob.gr g2).gr hg
          have hb2 : w.heap.size ≤ w1.heap.size := Nat.le_trans hbs (Nat.le_trans g2.size hg.size)
          go_wp2_with (at_builtin; go_must (refine wp_append elemB rfl _ _ rfl rfl ob2 rfl (HS.out _) HM1.out HM2.out hb2 ?_); intro ad5 cap5 w5 o5 k5 f5)
          go_roundw
          case rel =>
            have hL : (dataN itv l (i + 1)).length = D.length + (Varint.putF n ++ (Varint.putF (k.length - n) ++ (Varint.putF v.length ++ (k ++ v)))).length := by rw [HD.out, HEF2.out, List.length_append]
            refine ⟨i + 1, ad5, cap5, ?_, by rw [HP2.out], by go_num, by omega, ?_, (((HGW.out).trans g2).trans hg).grown k5 (row_from ob2)⟩
            · rw [hL]; simp only [List.length_append]
            · rw [hL, HD.out, HEF2.out, bv_append]; exact o5
          case measure => simp [intOf]; omega
      · obtain ⟨i0, hi0⟩ : ∃ i0, i = i0 + 1 := ⟨i - 1, by have : i ≠ 0 := fun h => h0 (by rw [h]; rfl); omega⟩
        have hz : ¬ (i : Int) % (itv : Int) = 0 := by omega
        have HP3 := Lib.hid (show placeN itv l (i + 1) = Pc by rw [HP.out, if_neg h0, List.append_nil])
        have HEF2 := Lib.hid (show entF n (k, v) = Varint.putF n ++ (Varint.putF (k.length - n) ++ (Varint.putF v.length ++ (k.drop n ++ v))) from rfl)
        obtain ⟨bl', off', e', hd1, hd2⟩ := HR.out i0 (by omega)
        cases e'
        have hlt0 : i0 < l.length := by omega
        have HCM := Lib.hid (show n = comF l[i0].1 k by
          rw [← HN.out]; unfold nAt
          rw [if_neg h0, HGE.out, hi0, Nat.add_sub_cancel, List.getD_eq_getElem?_getD, List.getElem?_eq_getElem hlt0, Option.getD_some])
        have hok0 := HOK.out i0
        rw [List.getD_eq_getElem?_getD, List.getElem?_eq_getElem hlt0, Option.getD_some] at hok0
        have q3 := hg.cell hd1
        have q1 := hg.cell hc1
        have q2 := hg.cell hc2
        generalize l[i0].1 = pk at *
        have HCO := Lib.hid (fun w => rcommon_any pk k w (by omega) (by omega))
        rw [← HCM.out] at HCO
        have e9 : IntKind.i64.wrap ((i : Int) - 1) = (i0 : Int) := by rw [IntKind.wrap_i64]; omega
        have hkn : (k.length : Int) - (n : Int) = ((k.length - n : Nat) : Int) := by omega
        clear h0 hd1 hd2 hi0
        go_wp2
        refine region_any_gr _ [Is ?r0x1, Is ?r1x1, Is (.int .i64 (i0 : Int)), Is (.pointer (some ⟨bl, off + i0 * 2, none⟩)), Is (.pointer (some ⟨bl, off + i0 * 2, none⟩)), Is (.string (str pk)), Is ?r6x1, Is ?r7x1, Is (.pointer (some ⟨bl, off + i * 2, none⟩)), Is (.pointer (some ⟨bl, off + i * 2, none⟩)), Is (.string (str k)), Is (.int .i64 (n : Int)), Is ?r12x1] (by kernel_rfl) (by kernel_rfl) (by kernel_rfl) rfl rfl ⟨Is.stable _, Is.stable _, Is.stable _, Is.stable _, Is.stable _, Is.stable _, Is.stable _, Is.stable _, Is.stable _, Is.stable _, Is.stable _, Is.stable _, Is.stable _, trivial⟩ ⟨?s0x1, ?s1x1, ?s2x1, ?s3x1, ?s4x1, ?s5x1, ?s6x1, ?s7x1, ?s8x1, ?s9x1, ?s10x1, ?s11x1, ?s12x1, trivial⟩ ?finx1
        case' s0x1 | s1x1 | s2x1 | s3x1 | s4x1 | s5x1 | s6x1 | s7x1 | s8x1 | s9x1 | s10x1 | s11x1 | s12x1 =>
          intro ρ wr hρ hg hK
          simp [readsOf, slotsOf, Op.operands, Call.operands, tmpOf, List.filterMap_cons, List.filterMap_nil, KnownAll, knownOf, srcOf, depsOf, dstOf, Region.binds, nth, Is] at hK
          obtain ⟨hc, hf, hgl⟩ := hρ
          try simp only [wantedBy, dstOf, boolOf, nth, List.getD_cons_zero, List.getD_cons_succ, List.getElem?_cons_zero, List.getElem?_cons_succ, Option.bind_some, if_true, hK, BEq.rfl]
          try go_simp
          first | exact rfl | (rw [if_pos (by omega)]; exact is_here rfl) | (rw [dif_pos (by omega)]; exact is_here rfl) | exact congrArg (Value.int _) (IntWalk.i64_in _ ⟨by omega, by omega⟩) | skip
        case s5x1 => have := hg.cell q3; go_simp; exact rfl
        case s10x1 => have := hg.cell q1; go_simp; exact rfl
        case s11x1 => exact any_gr (HCO.out _)
        case finx1 =>
          intro w1 val hg hH
          simp only [Holds, Is, Nat.zero_add, Nat.reduceAdd] at hH
          obtain ⟨h0, h1, h2, h3, h4, h5, h6, h7, h8, h9, h10, h11, h12, _⟩ := hH
          simp only [List.take_succ_cons, List.take_zero, List.drop_succ_cons, List.drop_zero, putAll, h0, h1, h2, h3, h4, h5, h6, h7, h8, h9, h10, h11, h12, Nat.zero_add, Nat.reduceAdd]
          have g2 := hg
          have y1 := hg.cell q1
          have y2 := hg.cell q2
          go_simp
          go_wp2
          have HS := Lib.hid (fun w' => src_str (P := Tryz.prog) (w := w') (Varint.putF n ++ (Varint.putF (k.length - n) ++ (Varint.putF v.length ++ (k.drop n ++ v)))) Tryz.underlying9)
          have hEL : (Varint.putF n ++ (Varint.putF (k.length - n) ++ (Varint.putF v.length ++ (k.drop n ++ v)))).length ≤ 2206 := by rw [← HEF2.out]; omega
          have hm1 : D.length + (Varint.putF n ++ (Varint.putF (k.length - n) ++ (Varint.putF v.length ++ (k.drop n ++ v)))).length ≤ maxLen := by unfold maxLen; omega
          have hm2 : (D.length + (Varint.putF n ++ (Varint.putF (k.length - n) ++ (Varint.putF v.length ++ (k.drop n ++ v)))).length) * 1 ≤ 140737488355328 := by omega
          have HM1 := Lib.hid hm1; have HM2 := Lib.hid hm2
          clear hEL hm1 hm2
          refine region_tail_gr 26 _ [Is (.slice adb D.length cb), Is (.int .i64 (n : Int)), Is (.int .u64 (n : Int)), Is (.string (str (Varint.putF n))), Is (.string (str (k.drop n))), Is (.int .i64 ((k.length - n : Nat) : Int)), Is (.int .u64 ((k.length - n : Nat) : Int)), Is (.string (str (Varint.putF (k.length - n)))), Is (.string (str (Varint.putF n ++ Varint.putF (k.length - n)))), Is (.slice (some ⟨bl, off, none⟩) l.length cap), Is (.int .i64 (i : Int)), Is (.pointer (some ⟨bl, off + i * 2, none⟩)), Is (.pointer (some ⟨bl, off + i * 2 + 1, none⟩)), Is (.string (str v)), Is (.int .i64 (v.length : Int)), Is (.int .u64 (v.length : Int)), Is (.string (str (Varint.putF v.length))), Is (.string (str (Varint.putF n ++ (Varint.putF (k.length - n) ++ Varint.putF v.length)))), Is (.string (str (k.drop n))), Is (.string (str (Varint.putF n ++ (Varint.putF (k.length - n) ++ (Varint.putF v.length ++ k.drop n))))), Is (.slice (some ⟨bl, off, none⟩) l.length cap), Is (.int .i64 (i : Int)), Is (.pointer (some ⟨bl, off + i * 2, none⟩)), Is (.pointer (some ⟨bl, off + i * 2 + 1, none⟩)), Is (.string (str v)), Is (.string (str (Varint.putF n ++ (Varint.putF (k.length - n) ++ (Varint.putF v.length ++ (k.drop n ++ v))))))] (by kernel_rfl) (by kernel_rfl) (by kernel_rfl) (by kernel_rfl) rfl rfl ⟨Is.stable _, Is.stable _, Is.stable _, Is.stable _, Is.stable _, Is.stable _, Is.stable _, Is.stable _, Is.stable _, Is.stable _, Is.stable _, Is.stable _, Is.stable _, Is.stable _, Is.stable _, Is.stable _, Is.stable _, Is.stable _, Is.stable _, Is.stable _, Is.stable _, Is.stable _, Is.stable _, Is.stable _, Is.stable _, Is.stable _, trivial⟩ ⟨?s0x2, ?s1x2, ?s2x2, ?s3x2, ?s4x2, ?s5x2, ?s6x2, ?s7x2, ?s8x2, ?s9x2, ?s10x2, ?s11x2, ?s12x2, ?s13x2, ?s14x2, ?s15x2, ?s16x2, ?s17x2, ?s18x2, ?s19x2, ?s20x2, ?s21x2, ?s22x2, ?s23x2, ?s24x2, ?s25x2, trivial⟩ ?finx2
          case' s0x2 | s1x2 | s2x2 | s3x2 | s4x2 | s5x2 | s6x2 | s7x2 | s8x2 | s9x2 | s10x2 | s11x2 | s12x2 | s13x2 | s14x2 | s15x2 | s16x2 | s17x2 | s18x2 | s19x2 | s20x2 | s21x2 | s22x2 | s23x2 | s24x2 | s25x2 =>
            intro ρ wr hρ hg hK
            simp [readsOf, slotsOf, Op.operands, Call.operands, tmpOf, List.filterMap_cons, List.filterMap_nil, KnownAll, knownOf, srcOf, depsOf, dstOf, Region.binds, nth, Is] at hK
            obtain ⟨hc, hf, hgl⟩ := hρ
            try simp only [wantedBy, dstOf, boolOf, nth, List.getD_cons_zero, List.getD_cons_succ, List.getElem?_cons_zero, List.getElem?_cons_succ, Option.bind_some, if_true, hK, BEq.rfl]
            try go_simp
            first | exact rfl | (rw [if_pos (by omega)]; exact is_here rfl) | (rw [dif_pos (by omega)]; exact is_here rfl) | exact congrArg (Value.int _) (IntWalk.i64_in _ ⟨by omega, by omega⟩) | skip
          case s3x2 => exact any_gr (rPut_at _ n _ rfl (by omega))
          case s7x2 => exact any_gr (rPut_at _ (k.length - n) _ rfl (by omega))
          case s16x2 => exact any_gr (rPut_at _ v.length _ rfl (by omega))
          case s8x2 | s17x2 | s19x2 | s25x2 => rw [if_neg (by omega)]; exact is_here rfl
          case s13x2 | s24x2 => have := hg.cell y2; go_simp; exact rfl
          all_goals try exact congrArg (Value.int _) (u64_wrap_nat _ (by omega))
          case finx2 =>
            intro w1 val hg hH
            simp only [Holds, Is, Nat.zero_add, Nat.reduceAdd] at hH
            obtain ⟨h0, h1, h2, h3, h4, h5, h6, h7, h8, h9, h10, h11, h12, h13, h14, h15, h16, h17, h18, h19, h20, h21, h22, h23, h24, h25, _⟩ := hH
            simp only [List.take_succ_cons, List.take_zero, List.drop_succ_cons, List.drop_zero, putAll, h0, h1, h2, h3, h4, h5, h6, h7, h8, h9, h10, h11, h12, h13, h14, h15, h16, h17, h18, h19, h20, h21, h22, h23, h24, h25, Nat.zero_add, Nat.reduceAdd]
            go_simp
            have ob2 := (ob.gr g2).gr hg
            have hb2 : w.heap.size ≤ w1.heap.size := Nat.le_trans hbs (Nat.le_trans g2.size hg.size)
            go_wp2_with (at_builtin; go_must (refine wp_append elemB rfl _ _ rfl rfl ob2 rfl (HS.out _) HM1.out HM2.out hb2 ?_); intro ad5 cap5 w5 o5 k5 f5)
            go_roundw
            case rel =>
              have hL : (dataN itv l (i + 1)).length = D.length + (Varint.putF n ++ (Varint.putF (k.length - n) ++ (Varint.putF v.length ++ (k.drop n ++ v)))).length := by rw [HD.out, HEF2.out, List.length_append]
              refine ⟨i + 1, ad5, cap5, ?_, by rw [HP3.out], by go_num, by omega, ?_, (((HGW.out).trans g2).trans hg).grown k5 (row_from ob2)⟩
              · rw [hL]; simp only [List.length_append, List.length_drop]
              · rw [hL, HD.out, HEF2.out, bv_append]; exact o5
            case measure => simp [intOf]; omega
    · obtain rfl : i = l.length := by omega
      have hdl := dataN_len (itv := itv) HOK.out l.length
      have hpl := placeN_len itv l l.length
      have HBF := Lib.hid (show buildF itv l = dataN itv l l.length ++ (placeN itv l l.length ++ (Varint.bytesN 2 itv ++ Varint.bytesN 4 l.length)) from rfl)
      generalize dataN itv l l.length = D at *
      generalize placeN itv l l.length = Pc at *
      have b2 := Varint.bytesN_len 2 itv
      have b4 := Varint.bytesN_len 4 l.length
      have F2 := Lib.hid (fun w' => rfixed_at (itv : Int) 2 itv 2 w' rfl rfl (by omega) (by omega))
      have F4 := Lib.hid (fun w' => rfixed_at (l.length : Int) 4 l.length 4 w' rfl rfl (by omega) (by omega))
      generalize Varint.bytesN 2 itv = x2 at *
      generalize Varint.bytesN 4 l.length = x4 at *
      go_wp2
      refine region_any_gr _ [Is (.slice adb D.length cb), Is (.string (str D)), Is (.string (str Pc)), Is (.string (str (D ++ Pc))), Is (.int .i64 (itv : Int)), Is (.string (str x2)), Is (.string (str (D ++ (Pc ++ x2)))), Is (.slice ad l.length cap), Is (.int .i64 (l.length : Int)), Is (.string (str x4)), Is (.string (str (D ++ (Pc ++ (x2 ++ x4))))), Is ?r11x3, Is ?r12x3] (by kernel_rfl) (by kernel_rfl) (by kernel_rfl) rfl rfl ⟨Is.stable _, Is.stable _, Is.stable _, Is.stable _, Is.stable _, Is.stable _, Is.stable _, Is.stable _, Is.stable _, Is.stable _, Is.stable _, Is.stable _, Is.stable _, trivial⟩ ⟨?s0x3, ?s1x3, ?s2x3, ?s3x3, ?s4x3, ?s5x3, ?s6x3, ?s7x3, ?s8x3, ?s9x3, ?s10x3, ?s11x3, ?s12x3, trivial⟩ ?finx3
      case' s0x3 | s1x3 | s2x3 | s3x3 | s4x3 | s5x3 | s6x3 | s7x3 | s8x3 | s9x3 | s10x3 | s11x3 | s12x3 =>
        intro ρ wr hρ hg hK
        simp [readsOf, slotsOf, Op.operands, Call.operands, tmpOf, List.filterMap_cons, List.filterMap_nil, KnownAll, knownOf, srcOf, depsOf, dstOf, Region.binds, nth, Is] at hK
        obtain ⟨hc, hf, hgl⟩ := hρ
        try simp only [wantedBy, dstOf, boolOf, nth, List.getD_cons_zero, List.getD_cons_succ, List.getElem?_cons_zero, List.getElem?_cons_succ, Option.bind_some, if_true, hK, BEq.rfl]
        try go_simp
        first | exact rfl | (rw [if_pos (by omega)]; exact is_here rfl) | (rw [dif_pos (by omega)]; exact is_here rfl) | exact congrArg (Value.int _) (IntWalk.i64_in _ ⟨by omega, by omega⟩) | skip
      case s1x3 =>
        have hs := run_string (P := Tryz.prog) Tryz.underlying27 Tryz.underlying5 Tryz.underlying9 (cap := cb) (l := D) (len := D.length) rfl (ob.gr hg).bytes
        go_simp
        exact rfl
      case s5x3 => exact any_gr (F2.out _)
      case s9x3 => exact any_gr (F4.out _)
      case s3x3 | s6x3 | s10x3 => rw [if_neg (by omega)]; exact is_here rfl
      case finx3 =>
        intro w1 val hg hH
        simp only [Holds, Is, Nat.zero_add, Nat.reduceAdd] at hH
        obtain ⟨h0, h1, h2, h3, h4, h5, h6, h7, h8, h9, h10, h11, h12, _⟩ := hH
        simp only [List.take_succ_cons, List.take_zero, List.drop_succ_cons, List.drop_zero, putAll, h0, h1, h2, h3, h4, h5, h6, h7, h8, h9, h10, h11, h12, Nat.zero_add, Nat.reduceAdd]
        go_simp
        go_wp2
        go_ret2
        exact ⟨by rw [HBF.out]; rfl, (HGW.out).trans hg⟩
end Go.Proofs.YtlfbelocdpboeaaGreatDoor
/- Layer 13 (block): BlockBack answers true. -/
namespace Go.Proofs.YtlfbelocdpboeaaGreatDoor.Bk
set_option linter.unusedVariables false
set_option linter.unusedSimpArgs false
open Varint
theorem build_tail (itv : Nat) (l : List Pr) : (buildF itv l).length = (dataN itv l l.length).length + (placeN itv l l.length).length + 6 ∧ (buildF itv l).drop ((buildF itv l).length - 6) = bytesN 2 itv ++ bytesN 4 l.length := by
  have b2 := bytesN_len 2 itv
  have b4 := bytesN_len 4 l.length
  have hlen : (buildF itv l).length = (dataN itv l l.length).length + (placeN itv l l.length).length + 6 := by unfold buildF; simp only [List.length_append, b2, b4]; omega
  refine ⟨hlen, ?_⟩
  rw [hlen, Nat.add_sub_cancel]
  unfold buildF
  rw [← List.append_assoc, ← List.length_append, List.drop_left]
theorem parts_none {b : List UInt8} (h : ∀ h6 : 6 ≤ b.length, le ((b.drop (b.length - 6)).take 2) < 1 ∨ 64 < le ((b.drop (b.length - 6)).take 2)) : pairsF b = ([], 2) := by
  have hp : partsF b = none := by
    unfold partsF
    by_cases h6 : b.length < 6
    · rw [if_pos h6]
    · rw [if_neg h6]
      simp only
      rw [if_pos (by have := h (by omega); omega)]
  unfold pairsF
  rw [hp]
theorem pairs_more {itv : Nat} {l : List Pr} (h2 : itv ≤ 64) : pairsF (buildF itv l ++ [0]) = ([], 2) := by
  apply parts_none
  intro _
  obtain ⟨hl, ht⟩ := build_tail itv l
  have e : (buildF itv l ++ [0]).drop ((buildF itv l ++ [0]).length - 6) = (bytesN 2 itv ++ bytesN 4 l.length).drop 1 ++ [0] := by
    have e9 : (buildF itv l ++ [(0 : UInt8)]).length - 6 = (buildF itv l).length - 6 + 1 := by rw [List.length_append]; simp only [List.length_cons, List.length_nil]; omega
    rw [← ht, List.drop_drop, e9, List.drop_append_of_le_length (show (buildF itv l).length - 6 + 1 ≤ (buildF itv l).length by omega)]
  rw [e]
  simp only [bytesN, List.cons_append, List.nil_append, List.drop_succ_cons, List.drop_zero, List.take_succ_cons, List.take_zero, le, UInt8.toNat_ofNat']
  omega
theorem pairs_less {itv : Nat} {l : List Pr} (h1 : 1 ≤ itv) (h2 : itv ≤ 64) : pairsF ((buildF itv l).take ((buildF itv l).length - 1)) = ([], 2) := by
  apply parts_none
  intro h6
  obtain ⟨hl, ht⟩ := build_tail itv l
  have hn : ((buildF itv l).take ((buildF itv l).length - 1)).length = (buildF itv l).length - 1 := by simp
  rw [hn] at h6
  have h7 : (buildF itv l).length - 7 < (buildF itv l).length := by omega
  have e : ((buildF itv l).take ((buildF itv l).length - 1)).drop (((buildF itv l).take ((buildF itv l).length - 1)).length - 6) = ((buildF itv l)[(buildF itv l).length - 7] :: (bytesN 2 itv ++ bytesN 4 l.length)).take 6 := by
    rw [hn, List.drop_take, show (buildF itv l).length - 1 - 6 = (buildF itv l).length - 7 by omega, show (buildF itv l).length - 1 - ((buildF itv l).length - 7) = 6 by omega, List.drop_eq_getElem_cons h7, show (buildF itv l).length - 7 + 1 = (buildF itv l).length - 6 by omega, ht]
  rw [e]
  generalize (buildF itv l)[(buildF itv l).length - 7] = z
  simp only [bytesN, List.cons_append, List.nil_append, List.take_succ_cons, List.take_zero, le, UInt8.toNat_ofNat']
  omega
end Go.Proofs.YtlfbelocdpboeaaGreatDoor.Bk
namespace Go.Proofs.YtlfbelocdpboeaaGreatDoor
set_option linter.unusedVariables false
set_option linter.unusedSimpArgs false
open Go.RowKit Bk
end Go.Proofs.YtlfbelocdpboeaaGreatDoor
/- Layer 13 (block): the reference's DocPairs. -/
namespace Go.Proofs.YtlfbelocdpboeaaGreatDoor.Bk
set_option linter.unusedVariables false
set_option linter.unusedSimpArgs false
open Varint
theorem dec_tail {itv : Nat} {l : List Pr} (h : okLens l) (T : List UInt8) : ∀ k i, i + k = l.length → decN (dataN itv l l.length ++ T) k (dataN itv l i).length (keyAt l i) = some (l.drop i)
  | 0, i, hi => by rw [decN, List.drop_of_length_le (by omega)]
  | k + 1, i, hi => by
    obtain ⟨q, hq⟩ := dataN_prefix itv l (i + 1) k
    rw [show i + 1 + k = l.length by omega] at hq
    have hd : dataN itv l l.length ++ T = dataN itv l i ++ (entF (nAt itv l i) (l.getD i noPr) ++ (q ++ T)) := by rw [hq, dataN]; simp only [List.append_assoc]
    have a := h i
    obtain ⟨b1, b2⟩ := nAt_key itv l i
    have hkl : (keyAt l i).length ≤ 200 := by unfold keyAt; split; · simp
                                              · exact (h _).1
    have he := entry_at (p := dataN itv l i) (q := q ++ T) b1 (nAt_le itv l i) a.1 a.2 b2 hkl
    rw [decN, hd, he]
    simp only
    have ih := dec_tail (itv := itv) h T k (i + 1) (by omega)
    have hk : keyAt l (i + 1) = (l.getD i noPr).1 := by unfold keyAt; rw [if_neg (by omega), Nat.add_sub_cancel]
    have hl : (dataN itv l (i + 1)).length = (dataN itv l i).length + (entF (nAt itv l i) (l.getD i noPr)).length := by rw [dataN, List.length_append]
    rw [hk, hl, hd] at ih
    rw [ih]
    have hlt : i < l.length := by omega
    rw [List.drop_eq_getElem_cons hlt, List.getD_eq_getElem?_getD, List.getElem?_eq_getElem hlt]
    rfl
/-- the reference's: what the bytes seem to tell, if it has just these -/
def rpairsF (b : List UInt8) : List Pr × Nat :=
  if b.length < 6 then ([], 2)
  else if 10000 < le (b.drop (b.length - 4)) then ([], 2)
  else match decN b (le (b.drop (b.length - 4))) 0 [] with
    | none => ([], 2)
    | some l => if chkF l (le ((b.drop (b.length - 6)).take 2) : Nat) = 0 ∧ buildF (le ((b.drop (b.length - 6)).take 2)) l = b then (l, 0) else ([], 2)
theorem parts_vals {b d : List UInt8} {w c : Nat} (h : partsF b = some (d, w, c)) : 6 ≤ b.length ∧ c ≤ 10000 ∧ w = le ((b.drop (b.length - 6)).take 2) ∧ c = le (b.drop (b.length - 4)) := by
  unfold partsF at h
  split at h
  · cases h
  · simp only at h
    split at h
    · cases h
    · split at h
      · cases h
      · simp only [Option.some.injEq, Prod.mk.injEq] at h
        obtain ⟨_, rfl, rfl⟩ := h
        exact ⟨by omega, by omega, rfl, rfl⟩
theorem chkF_itv {l : List Pr} {a : Int} (h : chkF l a = 0) : 1 ≤ a ∧ a ≤ 64 := by
  unfold chkF at h
  split at h
  · cases h
  · omega
theorem rpairs_eq (b : List UInt8) : rpairsF b = pairsF b := by
  rcases pairs_err b with hp | hp
  · obtain ⟨P, hP⟩ : ∃ P, pairsF b = (P, 0) := ⟨(pairsF b).1, by rw [← hp]⟩
    obtain ⟨w, h1, h2, h3, h4⟩ := pairs_some hP
    have hok := chkF_ok h3
    obtain ⟨v1, v2, v3, v4⟩ := parts_vals (h4 ▸ parts_build h1 h2 hok.2.1)
    have hd := dec_tail (itv := w) hok.1 (placeN w P P.length ++ (bytesN 2 w ++ bytesN 4 P.length)) P.length 0 (by omega)
    rw [show dataN w P P.length ++ (placeN w P P.length ++ (bytesN 2 w ++ bytesN 4 P.length)) = b from h4] at hd
    simp only [dataN, List.length_nil, keyAt, if_true, List.drop_zero] at hd
    unfold rpairsF
    rw [← v3, ← v4, if_neg (by omega), if_neg (by omega), hd, hP]
    simp only
    rw [if_pos ⟨h3, h4⟩]
  · rw [hp]
    unfold rpairsF
    split
    · rfl
    · split
      · rfl
      · split
        · rfl
        · rename_i l _
          split
          · rename_i hh
            have hok := chkF_ok hh.1
            have hi := chkF_itv hh.1
            have := pairs_build (itv := le ((b.drop (b.length - 6)).take 2)) (l := l) (by omega) (by omega) hok.2.1 hok.1 hh.1
            rw [hh.2, hp] at this
            cases this
          · rfl
end Go.Proofs.YtlfbelocdpboeaaGreatDoor.Bk
namespace Go.Proofs.YtlfbelocdpboeaaGreatDoor
set_option linter.unusedVariables false
set_option linter.unusedSimpArgs false
open Go.RowKit Bk
theorem rGet_at (l : List UInt8) (n k e : Nat) (w : World) (hg : Varint.getF l = (n, k, e)) (hm : l.length ≤ maxLen) :
    Calls Tryz.prog 29 #[.string (str l)] w fun r w' => r = .returned (.tuple #[.int .u64 (n : Int), .int .i64 (k : Int), .int .i64 (e : Int)]) ∧ w = w' := by
  have h := rGet_any (str l) w (by rw [str_size]; exact hm)
  rw [show (str l).data.toList = l by simp [str], hg] at h
  exact h
theorem rWhole_at (l : List UInt8) (n : Nat) (w : World) (hn : Varint.le l = n) (hm : l.length ≤ 8) :
    Calls Tryz.prog 62 #[.string (str l)] w fun r w' => r = .returned (.tuple #[.int .u64 (n : Int), .int .i64 0]) ∧ w = w' := by
  have h := rWhole_any (str l) w (by rw [str_size]; unfold maxLen; omega)
  rw [show (str l).data.toList = l by simp [str], show Varint.wholeF l = (n, 0) by unfold Varint.wholeF; rw [if_neg (by omega), hn]] at h
  exact h
theorem rDocBuild_at (ad : Option Addr) (n cap : Nat) (l : List Pr) (itv : Nat) (w : World) (c : Nat) (out : List UInt8) (hn : n = l.length) (hr : Row w ad (pv l)) (hl : l.length ≤ 10000) (hc : chkF l (itv : Int) = c) (ho : (if c = 0 then buildF itv l else []) = out) :
    Calls Tryz.prog 43 #[.slice ad n cap, .int .i64 (itv : Int)] w fun e w' => e = .returned (.tuple #[.string (str out), .int .i64 (c : Int)]) ∧ Gr w w' := by
  subst hn ho
  by_cases h0 : c = 0
  · subst h0
    have hi : 1 ≤ itv ∧ itv ≤ 64 := by
      unfold chkF at hc
      split at hc
      · cases hc
      · omega
    rw [if_pos rfl]
    exact rDocBuild_ok ad cap l itv w hr hi.1 hi.2 hl hc
  · rw [if_neg h0]
    subst hc
    exact rDocBuild_bad ad cap l (itv : Int) w hr (by omega) h0
set_option maxRecDepth 100000 in
set_option maxHeartbeats 4000000 in
theorem rDocPairs_any (b : List UInt8) (w : World) (hl : b.length ≤ 1000000000) :
    Calls Tryz.prog 28 #[.string (str b)] w (RetPE w (rpairsF b).1 (rpairsF b).2) := by
  by_cases h6 : b.length < 6
  · have HN := Lib.hid (show rpairsF b = ([], 2) by unfold rpairsF; rw [if_pos h6])
    go_enter Tryz.func28, Tryz.ntmps28
    go_wp2
    go_ret2
    rw [HN.out]
    exact ⟨none, 0, rfl, Owns.empty _ _ _ _, Gr.refl _⟩
  · have h6' : 6 ≤ b.length := by omega
    have e1 : (b.length : Int) - 6 = ((b.length - 6 : Nat) : Int) := by omega
    have e2 : (b.length : Int) - 4 = ((b.length - 4 : Nat) : Int) := by omega
    have e3 : b.length - 4 - (b.length - 6) = 2 := by omega
    have hll : (b.drop (b.length - 4)).length ≤ 8 := by rw [List.length_drop]; omega
    have hlw : ((b.drop (b.length - 6)).take 2).length ≤ 8 := by rw [List.length_take]; omega
    obtain ⟨itv, hitv⟩ : ∃ itv, Varint.le ((b.drop (b.length - 6)).take 2) = itv := ⟨_, rfl⟩
    obtain ⟨c, hc⟩ : ∃ c, Varint.le (b.drop (b.length - 4)) = c := ⟨_, rfl⟩
    have hib : itv < 65536 := by have := Varint.le_lt ((b.drop (b.length - 6)).take 2); rw [hitv, List.length_take, List.length_drop] at this; exact Nat.lt_of_lt_of_le this (Nat.pow_le_pow_right (by decide) (by omega : _ ≤ 2))
    have hcb : c < 4294967296 := by have := Varint.le_lt (b.drop (b.length - 4)); rw [hc, List.length_drop] at this; exact Nat.lt_of_lt_of_le this (Nat.pow_le_pow_right (by decide) (by omega : _ ≤ 4))
    have HW1 := Lib.hid (fun w => rWhole_at _ itv w hitv hlw)
    have HW2 := Lib.hid (fun w => rWhole_at _ c w hc hll)
    have HR0 := Lib.hid (show rpairsF b = if 10000 < c then ([], 2) else match decN b c 0 [] with
      | none => ([], 2)
      | some l => if chkF l (itv : Nat) = 0 ∧ buildF itv l = b then (l, 0) else ([], 2) by unfold rpairsF; rw [if_neg h6, hc, hitv])
    clear h6 hll hlw hitv hc
    have T1 : RowKit.Hid True := trivial
    by_cases hcc : 10000 < c
    · have HN := Lib.hid (HR0.out.trans (if_pos hcc))
      clear HR0
      go_enter Tryz.func28, Tryz.ntmps28
      go_wp2_with (first
        | (clear T1; go_at_call 62; (with_reducible refine (HW1.out _).mono ?_); rintro e w1 ⟨rfl, rfl⟩)
        | (go_at_call 62; (with_reducible refine (HW2.out _).mono ?_); rintro e w2 ⟨rfl, rfl⟩)
        | fail)
      go_ret2
      rw [HN.out]
      exact ⟨none, 0, rfl, Owns.empty _ _ _ _, Gr.refl _⟩
    · have HR := Lib.hid (HR0.out.trans (if_neg hcc))
      have hcc : c ≤ 10000 := by omega
      clear HR0
      go_enter Tryz.func28, Tryz.ntmps28
      go_wp2_with (first
        | (clear T1; go_at_call 62; (with_reducible refine (HW1.out _).mono ?_); rintro e w1 ⟨rfl, rfl⟩)
        | (go_at_call 62; (with_reducible refine (HW2.out _).mono ?_); rintro e w2 ⟨rfl, rfl⟩)
        | fail)
      clear HW1 HW2
      go_loopw [8, 9, 10, 11] (fun vo va vk vi wr => ∃ (i a : Nat) (key : List UInt8) (P : List Pr) (adO : Option Addr) (cO : Nat), i ≤ c ∧ P.length = i ∧ vo = .slice adO i cO ∧ va = .int .i64 (a : Int) ∧ vk = .string (str key) ∧ vi = .int .i64 (i : Int) ∧ a ≤ b.length ∧ key.length ≤ 200 * i ∧
        Owns wr w.heap.size 72 2 adO cO i (pv P) ∧ Gr w wr ∧ decN b c 0 [] = (decN b (c - i) a key).map (P ++ ·)) (fun _ _ _ vi _ => c - (intOf vi).toNat)
      case atStart => exact ⟨0, 0, [], [], none, 0, Nat.zero_le _, rfl, rfl, rfl, rfl, rfl, Nat.zero_le _, Nat.zero_le _, Owns.empty _ _ _ _, Gr.refl _, by cases decN b c 0 [] <;> rfl⟩
      case round =>
        obtain ⟨i, a, key, P, adO, cO, hic, hPl, rfl, rfl, rfl, rfl, ha, hk, oO, hg1, hdec⟩ := hrel
        have HDEC := Lib.hid hdec; clear hdec
        have HPL := Lib.hid hPl; clear hPl
        have hbs := hg1.size
        by_cases hlt : i < c
        · have HST := Lib.hid (show decN b (c - i) a key = match entryF b a key with | none => none | some (p, t) => (decN b (c - (i + 1)) t p.1).map (p :: ·) by
            rw [show c - i = (c - (i + 1)) + 1 by omega, decN]
            cases entryF b a key <;> rfl)
          obtain ⟨n0, k0, e0, g0, hn0, ha1⟩ := get_parts b a ha
          obtain ⟨a1, ha1e⟩ : ∃ a1, a1 = a + k0 := ⟨_, rfl⟩
          obtain ⟨n1, k1, e1, g1, hn1, ha2⟩ := get_parts b a1 (by omega)
          obtain ⟨a2, ha2e⟩ : ∃ a2, a2 = a1 + k1 := ⟨_, rfl⟩
          obtain ⟨n2, k2, e2, g2, hn2, ha3⟩ := get_parts b a2 (by omega)
          obtain ⟨t, hte⟩ : ∃ t, t = a2 + k2 := ⟨_, rfl⟩
          have HE := Lib.hid (show entryF b a key = if e0 ≠ 0 then none else if e1 ≠ 0 then none else if e2 ≠ 0 then none else if key.length < n0 ∨ 200 < n1 ∨ 2000 < n2 ∨ b.length - t < n1 + n2 then none else
              some ((key.take n0 ++ (b.drop t).take n1, (b.drop (t + n1)).take n2), t + n1 + n2) by
            unfold entryF; simp only [g0, ← ha1e, g1, ← ha2e, g2, ← hte])
          have HG0 := Lib.hid (fun w' => rGet_at (b.drop a) n0 k0 e0 w' g0 (by rw [List.length_drop]; unfold maxLen; omega))
          have HG1 := Lib.hid (fun w' => rGet_at (b.drop a1) n1 k1 e1 w' g1 (by rw [List.length_drop]; unfold maxLen; omega))
          have HG2 := Lib.hid (fun w' => rGet_at (b.drop a2) n2 k2 e2 w' g2 (by rw [List.length_drop]; unfold maxLen; omega))
          have hx1 : (a : Int) + (k0 : Int) = (a1 : Int) := by omega
          have hx2 : (a1 : Int) + (k1 : Int) = (a2 : Int) := by omega
          have hx3 : (a2 : Int) + (k2 : Int) = (t : Int) := by omega
          have htl : t ≤ b.length := by omega
          have ht1 : a1 ≤ b.length := by omega
          have ht2 : a2 ≤ b.length := by omega
          have hm1 : min (a1 : Int) (b.length : Int) = (a1 : Int) := by omega
          have hm2 : min (a2 : Int) (b.length : Int) = (a2 : Int) := by omega
          clear g0 g1 g2 ha1e ha2e hte ha1 ha2 ha3
          have T2 : RowKit.Hid True := trivial
          have T3 : RowKit.Hid True := trivial
          by_cases hbad : e0 ≠ 0 ∨ e1 ≠ 0 ∨ e2 ≠ 0 ∨ key.length < n0 ∨ 200 < n1 ∨ 2000 < n2 ∨ b.length < n1 + n2 + t
          · have HN := Lib.hid (show rpairsF b = ([], 2) by
              have he : entryF b a key = none := by
                rw [HE.out]
                split
                · rfl
                · split
                  · rfl
                  · split
                    · rfl
                    · rw [if_pos (by omega)]
              rw [HR.out, HDEC.out, HST.out, he]; rfl)
            clear HR HDEC HST HE
            have hb7 : e0 ≠ 0 ∨ (e0 = 0 ∧ e1 ≠ 0) ∨ (e0 = 0 ∧ e1 = 0 ∧ e2 ≠ 0) ∨ (e0 = 0 ∧ e1 = 0 ∧ e2 = 0 ∧ key.length < n0) ∨ (e0 = 0 ∧ e1 = 0 ∧ e2 = 0 ∧ n0 ≤ key.length ∧ 200 < n1) ∨ (e0 = 0 ∧ e1 = 0 ∧ e2 = 0 ∧ n0 ≤ key.length ∧ n1 ≤ 200 ∧ 2000 < n2) ∨ (e0 = 0 ∧ e1 = 0 ∧ e2 = 0 ∧ n0 ≤ key.length ∧ n1 ≤ 200 ∧ n2 ≤ 2000 ∧ b.length < n1 + n2 + t) := by omega
            clear hbad
            rcases hb7 with u0 | ⟨u0, u1⟩ | ⟨u0, u1, u2⟩ | ⟨u0, u1, u2, hb4⟩ | ⟨u0, u1, u2, hb4, hb5⟩ | ⟨u0, u1, u2, hb4, hb5, hb6⟩ | ⟨u0, u1, u2, hb4, hb5, hb6, hb7⟩
            · have z0 : ((e0 : Int) != 0) = true := by rw [bne_iff_ne]; omega
              clear u0
              go_wp2_with (first
                | (clear T2; go_at_call 29; (with_reducible refine (HG0.out _).mono ?_); rintro e w1 ⟨rfl, rfl⟩)
                | (clear T3; go_at_call 29; (with_reducible refine (HG1.out _).mono ?_); rintro e w2 ⟨rfl, rfl⟩)
                | (go_at_call 29; (with_reducible refine (HG2.out _).mono ?_); rintro e w2 ⟨rfl, rfl⟩)
                | fail)
              go_ret2
              rw [HN.out]
              exact ⟨none, 0, rfl, Owns.empty _ _ _ _, hg1⟩
            · have z0 : ((e0 : Int) != 0) = false := by rw [bne_eq_false_iff_eq]; omega
              have z1 : ((e1 : Int) != 0) = true := by rw [bne_iff_ne]; omega
              clear u0 u1
              go_wp2_with (first
                | (clear T2; go_at_call 29; (with_reducible refine (HG0.out _).mono ?_); rintro e w1 ⟨rfl, rfl⟩)
                | (clear T3; go_at_call 29; (with_reducible refine (HG1.out _).mono ?_); rintro e w2 ⟨rfl, rfl⟩)
                | (go_at_call 29; (with_reducible refine (HG2.out _).mono ?_); rintro e w2 ⟨rfl, rfl⟩)
                | fail)
              go_ret2
              rw [HN.out]
              exact ⟨none, 0, rfl, Owns.empty _ _ _ _, hg1⟩
            · have z0 : ((e0 : Int) != 0) = false := by rw [bne_eq_false_iff_eq]; omega
              have z1 : ((e1 : Int) != 0) = false := by rw [bne_eq_false_iff_eq]; omega
              have z2 : ((e2 : Int) != 0) = true := by rw [bne_iff_ne]; omega
              clear u0 u1 u2
              go_wp2_with (first
                | (clear T2; go_at_call 29; (with_reducible refine (HG0.out _).mono ?_); rintro e w1 ⟨rfl, rfl⟩)
                | (clear T3; go_at_call 29; (with_reducible refine (HG1.out _).mono ?_); rintro e w2 ⟨rfl, rfl⟩)
                | (go_at_call 29; (with_reducible refine (HG2.out _).mono ?_); rintro e w2 ⟨rfl, rfl⟩)
                | fail)
              go_ret2
              rw [HN.out]
              exact ⟨none, 0, rfl, Owns.empty _ _ _ _, hg1⟩
            · have z0 : ((e0 : Int) != 0) = false := by rw [bne_eq_false_iff_eq]; omega
              have z1 : ((e1 : Int) != 0) = false := by rw [bne_eq_false_iff_eq]; omega
              have z2 : ((e2 : Int) != 0) = false := by rw [bne_eq_false_iff_eq]; omega
              clear u0 u1 u2
              go_wp2_with (first
                | (clear T2; go_at_call 29; (with_reducible refine (HG0.out _).mono ?_); rintro e w1 ⟨rfl, rfl⟩)
                | (clear T3; go_at_call 29; (with_reducible refine (HG1.out _).mono ?_); rintro e w2 ⟨rfl, rfl⟩)
                | (go_at_call 29; (with_reducible refine (HG2.out _).mono ?_); rintro e w2 ⟨rfl, rfl⟩)
                | fail)
              go_ret2
              rw [HN.out]
              exact ⟨none, 0, rfl, Owns.empty _ _ _ _, hg1⟩
            · have z0 : ((e0 : Int) != 0) = false := by rw [bne_eq_false_iff_eq]; omega
              have z1 : ((e1 : Int) != 0) = false := by rw [bne_eq_false_iff_eq]; omega
              have z2 : ((e2 : Int) != 0) = false := by rw [bne_eq_false_iff_eq]; omega
              clear u0 u1 u2
              go_wp2_with (first
                | (clear T2; go_at_call 29; (with_reducible refine (HG0.out _).mono ?_); rintro e w1 ⟨rfl, rfl⟩)
                | (clear T3; go_at_call 29; (with_reducible refine (HG1.out _).mono ?_); rintro e w2 ⟨rfl, rfl⟩)
                | (go_at_call 29; (with_reducible refine (HG2.out _).mono ?_); rintro e w2 ⟨rfl, rfl⟩)
                | fail)
              go_ret2
              rw [HN.out]
              exact ⟨none, 0, rfl, Owns.empty _ _ _ _, hg1⟩
            · have z0 : ((e0 : Int) != 0) = false := by rw [bne_eq_false_iff_eq]; omega
              have z1 : ((e1 : Int) != 0) = false := by rw [bne_eq_false_iff_eq]; omega
              have z2 : ((e2 : Int) != 0) = false := by rw [bne_eq_false_iff_eq]; omega
              clear u0 u1 u2
              go_wp2_with (first
                | (clear T2; go_at_call 29; (with_reducible refine (HG0.out _).mono ?_); rintro e w1 ⟨rfl, rfl⟩)
                | (clear T3; go_at_call 29; (with_reducible refine (HG1.out _).mono ?_); rintro e w2 ⟨rfl, rfl⟩)
                | (go_at_call 29; (with_reducible refine (HG2.out _).mono ?_); rintro e w2 ⟨rfl, rfl⟩)
                | fail)
              go_ret2
              rw [HN.out]
              exact ⟨none, 0, rfl, Owns.empty _ _ _ _, hg1⟩
            · have z0 : ((e0 : Int) != 0) = false := by rw [bne_eq_false_iff_eq]; omega
              have z1 : ((e1 : Int) != 0) = false := by rw [bne_eq_false_iff_eq]; omega
              have z2 : ((e2 : Int) != 0) = false := by rw [bne_eq_false_iff_eq]; omega
              clear u0 u1 u2
              go_wp2_with (first
                | (clear T2; go_at_call 29; (with_reducible refine (HG0.out _).mono ?_); rintro e w1 ⟨rfl, rfl⟩)
                | (clear T3; go_at_call 29; (with_reducible refine (HG1.out _).mono ?_); rintro e w2 ⟨rfl, rfl⟩)
                | (go_at_call 29; (with_reducible refine (HG2.out _).mono ?_); rintro e w2 ⟨rfl, rfl⟩)
                | fail)
              go_ret2
              rw [HN.out]
              exact ⟨none, 0, rfl, Owns.empty _ _ _ _, hg1⟩
          · obtain ⟨u0, u1, u2, y0, y1, y2, y3⟩ : e0 = 0 ∧ e1 = 0 ∧ e2 = 0 ∧ n0 ≤ key.length ∧ n1 ≤ 200 ∧ n2 ≤ 2000 ∧ n1 + n2 + t ≤ b.length := by omega
            have HN := Lib.hid (show decN b c 0 [] = (decN b (c - (i + 1)) (t + n1 + n2) (key.take n0 ++ (b.drop t).take n1)).map ((P ++ [(key.take n0 ++ (b.drop t).take n1, (b.drop (t + n1)).take n2)]) ++ ·) by
              rw [HDEC.out, HST.out, HE.out, if_neg (by omega), if_neg (by omega), if_neg (by omega), if_neg (by omega)]
              simp only
              cases decN b (c - (i + 1)) (t + n1 + n2) (key.take n0 ++ (b.drop t).take n1) <;> simp)
            clear hbad HDEC HST HE
            have z0 : ((e0 : Int) != 0) = false := by rw [bne_eq_false_iff_eq]; omega
            have z1 : ((e1 : Int) != 0) = false := by rw [bne_eq_false_iff_eq]; omega
            have z2 : ((e2 : Int) != 0) = false := by rw [bne_eq_false_iff_eq]; omega
            clear u0 u1 u2
            go_wp2_with (first
              | (clear T2; go_at_call 29; (with_reducible refine (HG0.out _).mono ?_); rintro e w1 ⟨rfl, rfl⟩)
              | (clear T3; go_at_call 29; (with_reducible refine (HG1.out _).mono ?_); rintro e w2 ⟨rfl, rfl⟩)
              | (go_at_call 29; (with_reducible refine (HG2.out _).mono ?_); rintro e w2 ⟨rfl, rfl⟩)
              | fail)
            have hks : (key.take n0 ++ (b.drop t).take n1).length ≤ 200 * (i + 1) := by simp only [List.length_append, List.length_take, List.length_drop]; omega
            have htk : (key.take n0).length = n0 := by simp; omega
            have hdk : ((b.drop t).take n1).length = n1 := by simp; omega
            have HKS := Lib.hid hks
            have HTK := Lib.hid htk
            have HDK := Lib.hid hdk
            clear hks htk hdk
            refine region_any_gr _ [Is ?r0, Is ?r1, Is (.string (str (key.take n0))), Is ?r3, Is ?r4, Is ?r5, Is ?r6, Is (.int .i64 (n1 : Int)), Is (.int .i64 ((t : Int) + (n1 : Int))), Is (.string (str ((b.drop t).take n1))), Is (.string (str (key.take n0 ++ (b.drop t).take n1))), Is ?r11] (by kernel_rfl) (by kernel_rfl) (by kernel_rfl) rfl rfl ⟨Is.stable _, Is.stable _, Is.stable _, Is.stable _, Is.stable _, Is.stable _, Is.stable _, Is.stable _, Is.stable _, Is.stable _, Is.stable _, Is.stable _, trivial⟩ ⟨?s0, ?s1, ?s2, ?s3, ?s4, ?s5, ?s6, ?s7, ?s8, ?s9, ?s10, ?s11, trivial⟩ ?fin
            case' s0 | s1 | s2 | s3 | s4 | s5 | s6 | s7 | s8 | s9 | s10 | s11 =>
              intro ρ wr hρ hg hK
              simp [readsOf, slotsOf, Op.operands, Call.operands, tmpOf, List.filterMap_cons, List.filterMap_nil, KnownAll, knownOf, srcOf, depsOf, dstOf, Region.binds, nth, Is] at hK
              obtain ⟨hc, hf, hgl⟩ := hρ
              try simp only [wantedBy, dstOf, boolOf, nth, List.getD_cons_zero, List.getD_cons_succ, List.getElem?_cons_zero, List.getElem?_cons_succ, Option.bind_some, if_true, hK, BEq.rfl]
              try go_simp
              first | exact rfl | (rw [if_pos (by omega)]; exact is_here rfl) | (rw [dif_pos (by omega)]; exact is_here rfl) | exact congrArg (Value.int _) (IntWalk.i64_in _ ⟨by omega, by omega⟩) | skip
            case s9 =>
              rw [if_pos ⟨by omega, by omega⟩, if_pos (by omega), show ((t : Int) + (n1 : Int)).toNat - t = n1 by omega]
              exact is_here rfl
            case s10 =>
              rw [if_neg (by omega)]
              exact is_here rfl
            case fin =>
              intro w1 val hg hH
              simp only [Holds, Is, Nat.zero_add, Nat.reduceAdd] at hH
              obtain ⟨h0, h1, h2, h3, h4, h5, h6, h7, h8, h9, h10, h11, _⟩ := hH
              simp only [List.take_succ_cons, List.take_zero, List.drop_succ_cons, List.drop_zero, putAll, h0, h1, h2, h3, h4, h5, h6, h7, h8, h9, h10, h11, Nat.zero_add, Nat.reduceAdd]
              go_simp
              generalize hkd : key.take n0 ++ (b.drop t).take n1 = K at *
              have HKD := Lib.hid hkd; clear hkd
              have hsl : ((b.drop (t + n1)).take n2).length = n2 := by simp; omega
              have e9 : ((t : Int) + (n1 : Int) + (n2 : Int)).toNat - (t + n1) = n2 := by omega
              have e8 : ((t : Int) + (n1 : Int)).toNat = t + n1 := by omega
              have hbs2 : w.heap.size ≤ w1.heap.size := Nat.le_trans hbs hg.size
              have oO2 := oO.gr hg
              have HRF := row_from oO2
              have m1 : i + 1 ≤ maxLen := by unfold maxLen; omega
              have m2 : (i + 1) * 32 ≤ 140737488355328 := by omega
              have HS := Lib.hid (fun w' g (hg' : w'.heap[g]? = some (.cells #[.string (str K), .string (str ((b.drop (t + n1)).take n2))] 72 (0, 0))) => (show OneB [.string (str K), .string (str ((b.drop (t + n1)).take n2))] (.slice (some ⟨g, 0, none⟩) 1 1) w' from ⟨g, _, _, rfl, hg'⟩).src (P := Tryz.prog) rfl (pv_one [(K, (b.drop (t + n1)).take n2)]) Tryz.underlying65)
              go_wp2_with (at_builtin; go_must (refine wp_append elemP rfl _ _ rfl rfl (oO2.gr (Gr.alloc _ _)) rfl (HS.out _ _ (heap_alloc_new _ _)) m1 m2 (Nat.le_trans hbs2 (Gr.alloc _ _).size) ?_); intro ad5 cap5 w5 o5 k5 f5)
              go_roundw
              case rel =>
                exact ⟨i + 1, t + n1 + n2, K, P ++ [(K, (b.drop (t + n1)).take n2)], ad5, cap5, hlt, by rw [List.length_append, HPL.out]; rfl, rfl, by go_num, rfl, by go_num, by omega, HKS.out, by rw [pv_append]; exact o5, ((hg1.trans hg).trans (Gr.alloc _ _)).grown k5 HRF, HN.out⟩
              case measure => simp [intOf]; omega
        · obtain rfl : i = c := by omega
          have HD2 := Lib.hid (show decN b i 0 [] = some P by rw [HDEC.out, Nat.sub_self, decN]; simp)
          have HBU := Lib.hid (rDocBuild_at adO i cO P itv wr (chkF P (itv : Int)) (if chkF P (itv : Int) = 0 then buildF itv P else []) HPL.out.symm oO.row (by have := HPL.out; omega) rfl rfl)
          have HR2 := Lib.hid (show rpairsF b = if chkF P (itv : Int) = 0 ∧ buildF itv P = b then (P, 0) else ([], 2) by rw [HR.out, HD2.out])
          clear hlt HR
          by_cases hk0 : chkF P (itv : Int) = 0
          · rw [hk0] at HBU HR2
            simp only [if_true, true_and] at HBU HR2
            generalize buildF itv P = out at *
            by_cases heq : out = b
            · subst heq
              have HN := Lib.hid (HR2.out.trans (if_pos rfl))
              clear hk0 HR2
              go_wp2_with (go_at_call 43; refine HBU.out.mono ?_; rintro e w3 ⟨rfl, g3⟩)
              go_ret2
              rw [HN.out]
              refine ⟨adO, cO, by rw [HPL.out]; rfl, ?_, hg1.trans g3⟩
              rw [HPL.out]
              exact oO.gr g3
            · have hbe : (out == b) = false := by rw [beq_eq_false_iff_ne]; exact heq
              have HN := Lib.hid (HR2.out.trans (if_neg heq))
              clear hk0 heq HR2
              go_wp2_with (go_at_call 43; refine HBU.out.mono ?_; rintro e w3 ⟨rfl, g3⟩)
              go_ret2
              rw [HN.out]
              exact ⟨none, 0, rfl, Owns.empty _ _ _ _, hg1.trans g3⟩
          · have HN := Lib.hid (HR2.out.trans (if_neg (fun h => hk0 h.1)))
            generalize hcc9 : chkF P (itv : Int) = ck at *
            have hne : ((ck : Int) != 0) = true := by rw [bne_iff_ne]; omega
            rw [if_neg hk0] at HBU
            clear hk0 hcc9 HR2
            go_wp2_with (go_at_call 43; refine HBU.out.mono ?_; rintro e w3 ⟨rfl, g3⟩)
            go_ret2
            rw [HN.out]
            exact ⟨none, 0, rfl, Owns.empty _ _ _ _, hg1.trans g3⟩
end Go.Proofs.YtlfbelocdpboeaaGreatDoor
/- Layer 13 (block): bytes.Clone, Open. -/
namespace Go.Proofs.YtlfbelocdpboeaaGreatDoor
set_option linter.unusedVariables false
set_option linter.unusedSimpArgs false
open Go.RowKit Bk
set_option maxRecDepth 100000 in
theorem clone_any (ad : Option Addr) (n cap : Nat) (l : List UInt8) (w : World) (hn : n = l.length) (h1 : 1 ≤ l.length) (hl : l.length ≤ 1000000000) (hb : Bytes w ad l) :
    Calls Tryz.prog 34 #[.slice ad n cap] w fun e w' => ∃ ad' cap', e = .returned (.slice ad' n cap') ∧ Owns w' w.heap.size 5 1 ad' cap' n (bv l) ∧ Gr w w' := by
  subst hn
  obtain ⟨a, rfl⟩ : ∃ a, ad = some a := by
    obtain ⟨b, off, e, _⟩ := hb 0 (by omega)
    exact ⟨_, e⟩
  have HB := Lib.hid hb
  have HE := fun w' => Lib.run_eql_slice_nil (P := Tryz.prog) w' 27 5 (some a) l.length cap 0 0 Tryz.underlying27
  clear hb
  go_enter Tryz.func34, Tryz.ntmps34
  go_wp2_with (first
    | (at_builtin; refine wp_append elemB rfl _ _ rfl rfl (Owns.void w w.heap.size 5 1 (Nat.le_refl _)) rfl (Src.bytes (HB.out.gr (Gr.alloc _ _)) rfl Tryz.underlying27) (by unfold maxLen; omega) (by omega) (by simp) ?_; intro ad7 c7 w7 o7 k7 f7)
    | fail)
  go_ret
  refine ⟨ad7, c7, by simp, ?_, (Gr.alloc _ _).grown k7 (fun g h => by cases h; exact Nat.le_refl _)⟩
  simpa using o7
set_option maxRecDepth 100000 in
theorem parts_at (ad : Option Addr) (n cap : Nat) (b : List UInt8) (w : World) (d : List UInt8) (itv c : Nat) (hp : partsF b = some (d, itv, c)) (hn : n = b.length) (hl : b.length ≤ 1000000000) (hc : b.length ≤ cap) (hm : cap ≤ maxLen) (hb : Bytes w ad b) :
    Calls Tryz.prog 67 #[.slice ad n cap] w fun x w' => Gr w w' ∧ ∃ b1 o1 ad2 c1 c2, x = .returned (.tuple #[.slice (some ⟨b1, o1, .none⟩) d.length c1, .slice ad2 (4 * ((c + itv - 1) / itv)) c2, .int .i64 (itv : Int), .int .i64 (c : Int), .bool true]) ∧ b1 < w'.heap.size ∧ d.length < c1 ∧ c1 ≤ cap ∧ 4 * ((c + itv - 1) / itv) ≤ c2 ∧ c2 ≤ cap ∧ d.length ≤ b.length ∧ Bytes w' (some ⟨b1, o1, .none⟩) d ∧ Bytes w' ad2 (placesB b itv c) ∧ (placesB b itv c).length = 4 * ((c + itv - 1) / itv) ∧ ad.map (·.block) = some b1 ∧ ∀ x, ad2 = some x → ad.map (·.block) = some x.block := by
  subst hn
  have h := parts_any ad cap b w hl hc hm hb
  unfold RetParts at h
  simp only [hp] at h
  exact h
theorem parts_six {b d : List UInt8} {itv c : Nat} (h : partsF b = some (d, itv, c)) : 6 ≤ b.length := by
  unfold partsF at h
  split at h
  · cases h
  · omega
end Go.Proofs.YtlfbelocdpboeaaGreatDoor
/- The plain law of layer 6 (bloom): a key's number. No program is in sight here. -/
namespace Go.Proofs.YtlfbelocdpboeaaGreatDoor.Bloom
set_option linter.unusedVariables false
set_option linter.unusedSimpArgs false
/-- the factor -/
def fac : BitVec 32 := 3332679571#32
/-- four bytes, the lowest first -/
def word (a b c d : UInt8) : BitVec 32 := BitVec.ofNat 32 (a.toNat + b.toNat * 256 + c.toNat * 65536 + d.toNat * 16777216)
def mixW (h w : BitVec 32) : BitVec 32 := (h + w) * fac ^^^ ((h + w) * fac) >>> 16
/-- what is added for the bytes that are left, from a place on -/
def tailS : List UInt8 → Nat → BitVec 32
  | [], _ => 0#32
  | x :: l, i => BitVec.ofNat 32 (x.toNat * 256 ^ i) + tailS l (i + 1)
def endF (h : BitVec 32) (l : List UInt8) : BitVec 32 := if l = [] then h else (h + tailS l 0) * fac ^^^ ((h + tailS l 0) * fac) >>> 24
def hashG : BitVec 32 → List UInt8 → BitVec 32
  | h, a :: b :: c :: d :: l => hashG (mixW h (word a b c d)) l
  | h, l => endF h l
def seedF (n : Nat) : BitVec 32 := 3164544308#32 ^^^ BitVec.ofNat 32 n * fac
def hashF (l : List UInt8) : BitVec 32 := hashG (seedF l.length) l
theorem hashG_four (h : BitVec 32) (a b c d : UInt8) (l : List UInt8) : hashG h (a :: b :: c :: d :: l) = hashG (mixW h (word a b c d)) l := by rw [hashG]
theorem hashG_end (h : BitVec 32) (l : List UInt8) (hl : l.length < 4) : hashG h l = endF h l := by
  match l, hl with
  | [], _ => rfl
  | [_], _ => rfl
  | [_, _], _ => rfl
  | [_, _, _], _ => rfl
theorem tail_snoc : ∀ (l : List UInt8) (x : UInt8) (i : Nat), tailS (l ++ [x]) i = tailS l i + BitVec.ofNat 32 (x.toNat * 256 ^ (i + l.length))
  | [], x, i => by simp [tailS]
  | y :: l, x, i => by
    rw [List.cons_append, tailS, tailS, tail_snoc l x (i + 1), BitVec.add_assoc, List.length_cons, show i + 1 + l.length = i + (l.length + 1) by omega]
end Go.Proofs.YtlfbelocdpboeaaGreatDoor.Bloom
/- Layer 6 (bloom): a key's number, in the program and in the reference. -/
namespace Go.Proofs.YtlfbelocdpboeaaGreatDoor
set_option linter.unusedVariables false
set_option linter.unusedSimpArgs false
open Go.RowKit Bloom
theorem u32_join (a b i : Nat) (ha : a < 2 ^ i) (hb : b * 2 ^ i < 4294967296) (hs : a < 4294967296) : bits .or .u32 (a : Int) ((b * 2 ^ i : Nat) : Int) = ((a + b * 2 ^ i : Nat) : Int) := by
  rw [u32_or_nat _ _ hs hb, Nat.or_comm, nat_join i _ _ (Nat.mul_mod_left _ _) ha, Nat.add_comm]
theorem or4 (a b c d : UInt8) : bits .or .u32 (bits .or .u32 (bits .or .u32 (a.toNat : Int) ((b.toNat : Int) * 256)) ((c.toNat : Int) * 65536)) ((d.toNat : Int) * 16777216) = ((a.toNat + b.toNat * 256 + c.toNat * 65536 + d.toNat * 16777216 : Nat) : Int) := by
  have ha := a.toNat_lt
  have hb := b.toNat_lt
  have hc := c.toNat_lt
  have hd := d.toNat_lt
  have e1 : ((b.toNat : Int) * 256) = ((b.toNat * 2 ^ 8 : Nat) : Int) := by omega
  have e2 : ((c.toNat : Int) * 65536) = ((c.toNat * 2 ^ 16 : Nat) : Int) := by omega
  have e3 : ((d.toNat : Int) * 16777216) = ((d.toNat * 2 ^ 24 : Nat) : Int) := by omega
  rw [e1, e2, e3, u32_join _ _ 8 (by omega) (by omega) (by omega), u32_join _ _ 16 (by omega) (by omega) (by omega), u32_join _ _ 24 (by omega) (by omega) (by omega)]
theorem word_lt (a b c d : UInt8) : a.toNat + b.toNat * 256 + c.toNat * 65536 + d.toNat * 16777216 < 4294967296 := by
  have ha := a.toNat_lt
  have hb := b.toNat_lt
  have hc := c.toNat_lt
  have hd := d.toNat_lt
  omega
theorem mixU (H : BitVec 32) (N : Nat) (hN : N < 4294967296) :
    bits .xor .u32 ((U H + (N : Int)) % 4294967296 * 3332679571 % 4294967296) ((U H + (N : Int)) % 4294967296 * 3332679571 % 4294967296 / 65536) = U (mixW H (BitVec.ofNat 32 N)) := by
  rw [U_addc H _ N rfl hN, U_mulc _ 3332679571 3332679571 rfl (by decide), U_shr _ 65536 16 rfl, U_xor]
  rfl
theorem endU (H : BitVec 32) : bits .xor .u32 (U H * 3332679571 % 4294967296) (U H * 3332679571 % 4294967296 / 16777216) = U (H * fac ^^^ (H * fac) >>> 24) := by
  rw [U_mulc _ 3332679571 3332679571 rfl (by decide), U_shr _ 16777216 24 rfl, U_xor]
  rfl
theorem seedU (n : Nat) : bits .xor .u32 3164544308 ((n : Int) % 4294967296 * 3332679571 % 4294967296) = U (seedF n) := by
  have e : (n : Int) % 4294967296 = U (BitVec.ofNat 32 n) := by rw [U_ofNat]; omega
  rw [e, U_mulc _ 3332679571 3332679571 rfl (by decide), U_lit (m := 3164544308) 3164544308 rfl (by decide), U_xor]
  rfl
theorem tailU (X : BitVec 32) (x : UInt8) (j : Nat) : (U X + (x.toNat : Int) * 2 ^ (8 * j) % 4294967296) % 4294967296 = U (X + BitVec.ofNat 32 (x.toNat * 256 ^ j)) := by
  have e : (x.toNat : Int) * 2 ^ (8 * j) % 4294967296 = U (BitVec.ofNat 32 (x.toNat * 256 ^ j)) := by
    rw [U_ofNat]
    have : (x.toNat : Int) * 2 ^ (8 * j) = ((x.toNat * 256 ^ j : Nat) : Int) := by rw [show 256 ^ j = 2 ^ (8 * j) by rw [Nat.pow_mul]]; simp
    rw [this]; omega
  rw [e, U_add]
set_option maxRecDepth 100000 in
set_option maxHeartbeats 1000000 in
theorem Hash_any (key : List UInt8) (w : World) (hm : key.length ≤ 9223372036854775807) :
    Calls Tryz.prog 83 #[.string (str key)] w fun e w' => e = .returned (.int .u32 (U (hashF key))) ∧ Gr w w' := by
  go_enter Tryz.func83, Tryz.ntmps83
  go_wp2
  go_loopw [0, 3] (fun k h wr => ∃ (l : List UInt8) (H : BitVec 32), l.length ≤ key.length ∧ k = .string (str l) ∧ h = .int .u32 (U H) ∧ hashF key = hashG H l ∧ Gr w wr) (fun k _ _ => match k with | .string t => t.size | _ => 0)
  case atStart => exact ⟨key, _, Nat.le_refl _, rfl, by rw [seedU], rfl, Gr.refl _⟩
  case round =>
    obtain ⟨l, H, hl, rfl, rfl, hh, hg⟩ := hrel
    have hU0 := U_lo H
    have hU1 := U_hi H
    by_cases h4 : 4 ≤ l.length
    · match l with
      | a :: b :: c :: d :: r =>
        rw [hashG_four] at hh
        have HH := Lib.hid hh; clear hh h4
        have ha := byte_hi a
        have hb := byte_hi b
        have hc := byte_hi c
        have hd := byte_hi d
        go_wp2
        go_quiet (fail)
        go_wp2
        go_roundw
        case rel =>
          simp only [List.length_cons] at hl
          exact ⟨r, _, by omega, rfl, by rw [or4, mixU _ _ (word_lt a b c d)]; rfl, HH.out, hg.trans (Gr.drewN _ _)⟩
        case measure => simp [str_size]; omega
    · rw [hashG_end _ _ (by omega)] at hh
      by_cases h0 : l = []
      · subst h0
        have HH := Lib.hid hh; clear hh
        go_wp2
        go_ret
        exact ⟨by rw [HH.out]; rfl, hg⟩
      · have hl0 : 0 < l.length := by cases l with | nil => exact absurd rfl h0 | cons x r => simp
        have hb0 : ((l.length : Int) == 0) = false := by rw [beq_eq_false_iff_ne]; omega
        unfold endF at hh
        rw [if_neg h0] at hh
        have HH := Lib.hid hh; clear hh h0
        go_wp2
        obtain ⟨wo, rfl⟩ : ∃ wo : World, wo = wr := ⟨_, rfl⟩
        go_loop [3, 4, 47] (fun h _ i => ∃ j : Nat, j ≤ l.length ∧ i = .int .i64 j ∧ h = .int .u32 (U (H + tailS (l.take j) 0))) (fun _ _ i => l.length - (intOf i).toNat)
        case atStart => exact ⟨0, Nat.zero_le _, rfl, by simp [tailS]⟩
        case round =>
          obtain ⟨j, hj, rfl, rfl⟩ := hrel
          by_cases hlt : j < l.length
          · have hx := byte_hi l[j]
            go_wp2
            go_round
            case rel => exact ⟨j + 1, by omega, by go_num, by rw [tailU, List.take_succ_eq_append_getElem hlt, tail_snoc, BitVec.add_assoc]; simp [Nat.min_eq_left hj]⟩
            case measure => simp [intOf]; omega
          · obtain rfl : j = l.length := by omega
            go_wp2
            go_ret
            exact ⟨by rw [HH.out]; exact ret_int (endU _), hg⟩
theorem unitU (j : Nat) : U (BitVec.ofNat 32 (256 ^ j)) * 256 % 4294967296 = U (BitVec.ofNat 32 (256 ^ (j + 1))) := by
  rw [U_ofNat, U_ofNat, Nat.pow_succ]; omega
theorem tailV (X : BitVec 32) (x : UInt8) (j : Nat) : (U X + (x.toNat : Int) * U (BitVec.ofNat 32 (256 ^ j)) % 4294967296) % 4294967296 = U (X + BitVec.ofNat 32 (x.toNat * 256 ^ j)) := by
  have e : (x.toNat : Int) * U (BitVec.ofNat 32 (256 ^ j)) % 4294967296 = U (BitVec.ofNat 32 (x.toNat * 256 ^ j)) := by
    rw [U_ofNat, U_ofNat]
    have h : x.toNat * (256 ^ j % 4294967296) % 4294967296 = x.toNat * 256 ^ j % 4294967296 := by rw [Nat.mul_mod, Nat.mod_mod, ← Nat.mul_mod]
    generalize 256 ^ j = y at *
    generalize hz : y % 4294967296 = z at *
    rw [← h, ← Int.natCast_mul]
    exact (Int.natCast_emod _ _).symm
  rw [e, U_add]
theorem sum4 (H : BitVec 32) (a b c d : UInt8) : U H + (a.toNat : Int) + (b.toNat : Int) * 256 + (c.toNat : Int) * 65536 + (d.toNat : Int) * 16777216 = U H + ((a.toNat + b.toNat * 256 + c.toNat * 65536 + d.toNat * 16777216 : Nat) : Int) := by omega
set_option maxRecDepth 100000 in
set_option maxHeartbeats 1000000 in
theorem rHash_any (key : List UInt8) (w : World) (hm : key.length ≤ 9223372036854775807) :
    Calls Tryz.prog 95 #[.string (str key)] w fun e w' => e = .returned (.int .u32 (U (hashF key))) ∧ Gr w w' := by
  go_enter Tryz.func95, Tryz.ntmps95
  go_wp2
  go_loopw [0, 3] (fun k h wr => ∃ (l : List UInt8) (H : BitVec 32), l.length ≤ key.length ∧ k = .string (str l) ∧ h = .int .u32 (U H) ∧ hashF key = hashG H l ∧ Gr w wr) (fun k _ _ => match k with | .string t => t.size | _ => 0)
  case atStart => exact ⟨key, _, Nat.le_refl _, rfl, by rw [seedU], rfl, Gr.refl _⟩
  case round =>
    obtain ⟨l, H, hl, rfl, rfl, hh, hg⟩ := hrel
    have hU0 := U_lo H
    have hU1 := U_hi H
    by_cases h4 : 4 ≤ l.length
    · match l with
      | a :: b :: c :: d :: r =>
        rw [hashG_four] at hh
        have HH := Lib.hid hh; clear hh h4
        have ha := byte_hi a
        have hb := byte_hi b
        have hc := byte_hi c
        have hd := byte_hi d
        go_wp2
        go_quiet (fail)
        go_wp2
        go_roundw
        case rel =>
          simp only [List.length_cons] at hl
          exact ⟨r, _, by omega, rfl, by rw [sum4, mixU _ _ (word_lt a b c d)]; rfl, HH.out, hg.trans (Gr.drewN _ _)⟩
        case measure => simp [str_size]; omega
    · rw [hashG_end _ _ (by omega)] at hh
      by_cases h0 : l = []
      · subst h0
        have HH := Lib.hid hh; clear hh
        go_wp2
        go_ret
        exact ⟨by rw [HH.out]; rfl, hg⟩
      · have hl0 : 0 < l.length := by cases l with | nil => exact absurd rfl h0 | cons x r => simp
        have hb0 : (l == []) = false := by rw [beq_eq_false_iff_ne]; exact h0
        have hb1 : l.isEmpty = false := by cases l with | nil => exact absurd rfl h0 | cons x r => rfl
        unfold endF at hh
        rw [if_neg h0] at hh
        have HH := Lib.hid hh; clear hh h0
        go_wp2
        obtain ⟨wo, rfl⟩ : ∃ wo : World, wo = wr := ⟨_, rfl⟩
        go_loop [3, 4, 5] (fun h u i => ∃ j : Nat, j ≤ l.length ∧ i = .int .i64 j ∧ u = .int .u32 (U (BitVec.ofNat 32 (256 ^ j))) ∧ h = .int .u32 (U (H + tailS (l.take j) 0))) (fun _ _ i => l.length - (intOf i).toNat)
        case atStart => exact ⟨0, Nat.zero_le _, rfl, by rw [U_ofNat]; rfl, by simp [tailS]⟩
        case round =>
          obtain ⟨j, hj, rfl, rfl, rfl⟩ := hrel
          by_cases hlt : j < l.length
          · have hx := byte_hi l[j]
            go_wp2
            go_round
            case rel => exact ⟨j + 1, by omega, by go_num, by rw [unitU], by rw [tailV, List.take_succ_eq_append_getElem hlt, tail_snoc, BitVec.add_assoc]; simp [Nat.min_eq_left hj]⟩
            case measure => simp [intOf]; omega
          · obtain rfl : j = l.length := by omega
            go_wp2
            go_ret
            exact ⟨by rw [HH.out]; exact ret_int (endU _), hg⟩
end Go.Proofs.YtlfbelocdpboeaaGreatDoor
/- The plain law of layer 6 (bloom): bits in rows of bytes, and the probes of keys. No program is in sight here. -/
namespace Go.Proofs.YtlfbelocdpboeaaGreatDoor.Bloom
set_option linter.unusedVariables false
set_option linter.unusedSimpArgs false
/-- what so many bits of a byte make -/
def byteN (on : Nat → Bool) (q : Nat) : Nat → Nat
  | 0 => 0
  | m + 1 => byteN on q m + if on (8 * q + m) then 2 ^ m else 0
theorem byteN_lt (on : Nat → Bool) (q : Nat) : ∀ m, byteN on q m < 2 ^ m
  | 0 => by simp [byteN]
  | m + 1 => by
    have := byteN_lt on q m
    rw [byteN, Nat.pow_succ]
    split <;> omega
theorem byteN_bit (on : Nat → Bool) (q : Nat) : ∀ m r, (byteN on q m).testBit r = (decide (r < m) && on (8 * q + r))
  | 0, r => by simp [byteN]
  | m + 1, r => by
    have hlt := byteN_lt on q m
    have ih := byteN_bit on q m
    rw [byteN]
    by_cases ho : on (8 * q + m) = true
    · rw [if_pos ho, Nat.add_comm]
      have e : 2 ^ m + byteN on q m = 2 ^ m * 1 + byteN on q m := by omega
      rw [e, Nat.testBit_two_pow_mul_add _ hlt]
      by_cases h1 : r < m
      · rw [if_pos h1, ih]; simp [h1, show r < m + 1 by omega]
      · rw [if_neg h1]
        by_cases h2 : r = m
        · subst h2; simp [ho]
        · have h3 : ¬ r < m + 1 := by omega
          simp only [h3, decide_false, Bool.false_and]
          rw [Bool.eq_false_iff]
          intro h
          rw [Nat.testBit_one_eq_true_iff_self_eq_zero] at h
          omega
    · rw [if_neg ho, Nat.add_zero, ih]
      by_cases h2 : r = m
      · subst h2; simp [Bool.eq_false_iff.2 ho]
      · have : (r < m + 1) ↔ r < m := by omega
        simp [this]
theorem byteN_congr {on on' : Nat → Bool} {q : Nat} : ∀ {m : Nat}, (∀ r, r < m → on (8 * q + r) = on' (8 * q + r)) → byteN on q m = byteN on' q m
  | 0, _ => rfl
  | m + 1, h => by rw [byteN, byteN, byteN_congr (m := m) fun r hr => h r (by omega), h m (by omega)]
theorem byteN_cut {on : Nat → Bool} {q r : Nat} : ∀ {m : Nat}, r ≤ m → (∀ i, r ≤ i → i < m → on (8 * q + i) = false) → byteN on q m = byteN on q r
  | 0, h, _ => by have : r = 0 := by omega
                  subst this; rfl
  | m + 1, h, hf => by
    by_cases e : r = m + 1
    · rw [e]
    · rw [byteN, hf m (by omega) (by omega), byteN_cut (m := m) (by omega) fun i h1 h2 => hf i h1 (by omega)]
      simp
def byteF (on : Nat → Bool) (q : Nat) : UInt8 := UInt8.ofNat (byteN on q 8)
theorem byteF_nat (on : Nat → Bool) (q : Nat) : (byteF on q).toNat = byteN on q 8 := by
  have := byteN_lt on q 8
  unfold byteF
  rw [UInt8.toNat_ofNat']; omega
def rowF (on : Nat → Bool) (n : Nat) : List UInt8 := (List.range n).map (byteF on)
theorem rowF_len (on : Nat → Bool) (n : Nat) : (rowF on n).length = n := by simp [rowF]
theorem rowF_get (on : Nat → Bool) (n q : Nat) (h : q < (rowF on n).length) : (rowF on n)[q] = byteF on q := by simp [rowF]
def addB (on : Nat → Bool) (b : Nat) : Nat → Bool := fun p => on p || p == b
theorem row_set (on : Nat → Bool) (n b : Nat) (hb : b / 8 < n) (y : UInt8) (hy : y.toNat = byteN on (b / 8) 8 ||| 2 ^ (b % 8)) : (rowF on n).set (b / 8) y = rowF (addB on b) n := by
  apply List.ext_getElem
  · simp [rowF_len]
  · intro q h1 h2
    rw [List.length_set, rowF_len] at h1
    rw [List.getElem_set, rowF_get]
    by_cases e : b / 8 = q
    · subst e
      rw [if_pos rfl]
      apply UInt8.toNat_inj.1
      rw [hy, rowF_get, byteF_nat]
      apply Nat.eq_of_testBit_eq
      intro r
      rw [Nat.testBit_or, byteN_bit, byteN_bit, Nat.testBit_two_pow]
      unfold addB
      by_cases h8 : r < 8
      · simp only [h8, decide_true, Bool.true_and]
        congr 1
        rw [Bool.eq_iff_iff, decide_eq_true_iff, beq_iff_eq]
        omega
      · have : ¬ b % 8 = r := by omega
        simp [h8, this]
    · rw [if_neg e, rowF_get]
      unfold byteF
      congr 1
      apply byteN_congr
      intro r hr
      unfold addB
      have : (8 * q + r == b) = false := by rw [beq_eq_false_iff_ne]; omega
      rw [this, Bool.or_false]
theorem row_congr {on on' : Nat → Bool} {n : Nat} (h : ∀ p, p < 8 * n → on p = on' p) : rowF on n = rowF on' n := by
  unfold rowF
  apply List.map_congr_left
  intro q hq
  rw [List.mem_range] at hq
  unfold byteF
  congr 1
  exact byteN_congr fun r hr => h _ (by omega)
/-- a filter's bits -/
def bitOf (l : List UInt8) (p : Nat) : Bool := (l.getD (p / 8) 0).toNat.testBit (p % 8)
theorem bit_row (on : Nat → Bool) (n p : Nat) (h : p < 8 * n) : bitOf (rowF on n) p = on p := by
  unfold bitOf
  have h1 : p / 8 < (rowF on n).length := by rw [rowF_len]; omega
  rw [List.getD_eq_getElem?_getD, List.getElem?_eq_getElem h1, Option.getD_some, rowF_get, byteF_nat, byteN_bit]
  have h2 : p % 8 < 8 := by omega
  have h3 : 8 * (p / 8) + p % 8 = p := by omega
  simp [h2, h3]
/-- a key's second number, and its probes -/
def dF (h : BitVec 32) : BitVec 32 := h <<< 15 ||| h >>> 17
def atF (h : BitVec 32) (j : Nat) : BitVec 32 := h + BitVec.ofNat 32 j * dF h
theorem atF_zero (h : BitVec 32) : atF h 0 = h := by simp [atF]
theorem atF_succ (h : BitVec 32) (j : Nat) : atF h (j + 1) = atF h j + dF h := by
  have e : BitVec.ofNat 32 (j + 1) = BitVec.ofNat 32 j + 1#32 := by
    apply BitVec.eq_of_toNat_eq
    simp [BitVec.toNat_add]
  unfold atF
  rw [e, BitVec.add_mul, BitVec.one_mul, BitVec.add_assoc]
def bitAt (h : BitVec 32) (b j : Nat) : Nat := (atF h j).toNat % b
/-- the bits of some keys, and of the first probes of one more -/
def probesF (h : BitVec 32) (b k : Nat) (p : Nat) : Bool := (List.range k).any fun j => bitAt h b j == p
def onF (keys : List (List UInt8)) (b k : Nat) (p : Nat) : Bool := keys.any fun key => probesF (hashF key) b k p
theorem probesF_succ (h : BitVec 32) (b k p : Nat) : probesF h b (k + 1) p = (probesF h b k p || p == bitAt h b k) := by
  unfold probesF
  rw [List.range_succ, List.any_append]
  simp [Bool.beq_comm]
theorem probesF_zero (h : BitVec 32) (b p : Nat) : probesF h b 0 p = false := rfl
theorem onF_snoc (keys : List (List UInt8)) (key : List UInt8) (b k p : Nat) : onF (keys ++ [key]) b k p = (onF keys b k p || probesF (hashF key) b k p) := by
  unfold onF
  rw [List.any_append]
  simp
theorem onF_take (keys : List (List UInt8)) (i : Nat) (h : i < keys.length) (b k p : Nat) : onF (keys.take (i + 1)) b k p = (onF (keys.take i) b k p || probesF (hashF keys[i]) b k p) := by
  rw [List.take_succ_eq_append_getElem h, onF_snoc]
/-- are all probes there? -/
def allF (l : List UInt8) (h : BitVec 32) (b k : Nat) : Bool := (List.range k).all fun j => bitOf l (bitAt h b j)
theorem allF_no {l : List UInt8} {h : BitVec 32} {b k j : Nat} (hj : j < k) (hb : bitOf l (bitAt h b j) = false) : allF l h b k = false := by
  rw [Bool.eq_false_iff]
  intro ha
  have := List.all_eq_true.1 ha j (List.mem_range.2 hj)
  rw [hb] at this; cases this
theorem allF_yes {l : List UInt8} {h : BitVec 32} {b k : Nat} (ha : ∀ j, j < k → bitOf l (bitAt h b j) = true) : allF l h b k = true :=
  List.all_eq_true.2 fun j hj => ha j (List.mem_range.1 hj)
end Go.Proofs.YtlfbelocdpboeaaGreatDoor.Bloom
/- Layer 6 (bloom): the probes of a key, set and asked. -/
namespace Go.Proofs.YtlfbelocdpboeaaGreatDoor
set_option linter.unusedVariables false
set_option linter.unusedSimpArgs false
open Go.RowKit Bloom
theorem and7 (n : Nat) (h : n < 4294967296) : bits .and .u32 (n : Int) 7 = ((n % 8 : Nat) : Int) := by
  have h1 := u32_and_nat n 7 h (by decide)
  have h2 : n &&& 7 = n % 8 := Nat.and_two_pow_sub_one_eq_mod n 3
  rw [h2] at h1
  exact h1
theorem or_pow (x : UInt8) (r : Nat) (h : r < 8) : bits .or .u8 (x.toNat : Int) (2 ^ r % 256) = ((UInt8.ofNat (x.toNat ||| 2 ^ r)).toNat : Int) := by
  have h2 : 2 ^ r < 256 := Nat.pow_lt_pow_right (by decide) (show r < 8 from h)
  have h1 := u8_or_nat x.toNat (2 ^ r) x.toNat_lt h2
  have h3 : x.toNat ||| 2 ^ r < 2 ^ 8 := Nat.or_lt_two_pow x.toNat_lt h2
  have e : (2 : Int) ^ r % 256 = ((2 ^ r : Nat) : Int) := by
    have : (2 : Int) ^ r = ((2 ^ r : Nat) : Int) := by simp
    rw [this]
    generalize 2 ^ r = y at h2 ⊢
    omega
  rw [UInt8.toNat_ofNat', Nat.mod_eq_of_lt h3, ← h1, e]
set_option maxRecDepth 100000 in
set_option maxHeartbeats 1000000 in
theorem set_any (g8 gb n cap base p : Nat) (on : Nat → Bool) (w : World) (hs : w.cell? ⟨g8, 0, none⟩ = some (.slice (some ⟨gb, 0, none⟩) n cap)) (ho : Owns w base 5 1 (some ⟨gb, 0, none⟩) cap n (bv (rowF on n))) (hp : p < 8 * n) (hn : n ≤ 500000000) :
    Calls Tryz.prog 54 #[.int .u32 (p : Int), .pointer (some ⟨g8, 0, none⟩)] w fun e w' => e = .returned (.bool true) ∧ Owns w' base 5 1 (some ⟨gb, 0, none⟩) cap n (bv (rowF (addB on p) n)) ∧ w.grownBy w' (some gb) := by
  have h7 := and7 p (by omega)
  have hq : p / 8 < n := by omega
  have hl : p / 8 < (rowF on n).length := by rw [rowF_len]; exact hq
  obtain ⟨_, e0, _, hc⟩ := ho.at (bv_get _ _ hl)
  cases e0
  rw [rowF_get] at hc
  have hf := ho.unfrozen (i := p / 8) rfl (by omega)
  have h8 : p % 8 < 8 := by omega
  have hy := or_pow (byteF on (p / 8)) (p % 8) h8
  have hr : (p : Int) % 8 < 8 := by omega
  have hr0 : 0 ≤ (p : Int) % 8 := by omega
  have hby : (UInt8.ofNat ((byteF on (p / 8)).toNat ||| 2 ^ (p % 8))).toNat = byteN on (p / 8) 8 ||| 2 ^ (p % 8) := by
    have h2 : 2 ^ (p % 8) < 256 := Nat.pow_lt_pow_right (by decide) (show p % 8 < 8 from h8)
    rw [UInt8.toNat_ofNat', Nat.mod_eq_of_lt (Nat.or_lt_two_pow (by exact (byteF on (p / 8)).toNat_lt) h2), byteF_nat]
  have ho2 := ho.store rfl hq (.int .u8 ((UInt8.ofNat ((byteF on (p / 8)).toNat ||| 2 ^ (p % 8))).toNat : Int))
  rw [bv_set, row_set on n p hq _ hby] at ho2
  have HY := Lib.hid hy
  clear hby hy
  go_enter Tryz.func54, Tryz.ntmps54
  go_wp2
  go_ret
  rw [HY.out]
  exact ⟨rfl, ho2, grown_set _ _ _ _⟩
theorem rot_any (h : BitVec 32) (w : World) : Calls Tryz.prog 84 #[.int .u32 (U h), .int .i64 (-17)] w fun e w' => e = .returned (.int .u32 (U (dF h))) ∧ w = w' := by
  have hU0 := U_lo h
  have hU1 := U_hi h
  have e1 : bits BinOp.and IntKind.u64 (IntKind.u64.wrap (-17)) 31 = 15 := by decide
  have e2 := U_shl h 32768 15 rfl
  have e3 := U_shr h 131072 17 rfl
  have e4 := U_or (h <<< 15) (h >>> 17)
  go_enter Tryz.func84, Tryz.ntmps84
  go_wp2
  go_ret
  exact ⟨rfl, rfl⟩
theorem set_at (X : Int) (g8 gb n cap base p : Nat) (on : Nat → Bool) (w : World) (hX : X = (p : Int)) (hs : w.cell? ⟨g8, 0, none⟩ = some (.slice (some ⟨gb, 0, none⟩) n cap)) (ho : Owns w base 5 1 (some ⟨gb, 0, none⟩) cap n (bv (rowF on n))) (hp : p < 8 * n) (hn : n ≤ 500000000) :
    Calls Tryz.prog 54 #[.int .u32 X, .pointer (some ⟨g8, 0, none⟩)] w fun e w' => e = .returned (.bool true) ∧ Owns w' base 5 1 (some ⟨gb, 0, none⟩) cap n (bv (rowF (addB on p) n)) ∧ w.grownBy w' (some gb) := by
  subst hX; exact set_any g8 gb n cap base p on w hs ho hp hn
theorem U_mod (a : BitVec 32) (m : Nat) : U a % (m : Int) = ((a.toNat % m : Nat) : Int) := by
  unfold U; simp
set_option maxRecDepth 100000 in
set_option maxHeartbeats 1000000 in
theorem eachB_any (key : List UInt8) (g8 gb n cap base k : Nat) (on : Nat → Bool) (w : World) (hm : key.length ≤ 9223372036854775807) (hs : w.cell? ⟨g8, 0, none⟩ = some (.slice (some ⟨gb, 0, none⟩) n cap)) (hne : g8 ≠ gb) (ho : Owns w base 5 1 (some ⟨gb, 0, none⟩) cap n (bv (rowF on n))) (hn0 : 0 < n) (hn : n ≤ 500000000) (hk : k ≤ 255) :
    Calls Tryz.prog 53 #[.string (str key), .int .i64 (8 * (n : Int)), .int .i64 (k : Int), .func (.func 54) #[] #[.pointer (some ⟨g8, 0, none⟩)]] w fun e w' => e = .returned (.bool true) ∧ Owns w' base 5 1 (some ⟨gb, 0, none⟩) cap n (bv (rowF (fun p => on p || probesF (hashF key) (8 * n) k p) n)) ∧ w.grownBy w' (some gb) := by
  have HH := Lib.hid (fun w => Hash_any key w hm)
  generalize hashF key = h at *
  have hU0 := U_lo h
  have hU1 := U_hi h
  go_enter Tryz.func53, Tryz.ntmps53
  have hsz : 8 * (n : Int) < 4294967296 := by omega
  go_wp2_with (first | (go_at_call 83; refine (HH.out _).mono ?_; rintro e w1 ⟨rfl, g1⟩) | (go_at_call 84; refine (rot_any h _).mono ?_; rintro e w' ⟨rfl, rfl⟩))
  go_loopw [9, 16] (fun v i wr => ∃ j : Nat, j ≤ k ∧ i = .int .i64 (j : Int) ∧ v = .int .u32 (U (atF h j)) ∧ Owns wr base 5 1 (some ⟨gb, 0, none⟩) cap n (bv (rowF (fun p => on p || probesF h (8 * n) j p) n)) ∧ w.grownBy wr (some gb)) (fun _ i _ => k - (intOf i).toNat)
  case atStart => exact ⟨0, Nat.zero_le _, rfl, by rw [atF_zero], by simp only [probesF_zero, Bool.or_false]; exact ho.gr g1, g1.far⟩
  case round =>
    obtain ⟨j, hj, rfl, rfl, ho2, hg⟩ := hrel
    by_cases hlt : j < k
    · have hs2 := hg.cell hs (fun e => hne (by injection e))
      have hu0 := U_lo (atF h j)
      have hu1 := U_hi (atF h j)
      have hA := U_add (atF h j) (dF h)
      have hv0 := U_lo (dF h)
      have hv1 := U_hi (dF h)
      have hp : bitAt h (8 * n) j < 8 * n := Nat.mod_lt _ (by omega)
      have hmod : U (atF h j) % (8 * (n : Int)) = (bitAt h (8 * n) j : Int) := by
        have := U_mod (atF h j) (8 * n)
        rw [show ((8 * n : Nat) : Int) = 8 * (n : Int) by omega] at this
        exact this
      have HM := Lib.hid hmod
      rw [← atF_succ] at hA
      have HA := Lib.hid hA
      clear hmod hA
      go_wp2_with (go_at_call 54; refine (set_at _ g8 gb n cap base _ _ _ HM.out hs2 ho2 hp hn).mono ?_; rintro e w3 ⟨rfl, ho3, hg3⟩)
      go_roundw
      case rel => exact ⟨j + 1, by omega, by go_num, by rw [HA.out], by
        have : (fun p => on p || probesF h (8 * n) (j + 1) p) = addB (fun p => on p || probesF h (8 * n) j p) (bitAt h (8 * n) j) := by
          funext p
          unfold addB
          rw [probesF_succ, Bool.or_assoc]
        rw [this]; exact ho3, grown_trans hg hg3⟩
      case measure => simp [intOf]; omega
    · obtain rfl : j = k := by omega
      go_wp2
      go_ret
      exact ⟨rfl, ho2, hg⟩
theorem and1 (x r : Nat) (h : x < 256) : bits .and .u8 ((x : Int) / 2 ^ r) 1 = ((x / 2 ^ r % 2 : Nat) : Int) := by
  have e : (x : Int) / 2 ^ r = ((x / 2 ^ r : Nat) : Int) := by simp
  have h0 : x / 2 ^ r < 256 := Nat.lt_of_le_of_lt (Nat.div_le_self _ _) h
  have h1 := u8_and_nat (x / 2 ^ r) 1 h0 (by decide)
  rw [Nat.and_one_is_mod] at h1
  rw [e]
  exact h1
theorem bit_at {l : List UInt8} {p : Nat} (h : p / 8 < l.length) : bitOf l p = decide ((l[p / 8]).toNat / 2 ^ (p % 8) % 2 = 1) := by
  unfold bitOf
  rw [List.getD_eq_getElem?_getD, List.getElem?_eq_getElem h, Option.getD_some, Nat.testBit_eq_decide_div_mod_eq]
set_option maxRecDepth 100000 in
set_option maxHeartbeats 1000000 in
theorem ask_any (X : Int) (g8 cap p : Nat) (ad : Option Addr) (l : List UInt8) (w : World) (hX : X = (p : Int)) (hs : w.cell? ⟨g8, 0, none⟩ = some (.slice ad l.length cap)) (hb : Bytes w ad l) (hp : p < 8 * l.length) (hn : l.length ≤ 500000000) :
    Calls Tryz.prog 93 #[.int .u32 X, .pointer (some ⟨g8, 0, none⟩)] w fun e w' => e = .returned (.bool (bitOf l p)) ∧ w = w' := by
  subst hX
  have h7 := and7 p (by omega)
  have hq : p / 8 < l.length := by omega
  obtain ⟨b, off, rfl, hc⟩ := hb _ hq
  have h8 : p % 8 < 8 := by omega
  have hx := byte_hi (l[p / 8])
  have ha := and1 (l[p / 8]).toNat (p % 8) (l[p / 8]).toNat_lt
  have hbt := bit_at hq
  have hr : (p : Int) % 8 < 8 := by omega
  have hr0 : 0 ≤ (p : Int) % 8 := by omega
  have HA := Lib.hid ha
  have HB := Lib.hid hbt
  clear ha hbt
  go_enter Tryz.func93, Tryz.ntmps93
  go_wp2
  go_ret
  rw [HA.out, HB.out]
  refine ⟨?_, rfl⟩
  show Ending.returned (.bool _) = _
  congr 2
  rw [Bool.eq_iff_iff, beq_iff_eq, decide_eq_true_iff]
  omega
set_option maxRecDepth 100000 in
set_option maxHeartbeats 1000000 in
theorem eachM_any (key : List UInt8) (g8 cap k : Nat) (ad : Option Addr) (l : List UInt8) (w : World) (hm : key.length ≤ 9223372036854775807) (hs : w.cell? ⟨g8, 0, none⟩ = some (.slice ad l.length cap)) (hb : Bytes w ad l) (hn0 : 0 < l.length) (hn : l.length ≤ 500000000) (hk : k ≤ 255) :
    Calls Tryz.prog 53 #[.string (str key), .int .i64 (8 * (l.length : Int)), .int .i64 (k : Int), .func (.func 93) #[] #[.pointer (some ⟨g8, 0, none⟩)]] w fun e w' => e = .returned (.bool (allF l (hashF key) (8 * l.length) k)) ∧ Gr w w' := by
  have HH := Lib.hid (fun w => Hash_any key w hm)
  generalize hashF key = h at *
  have hU0 := U_lo h
  have hU1 := U_hi h
  have HN := Lib.hid (show l.length = l.length from rfl)
  have hsz : 8 * (l.length : Int) < 4294967296 := by omega
  go_enter Tryz.func53, Tryz.ntmps53
  go_wp2_with (first | (go_at_call 83; refine (HH.out _).mono ?_; rintro e w1 ⟨rfl, g1⟩) | (go_at_call 84; refine (rot_any h _).mono ?_; rintro e w' ⟨rfl, rfl⟩))
  have hs1 := g1.cell hs
  have hb1 := hb.gr g1
  go_loop [9, 16] (fun v i => ∃ j : Nat, j ≤ k ∧ i = .int .i64 (j : Int) ∧ v = .int .u32 (U (atF h j)) ∧ ∀ j', j' < j → bitOf l (bitAt h (8 * l.length) j') = true) (fun _ i => k - (intOf i).toNat)
  case atStart => exact ⟨0, Nat.zero_le _, rfl, by rw [atF_zero], fun j' h => by omega⟩
  case round =>
    obtain ⟨j, hj, rfl, rfl, hall⟩ := hrel
    have HALL := Lib.hid hall; clear hall
    by_cases hlt : j < k
    · have hu0 := U_lo (atF h j)
      have hu1 := U_hi (atF h j)
      have hA := U_add (atF h j) (dF h)
      have hv0 := U_lo (dF h)
      have hv1 := U_hi (dF h)
      have hp : bitAt h (8 * l.length) j < 8 * l.length := Nat.mod_lt _ (by omega)
      have hmod : U (atF h j) % (8 * (l.length : Int)) = (bitAt h (8 * l.length) j : Int) := by
        have := U_mod (atF h j) (8 * l.length)
        rw [show ((8 * l.length : Nat) : Int) = 8 * (l.length : Int) by omega] at this
        exact this
      have HM := Lib.hid hmod
      rw [← atF_succ] at hA
      have HA := Lib.hid hA
      clear hmod hA
      have HC := Lib.hid (fun X hX => ask_any X g8 cap (bitAt h (8 * l.length) j) ad l w1 hX hs1 hb1 hp hn)
      cases hbit : bitOf l (bitAt h (8 * l.length) j) with
      | true =>
        rw [hbit] at HC
        have HB := Lib.hid hbit; clear hbit
        go_wp2_with (go_at_call 93; refine (HC.out _ HM.out).mono ?_; rintro e w3 ⟨rfl, rfl⟩)
        go_round
        case rel => exact ⟨j + 1, by omega, by go_num, by rw [HA.out], fun j' h' => by
          by_cases e : j' = j
          · rw [e]; exact HB.out
          · exact HALL.out j' (by omega)⟩
        case measure => simp [intOf]; omega
      | false =>
        rw [hbit] at HC
        have HR := Lib.hid (allF_no hlt hbit); clear hbit
        go_wp2_with (go_at_call 93; refine (HC.out _ HM.out).mono ?_; rintro e w3 ⟨rfl, rfl⟩)
        go_ret
        exact ⟨by rw [HR.out]; rfl, g1⟩
    · obtain rfl : j = k := by omega
      have HR := Lib.hid (allF_yes HALL.out)
      go_wp2
      go_ret
      exact ⟨by rw [HR.out]; rfl, g1⟩
end Go.Proofs.YtlfbelocdpboeaaGreatDoor
/- Layer 6 (bloom): filters are built. -/
namespace Go.Proofs.YtlfbelocdpboeaaGreatDoor
set_option linter.unusedVariables false
set_option linter.unusedSimpArgs false
open Go.RowKit Bloom
/-- keys, as Go's values -/
def sv (l : List (List UInt8)) : List Value := l.map fun s => .string (str s)
theorem sv_get (l : List (List UInt8)) (i : Nat) (h : i < l.length) : (sv l)[i]? = some (.string (str l[i])) := by simp [sv, h]
/-- no key is longer than any text -/
def Short (l : List (List UInt8)) : Prop := ∀ s ∈ l, s.length ≤ 9223372036854775807
theorem Short.at_ {l : List (List UInt8)} (h : Short l) (i : Nat) (hi : i < l.length) : l[i].length ≤ 9223372036854775807 := h _ (List.getElem_mem hi)
def kF (bits : Nat) : Nat := min (max (bits * 69 / 100) 1) 30
def nF (len bits : Nat) : Nat := (max (len * bits) 64 + 7) / 8
def filterF (keys : List (List UInt8)) (bits : Nat) : List UInt8 := rowF (onF keys (8 * nF keys.length bits) (kF bits)) (nF keys.length bits) ++ [UInt8.ofNat (kF bits)]
def buildF (keys : List (List UInt8)) (bits : Int) : List UInt8 × Nat :=
  if bits < 1 ∨ 64 < bits then ([], 1) else if 100000 < keys.length then ([], 14) else (filterF keys bits.toNat, 0)
theorem zero_row (n : Nat) : List.replicate n (0 : UInt8) = rowF (fun _ => false) n := by
  apply List.ext_getElem
  · simp [rowF_len]
  · intro i h1 h2
    rw [rowF_get, List.getElem_replicate]
    apply UInt8.toNat_inj.1
    rw [byteF_nat]
    have : byteN (fun _ => false) i 8 = byteN (fun _ => false) i 0 := byteN_cut (Nat.zero_le _) (fun _ _ _ => rfl)
    rw [this]; rfl
set_option maxRecDepth 100000 in
set_option maxHeartbeats 1000000 in
theorem bBuild_any (ad : Option Addr) (cap : Nat) (keys : List (List UInt8)) (bits : Int) (w : World) (hm : keys.length ≤ 9223372036854775807) (hr : Row w ad (sv keys)) (hsh : Short keys) (h1 : -9223372036854775808 ≤ bits) (h2 : bits ≤ 9223372036854775807) :
    Calls Tryz.prog 20 #[.slice ad keys.length cap, .int .i64 bits] w (RetBE 5 w (buildF keys bits).1 (buildF keys bits).2) := by
  by_cases hb : bits < 1 ∨ 64 < bits
  · have H := Lib.hid (show buildF keys bits = ([], 1) by unfold buildF; rw [if_pos hb])
    rcases hb with hb | hb
    all_goals
      go_enter Tryz.func20, Tryz.ntmps20
      go_wp2
      go_ret2
      refine ⟨none, 0, ?_, ?_, Gr.refl _⟩
      · rw [H.out]; rfl
      · rw [H.out]; exact Owns.empty _ _ _ _
  · obtain ⟨b, rfl⟩ := Int.eq_ofNat_of_zero_le (show 0 ≤ bits by omega)
    have hb1 : 1 ≤ b := by omega
    have hb2 : b ≤ 64 := by omega
    clear h1 h2
    by_cases hk : 100000 < keys.length
    · have H := Lib.hid (show buildF keys b = ([], 14) by unfold buildF; rw [if_neg hb, if_pos hk])
      clear hb
      go_enter Tryz.func20, Tryz.ntmps20
      go_wp2
      go_ret2
      refine ⟨none, 0, ?_, ?_, Gr.refl _⟩
      · rw [H.out]; rfl
      · rw [H.out]; exact Owns.empty _ _ _ _
    · have H := Lib.hid (show buildF keys b = (filterF keys b, 0) by unfold buildF; rw [if_neg hb, if_neg hk]; rfl)
      clear hb
      have hlen : keys.length ≤ 100000 := by omega
      have hprod : keys.length * b ≤ 100000 * 64 := Nat.mul_le_mul hlen hb2
      have hp0 : 0 ≤ (keys.length : Int) * (b : Int) := by have := Int.natCast_nonneg (keys.length * b); rw [Int.natCast_mul] at this; exact this
      have hp1 : (keys.length : Int) * (b : Int) ≤ 6400000 := by have h3 : ((keys.length * b : Nat) : Int) ≤ 6400000 := (by omega); rw [Int.natCast_mul] at h3; exact h3
      have hN : ((nF keys.length b : Nat) : Int) = (max ((keys.length : Int) * (b : Int)) 64 + 7) / 8 := by
        unfold nF
        have h3 : ((keys.length * b : Nat) : Int) = (keys.length : Int) * (b : Int) := Int.natCast_mul _ _
        omega
      have hn8 : 8 ≤ nF keys.length b := by unfold nF; omega
      have hn9 : nF keys.length b ≤ 800001 := by unfold nF; omega
      have hK : ((kF b : Nat) : Int) = min (max ((b : Int) * 69 / 100) 1) 30 := by unfold kF; omega
      have hk1 : 1 ≤ kF b := by unfold kF; omega
      have hk2 : kF b ≤ 30 := by unfold kF; omega
      have HF := Lib.hid (show filterF keys b = rowF (onF keys (8 * nF keys.length b) (kF b)) (nF keys.length b) ++ [UInt8.ofNat (kF b)] from rfl)
      generalize nF keys.length b = n at *
      generalize kF b = k at *
      have HN := Lib.hid hN; have HK := Lib.hid hK; clear hN hK
      have hm1 : n + 1 ≤ maxLen := by unfold maxLen; omega
      have hm2 : 1 * (n + 1) ≤ 281474976710656 := by omega
      go_enter Tryz.func20, Tryz.ntmps20
      go_wp2_with (at_make; go_must (refine wp_make elemB rfl rfl _ _ rfl n (n + 1) rfl rfl (by have := HN.out; omega) (by have := HN.out; omega) (Nat.le_succ n) hm1 hm2 ?_); intro w1 o1 g1 z1)
      rw [← HN.out, ← HK.out]
      have hbase := g1.size
      have o2 : Owns (w1.alloc (.cells #[.slice (some ⟨w.heap.size, 0, none⟩) n (n + 1)] 27)) w.heap.size 5 1 (some ⟨w.heap.size, 0, none⟩) (n + 1) n (bv (rowF (onF (keys.take 0) (8 * n) k) n)) := by
        have h3 := o1.gr (Gr.alloc w1 (.cells #[.slice (some ⟨w.heap.size, 0, none⟩) n (n + 1)] 27))
        rw [bv_replicate, zero_row] at h3
        exact h3
      have c2 : (w1.alloc (.cells #[.slice (some ⟨w.heap.size, 0, none⟩) n (n + 1)] 27)).cell? ⟨w.heap.size + 1, 0, none⟩ = some (.slice (some ⟨w.heap.size, 0, none⟩) n (n + 1)) := by
        have := (Blk.new w1 27 #[.slice (some ⟨w.heap.size, 0, none⟩) n (n + 1)]).cell (i := 0) rfl
        rw [z1] at this
        exact this
      have G2 := g1.trans (Gr.alloc w1 (.cells #[.slice (some ⟨w.heap.size, 0, none⟩) n (n + 1)] 27))
      clear o1 g1 z1 hbase
      have hne : w.heap.size + 1 ≠ w.heap.size := by omega
      have hn0 : 0 < n := by omega
      have hn5 : n ≤ 500000000 := by omega
      have hk5 : k ≤ 255 := by omega
      go_loopw [10, 40] (fun _ i wr => ∃ j : Nat, j ≤ keys.length ∧ i = .int .i64 (j : Int) ∧ Owns wr w.heap.size 5 1 (some ⟨w.heap.size, 0, none⟩) (n + 1) n (bv (rowF (onF (keys.take j) (8 * n) k) n)) ∧ wr.cell? ⟨w.heap.size + 1, 0, none⟩ = some (.slice (some ⟨w.heap.size, 0, none⟩) n (n + 1)) ∧ Gr w wr) (fun _ i _ => keys.length - (intOf i).toNat)
      case atStart => exact ⟨0, Nat.zero_le _, rfl, o2, c2, G2⟩
      case round =>
        obtain ⟨j, hj, rfl, ho, hc, hg⟩ := hrel
        by_cases hlt : j < keys.length
        · obtain ⟨bb, off, rfl, hcell⟩ := (hr.gr hg) j _ (sv_get keys j hlt)
          have HE := Lib.hid (fun w' hs ho => eachB_any keys[j] (w.heap.size + 1) w.heap.size n (n + 1) w.heap.size k (onF (keys.take j) (8 * n) k) w' (hsh.at_ j hlt) hs hne ho hn0 hn5 hk5)
          go_wp2_with (go_at_call 53; refine (HE.out _ hc ho).mono ?_; rintro e w3 ⟨rfl, ho3, hg3⟩)
          go_roundw
          case rel =>
            refine ⟨j + 1, by omega, by go_num, ?_, hg3.cell hc (fun e => hne (by injection e)), hg.of_far hg3 (Nat.le_refl _)⟩
            have : (fun p => onF (keys.take j) (8 * n) k p || probesF (hashF keys[j]) (8 * n) k p) = onF (keys.take (j + 1)) (8 * n) k := by
              funext p
              rw [onF_take keys j hlt]
            rw [← this]; exact ho3
          case measure => simp [intOf]; omega
        · obtain rfl : j = keys.length := by omega
          rw [List.take_length] at ho
          have HX := Lib.hid (show (k : Int) % 256 = ((UInt8.ofNat k).toNat : Int) by rw [UInt8.toNat_ofNat']; omega)
          have HX2 := Lib.hid (show (k : Int) = ((UInt8.ofNat k).toNat : Int) by rw [UInt8.toNat_ofNat']; omega)
          have hbs : w.heap.size ≤ (wr.alloc (.cells #[.int .u8 (k : Int)] 5)).heap.size := by have := hg.size; simp; omega
          have hm3 : (n + 1) * 1 ≤ 140737488355328 := by omega
          go_wp2_with (at_builtin; go_must (refine wp_append elemB rfl _ _ rfl rfl (ho.gr (Gr.alloc _ _)) rfl (Src.one _ _ (UInt8.ofNat k) HX2.out Tryz.underlying27) hm1 hm3 hbs ?_); intro ad2 cap2 w4 o4 k4 f4)
          go_ret2
          have hlf : (filterF keys b).length = n + 1 := by rw [HF.out]; simp [rowF_len]
          refine ⟨ad2, cap2, ?_, ?_, hg.app ho (Nat.le_refl _) k4⟩
          · rw [H.out]; simp only [hlf]; rfl
          · rw [H.out]; simp only [hlf]; rw [HF.out, bv_append]; exact o4
end Go.Proofs.YtlfbelocdpboeaaGreatDoor
/- Layer 6 (bloom): filters are asked. -/
namespace Go.Proofs.YtlfbelocdpboeaaGreatDoor
set_option linter.unusedVariables false
set_option linter.unusedSimpArgs false
open Go.RowKit Bloom
/-- has it a form? -/
def rightF (l : List UInt8) : Bool := decide (2 ≤ l.length) && decide (1 ≤ (l.getD (l.length - 1) 0).toNat) && decide ((l.getD (l.length - 1) 0).toNat ≤ 30)
theorem right_of {l : List UInt8} (h : rightF l = true) : ∃ m x, l = m ++ [x] ∧ 1 ≤ m.length ∧ 1 ≤ x.toNat ∧ x.toNat ≤ 30 := by
  simp only [rightF, Bool.and_eq_true, decide_eq_true_eq] at h
  obtain ⟨⟨h1, h2⟩, h3⟩ := h
  have hne : l ≠ [] := by rintro rfl; simp at h1
  have e : l.getD (l.length - 1) 0 = l.getLast hne := by
    rw [List.getD_eq_getElem?_getD, List.getElem?_eq_getElem (by omega), Option.getD_some, List.getLast_eq_getElem]
  rw [e] at h2 h3
  exact ⟨l.dropLast, l.getLast hne, (List.dropLast_concat_getLast hne).symm, by simp; omega, h2, h3⟩
theorem right_mk {m : List UInt8} {x : UInt8} (h1 : 1 ≤ m.length) (h2 : 1 ≤ x.toNat) (h3 : x.toNat ≤ 30) : rightF (m ++ [x]) = true := by
  simp [rightF]
  omega
theorem last_get (m : List UInt8) (x : UInt8) : (m ++ [x])[m.length]'(by simp) = x := by simp
set_option maxRecDepth 100000 in
set_option maxHeartbeats 1000000 in
theorem split_yes (m : List UInt8) (x : UInt8) (ad : Option Addr) (cap : Nat) (w : World) (hm : m.length + 1 ≤ cap) (hcm : cap ≤ maxLen) (h1 : 1 ≤ m.length) (h2 : 1 ≤ x.toNat) (h3 : x.toNat ≤ 30) (hb : Bytes w ad (m ++ [x])) :
    Calls Tryz.prog 92 #[.slice ad (m.length + 1) cap] w fun e w' => e = .returned (.tuple #[.slice ad m.length cap, .int .i64 (x.toNat : Int), .bool true]) ∧ Gr w w' := by
  unfold maxLen at hcm
  obtain ⟨b, off, rfl, hc⟩ := hb m.length (by simp)
  rw [last_get] at hc
  have hx2 : (1 : Int) ≤ (x.toNat : Int) := by omega
  have hx3 : (x.toNat : Int) ≤ 30 := by omega
  have hml : m.length < m.length + 1 := by omega
  go_enter Tryz.func92, Tryz.ntmps92
  go_wp2
  go_quiet (fail)
  go_wp2
  exact bodyPost_ret (v := .tuple #[.slice (some ⟨b, off, none⟩) m.length cap, .int .i64 (x.toNat : Int), .bool true]) (by simp [results, Tryz.results92, go_sem]) rfl ⟨rfl, Gr.drewN _ _⟩
set_option maxRecDepth 100000 in
set_option maxHeartbeats 1000000 in
theorem split_no (l : List UInt8) (ad : Option Addr) (cap : Nat) (w : World) (hm : l.length ≤ maxLen) (h : rightF l = false) (hb : Bytes w ad l) :
    Calls Tryz.prog 92 #[.slice ad l.length cap] w fun e w' => e = .returned (.tuple #[.slice none 0 0, .int .i64 0, .bool false]) ∧ Gr w w' := by
  unfold maxLen at hm
  by_cases h2 : 2 ≤ l.length
  · obtain ⟨k, hk⟩ : ∃ k, l.length = k + 1 := ⟨l.length - 1, by omega⟩
    have hkl : k < l.length := by omega
    obtain ⟨b, off, rfl, hc⟩ := hb k hkl
    have hd : l.getD (l.length - 1) 0 = l[k] := by
      rw [hk, List.getD_eq_getElem?_getD, Nat.add_sub_cancel, List.getElem?_eq_getElem hkl, Option.getD_some]
    have hbad : ¬ (1 ≤ l[k].toNat ∧ l[k].toNat ≤ 30) := by
      intro ⟨h3, h4⟩
      have : rightF l = true := by
        simp only [rightF, Bool.and_eq_true, decide_eq_true_eq]
        rw [hd]
        exact ⟨⟨h2, h3⟩, h4⟩
      rw [this] at h; cases h
    have HK := Lib.hid hk
    clear hd h
    generalize l[k] = x at *
    rw [hk]
    have hk1 : 1 ≤ k := by omega
    have hk2 : k + 1 ≤ 9223372036854775807 := by omega
    clear hk hkl hm h2
    have hx := byte_hi x
    by_cases hx1 : 1 ≤ x.toNat
    · have hx2 : (1 : Int) ≤ (x.toNat : Int) := by omega
      have hx3 : (30 : Int) < (x.toNat : Int) := by omega
      clear hbad
      go_enter Tryz.func92, Tryz.ntmps92
      go_wp2
      go_ret3
      exact ⟨rfl, Gr.refl _⟩
    · have hx2 : (x.toNat : Int) < 1 := by omega
      clear hbad
      go_enter Tryz.func92, Tryz.ntmps92
      go_wp2
      go_ret3
      exact ⟨rfl, Gr.refl _⟩
  · go_enter Tryz.func92, Tryz.ntmps92
    go_wp2
    go_ret3
    exact ⟨rfl, Gr.refl _⟩
/-- may it be there? -/
def mayF (l : List UInt8) (h : BitVec 32) : Bool := !rightF l || allF (l.take (l.length - 1)) h (8 * (l.length - 1)) (l.getD (l.length - 1) 0).toNat
theorem may_yes (m : List UInt8) (x : UInt8) (h : BitVec 32) (h1 : 1 ≤ m.length) (h2 : 1 ≤ x.toNat) (h3 : x.toNat ≤ 30) : mayF (m ++ [x]) h = allF m h (8 * m.length) x.toNat := by
  unfold mayF
  rw [right_mk h1 h2 h3]
  simp
theorem may_no {l : List UInt8} (h : BitVec 32) (hr : rightF l = false) : mayF l h = true := by unfold mayF; rw [hr]; rfl
set_option maxRecDepth 100000 in
set_option maxHeartbeats 1000000 in
theorem May_any (l key : List UInt8) (ad : Option Addr) (cap : Nat) (w : World) (hlc : l.length ≤ cap) (hcm : cap ≤ maxLen) (hl : l.length ≤ 500000000) (hb : Bytes w ad l) (hk : key.length ≤ 9223372036854775807) :
    Calls Tryz.prog 71 #[.slice ad l.length cap, .string (str key)] w fun e w' => e = .returned (.bool (mayF l (hashF key))) ∧ Gr w w' := by
  cases hr : rightF l with
  | true =>
    obtain ⟨m, x, rfl, h1, h2, h3⟩ := right_of hr
    rw [may_yes m x _ h1 h2 h3]
    simp only [List.length_append, List.length_cons, List.length_nil, Nat.zero_add] at hlc hl ⊢
    have HS := Lib.hid (split_yes m x ad cap w hlc hcm h1 h2 h3 hb)
    have hbm : Bytes w ad m := by have := hb.take m.length; simpa using this
    have hx : x.toNat ≤ 255 := by omega
    have hml : m.length ≤ 500000000 := by omega
    go_enter Tryz.func71, Tryz.ntmps71
    go_wp2_with (first
      | (go_at_call 92; refine HS.out.mono ?_; rintro e w1 ⟨rfl, g1⟩; have HE := Lib.hid (eachM_any key w1.heap.size cap x.toNat ad m (w1.alloc (.cells #[.slice ad m.length cap] 27)) hk ((Blk.new w1 27 #[.slice ad m.length cap]).cell rfl) ((hbm.gr g1).gr (Gr.alloc _ _)) h1 hml hx))
      | (go_at_call 53; refine HE.out.mono ?_; rintro e w2 ⟨rfl, g2⟩))
    go_ret
    exact ⟨rfl, (g1.trans (Gr.alloc _ _)).trans g2⟩
  | false =>
    rw [may_no _ hr]
    have HS := Lib.hid (split_no l ad cap w (Nat.le_trans hlc hcm) hr hb)
    go_enter Tryz.func71, Tryz.ntmps71
    go_wp2_with (go_at_call 92; refine HS.out.mono ?_; rintro e w1 ⟨rfl, g1⟩)
    go_ret
    exact ⟨rfl, g1.trans (Gr.alloc _ _)⟩
end Go.Proofs.YtlfbelocdpboeaaGreatDoor
/- Layer 6 (bloom): filters are merged; does a filter do what it should? -/
namespace Go.Proofs.YtlfbelocdpboeaaGreatDoor
set_option linter.unusedVariables false
set_option linter.unusedSimpArgs false
open Go.RowKit Bloom
def orF (a b : List UInt8) : List UInt8 := List.zipWith (· ||| ·) a b
theorem orF_len (a b : List UInt8) (h : a.length = b.length) : (orF a b).length = a.length := by simp [orF, h]
theorem orF_take (a b : List UInt8) (i : Nat) (h1 : i < a.length) (h2 : i < b.length) : orF (a.take (i + 1)) (b.take (i + 1)) = orF (a.take i) (b.take i) ++ [a[i] ||| b[i]] := by
  unfold orF
  rw [List.take_succ_eq_append_getElem h1, List.take_succ_eq_append_getElem h2, List.zipWith_append (by simp; omega)]
  rfl
def mergeF (a b : List UInt8) : List UInt8 × Nat :=
  if rightF a = false ∨ rightF b = false then ([], 2)
  else if a.length ≠ b.length ∨ a.getD (a.length - 1) 0 ≠ b.getD (b.length - 1) 0 then ([], 1)
  else (orF (a.take (a.length - 1)) (b.take (b.length - 1)) ++ [a.getD (a.length - 1) 0], 0)
theorem merge_good (m m' : List UInt8) (x : UInt8) (hlen : m'.length = m.length) (h1 : 1 ≤ m.length) (h2 : 1 ≤ x.toNat) (h3 : x.toNat ≤ 30) : mergeF (m ++ [x]) (m' ++ [x]) = (orF m m' ++ [x], 0) := by
  unfold mergeF
  rw [right_mk h1 h2 h3, right_mk (by omega) h2 h3, if_neg (by simp), if_neg (by simp [hlen])]
  simp
theorem merge_apart (m m' : List UInt8) (x y : UInt8) (h : m.length ≠ m'.length ∨ x ≠ y) (h1 : 1 ≤ m.length) (h1' : 1 ≤ m'.length) (h2 : 1 ≤ x.toNat) (h3 : x.toNat ≤ 30) (h2' : 1 ≤ y.toNat) (h3' : y.toNat ≤ 30) : mergeF (m ++ [x]) (m' ++ [y]) = ([], 1) := by
  unfold mergeF
  rw [right_mk h1 h2 h3, right_mk h1' h2' h3', if_neg (by simp), if_pos (by simpa using h)]
theorem merge_form {a b : List UInt8} (h : rightF a = false ∨ rightF b = false) : mergeF a b = ([], 2) := by
  unfold mergeF
  rw [if_pos h]
theorem split_any (l : List UInt8) (ad : Option Addr) (cap : Nat) (w : World) (hlc : l.length ≤ cap) (hcm : cap ≤ maxLen) (hb : Bytes w ad l) :
    ∃ s x, ∀ w1, Gr w w1 → Calls Tryz.prog 92 #[.slice ad l.length cap] w1 fun e w' => e = .returned (.tuple #[s, .int .i64 x, .bool (rightF l)]) ∧ Gr w1 w' := by
  cases hr : rightF l with
  | true =>
    obtain ⟨m, x, rfl, h1, h2, h3⟩ := right_of hr
    simp only [List.length_append, List.length_cons, List.length_nil, Nat.zero_add] at hlc ⊢
    exact ⟨_, _, fun w1 g => split_yes m x ad cap w1 hlc hcm h1 h2 h3 (hb.gr g)⟩
  | false => exact ⟨_, _, fun w1 g => split_no l ad cap w1 (Nat.le_trans hlc hcm) hr (hb.gr g)⟩
end Go.Proofs.YtlfbelocdpboeaaGreatDoor
/- Layer 6 (bloom): the reference's probes and questions. -/
namespace Go.Proofs.YtlfbelocdpboeaaGreatDoor
set_option linter.unusedVariables false
set_option linter.unusedSimpArgs false
open Go.RowKit Bloom
theorem elemI : Elem Tryz.prog 107 3 (.int .i64 0) 1 8 := ⟨by kernel_rfl, by kernel_rfl, rfl, by decide⟩
/-- numbers, as Go's values -/
def nv (l : List Nat) : List Value := l.map fun (n : Nat) => Value.int .i64 (n : Int)
theorem nv_get (l : List Nat) (i : Nat) (h : i < l.length) : (nv l)[i]? = some (.int .i64 (l[i] : Int)) := by simp [nv, h]
theorem nv_append (l m : List Nat) : nv (l ++ m) = nv l ++ nv m := by simp [nv]
def probesL (h : BitVec 32) (b k : Nat) : List Nat := (List.range k).map (bitAt h b)
theorem probesL_len (h : BitVec 32) (b k : Nat) : (probesL h b k).length = k := by simp [probesL]
theorem probesL_succ (h : BitVec 32) (b k : Nat) : probesL h b (k + 1) = probesL h b k ++ [bitAt h b k] := by simp [probesL, List.range_succ]
theorem probesL_get (h : BitVec 32) (b k i : Nat) (hi : i < (probesL h b k).length) : (probesL h b k)[i] = bitAt h b i := by simp [probesL]
theorem dF_nat (h : BitVec 32) : (dF h).toNat = h.toNat / 131072 + h.toNat % 131072 * 32768 := by
  unfold dF
  rw [BitVec.toNat_or, BitVec.toNat_shiftLeft, BitVec.toNat_ushiftRight, Nat.shiftRight_eq_div_pow, Nat.shiftLeft_eq]
  have hlt := h.isLt
  have e : h.toNat * 2 ^ 15 % 2 ^ 32 = (h.toNat % 131072) * 2 ^ 15 := by omega
  rw [e]
  have h1 : h.toNat / 2 ^ 17 < 2 ^ 15 := by omega
  rw [nat_join 15 _ _ (Nat.mul_mod_left _ _) h1]
  omega
theorem dU (h : BitVec 32) : U h / 131072 + U h % 131072 * 32768 = U (dF h) := by
  unfold U
  rw [dF_nat]
  omega
theorem atU (h : BitVec 32) (i b : Nat) (hi : i < 4294967296) : (U h + (i : Int) * U (dF h) % 4294967296) % 4294967296 % (b : Int) = (bitAt h b i : Int) := by
  rw [U_lit (m := (i : Int)) i rfl hi, U_mul, U_add, U_mod]
  rfl
set_option maxRecDepth 100000 in
set_option maxHeartbeats 1000000 in
theorem rProbes_any (key : List UInt8) (b k : Nat) (w : World) (hm : key.length ≤ 9223372036854775807) (hb0 : 0 < b) (hb : b < 4294967296) (hk : k ≤ 255) :
    Calls Tryz.prog 78 #[.string (str key), .int .i64 (b : Int), .int .i64 (k : Int)] w fun e w' => ∃ ad cap, e = .returned (.slice ad k cap) ∧ Owns w' w.heap.size 3 1 ad cap k (nv (probesL (hashF key) b k)) ∧ Gr w w' := by
  have HH := Lib.hid (fun w => rHash_any key w hm)
  generalize hashF key = h at *
  have hU0 := U_lo h
  have hU1 := U_hi h
  have hd := dU h
  have hd0 := U_lo (dF h)
  have hd1 := U_hi (dF h)
  go_enter Tryz.func78, Tryz.ntmps78
  go_wp2_with (go_at_call 95; refine (HH.out _).mono ?_; rintro e w1 ⟨rfl, g1⟩)
  clear hd
  go_loopw [9, 10] (fun v i wr => ∃ (j : Nat) (ad : Option Addr) (cap : Nat), j ≤ k ∧ i = .int .i64 (j : Int) ∧ v = .slice ad j cap ∧ Owns wr w.heap.size 3 1 ad cap j (nv (probesL h b j)) ∧ Gr w wr) (fun _ i _ => k - (intOf i).toNat)
  case atStart => exact ⟨0, none, 0, Nat.zero_le _, rfl, rfl, Owns.empty _ _ _ _, g1⟩
  case round =>
    obtain ⟨j, ad, cap, hj, rfl, rfl, ho, hg⟩ := hrel
    by_cases hlt : j < k
    · have HX := Lib.hid (show wrap64 ((U h + (j : Int) * U (dF h)) % 4294967296 % (b : Int)) = (bitAt h b j : Int) by
        have h1 := atU h j b (by omega)
        have h2 : (U h + (j : Int) * U (dF h) % 4294967296) % 4294967296 = (U h + (j : Int) * U (dF h)) % 4294967296 := by omega
        rw [h2] at h1
        have h3 : bitAt h b j < b := Nat.mod_lt _ hb0
        rw [h1, IntWalk.wrap64_in _ ⟨by omega, by omega⟩])
      have hm1 : j + 1 ≤ maxLen := by unfold maxLen; omega
      have hm2 : (j + 1) * 8 ≤ 140737488355328 := by omega
      have hbs := hg.size
      have hjb : (j : Int) < 4294967296 := by omega
      have hbt : ((bitAt h b j : Nat) : Int) < 4294967296 := by have := Nat.mod_lt (atF h j).toNat hb0; unfold bitAt; omega
      have hb1 : (b : Int) < 4294967296 := by omega
      have hb2 : 0 < (b : Int) := by omega
      go_wp2_with (at_builtin; go_must (refine wp_append elemI rfl _ _ rfl rfl (ho.gr (Gr.alloc _ _)) rfl (src_cell _ _ rfl Tryz.underlying107) hm1 hm2 (by simp; omega) ?_); intro ad2 cap2 w4 o4 k4 f4)
      rw [HX.out] at o4
      go_roundw
      case rel => exact ⟨j + 1, ad2, cap2, by omega, by go_num, rfl, by rw [probesL_succ, nv_append]; exact o4, hg.app ho (Nat.le_refl _) k4⟩
      case measure => simp [intOf]; omega
    · obtain rfl : j = k := by omega
      go_wp2
      go_ret
      exact ⟨ad, cap, rfl, ho, hg⟩
theorem Owns.get {w : World} {base : Nat} {e : TypeId} {ad : Option Addr} {cap n : Nat} {xs : List Value} (h : Owns w base e 1 ad cap n xs) : xs.length = n := by
  have := h.1; omega
end Go.Proofs.YtlfbelocdpboeaaGreatDoor
/- Layer 6 (bloom): blooms answers true; BloomHashes answers true. -/
namespace Go.Proofs.YtlfbelocdpboeaaGreatDoor
set_option linter.unusedVariables false
set_option linter.unusedSimpArgs false
open Go.RowKit Bloom
theorem build_nil : buildF [] 10 = ([0, 0, 0, 0, 0, 0, 0, 0, 6], 0) := by decide +kernel
theorem build_a : ∃ G : List UInt8, buildF [[97]] 10 = (G, 0) ∧ G.length = 9 ∧ mayF G (hashF [97]) = true := ⟨_, rfl, by decide +kernel, by decide +kernel⟩
theorem may_nil : mayF [0, 0, 0, 0, 0, 0, 0, 0, 6] (hashF [97]) = false := by decide +kernel
theorem hash_nil : hashF [] = 3164544308#32 := by decide +kernel
theorem U_seed : U 3164544308#32 = 3164544308 := (U_lit (m := 3164544308) 3164544308 rfl (by decide)).symm
theorem owns_le {w : World} {base : Nat} {e : TypeId} {size : Nat} {ad : Option Addr} {cap n : Nat} {xs : List Value} (h : Owns w base e size ad cap n xs) : n ≤ cap ∧ cap ≤ maxLen := ⟨h.2.1, h.2.2.1⟩
theorem build_nil_any (w : World) : Calls Tryz.prog 20 #[.slice none 0 0, .int .i64 10] w (RetBE 5 w [0, 0, 0, 0, 0, 0, 0, 0, 6] 0) := by
  have B1 := bBuild_any none 0 [] 10 w (by decide) (Row.nil _ _) (fun s h => by simp at h) (by decide) (by decide)
  rw [build_nil] at B1
  exact B1
theorem build_a_any (G : List UInt8) (hG : buildF [[97]] 10 = (G, 0)) (w1 : World) : Calls Tryz.prog 20 #[.slice (some ⟨w1.heap.size, 0, none⟩) 1 1, .int .i64 10] (w1.alloc (.cells #[.string ⟨#[97]⟩] 9)) (RetBE 5 (w1.alloc (.cells #[.string ⟨#[97]⟩] 9)) G 0) := by
  have hrow : Row (w1.alloc (.cells #[.string ⟨#[97]⟩] 9)) (some ⟨w1.heap.size, 0, none⟩) (sv [[97]]) := Row.alloc _ _ _ (0, 0) _ rfl
  have hsh : Short [[97]] := fun s h => by
    rw [List.mem_singleton.1 h]; decide
  have B2 := bBuild_any (some ⟨w1.heap.size, 0, none⟩) 1 [[97]] 10 (w1.alloc (.cells #[.string ⟨#[97]⟩] 9)) (by decide) hrow hsh (by decide) (by decide)
  rw [hG] at B2
  exact B2
theorem may_nil_any (ad : Option Addr) (cap : Nat) (w : World) (h1 : 9 ≤ cap) (h2 : cap ≤ maxLen) (hb : Bytes w ad [0, 0, 0, 0, 0, 0, 0, 0, 6]) : Calls Tryz.prog 71 #[.slice ad 9 cap, .string ⟨#[97]⟩] w fun e w' => e = .returned (.bool false) ∧ Gr w w' := by
  have h := May_any [0, 0, 0, 0, 0, 0, 0, 0, 6] [97] ad cap w h1 h2 (by decide) hb (by decide)
  rw [may_nil] at h
  exact h
theorem may_a_any (G : List UInt8) (hGl : G.length = 9) (hGm : mayF G (hashF [97]) = true) (ad : Option Addr) (cap : Nat) (w : World) (h1 : G.length ≤ cap) (h2 : cap ≤ maxLen) (hb : Bytes w ad G) : Calls Tryz.prog 71 #[.slice ad G.length cap, .string ⟨#[97]⟩] w fun e w' => e = .returned (.bool true) ∧ Gr w w' := by
  have h := May_any G [97] ad cap w h1 h2 (by omega) hb (by decide)
  rw [hGm] at h
  exact h
theorem hash_nil_any (w : World) : Calls Tryz.prog 83 #[.string ⟨#[]⟩] w fun e w' => e = .returned (.int .u32 3164544308) ∧ Gr w w' := by
  have h := Hash_any [] w (by decide)
  rw [hash_nil, U_seed] at h
  exact h
end Go.Proofs.YtlfbelocdpboeaaGreatDoor
namespace Go.Proofs.YtlfbelocdpboeaaGreatDoor
set_option linter.unusedVariables false
set_option linter.unusedSimpArgs false
open Go.RowKit Bloom
theorem or_row (on on' : Nat → Bool) (n : Nat) : orF (rowF on n) (rowF on' n) = rowF (fun p => on p || on' p) n := by
  apply List.ext_getElem
  · simp [orF, rowF_len]
  · intro q h1 h2
    rw [rowF_get]
    simp only [orF, List.getElem_zipWith, rowF_get]
    apply UInt8.toNat_inj.1
    rw [UInt8.toNat_or, byteF_nat, byteF_nat, byteF_nat]
    apply Nat.eq_of_testBit_eq
    intro r
    rw [Nat.testBit_or, byteN_bit, byteN_bit, byteN_bit]
    cases decide (r < 8) <;> simp
theorem k_nat {k : Nat} (h : k ≤ 30) : (UInt8.ofNat k).toNat = k := by rw [UInt8.toNat_ofNat']; omega
theorem may_row (on : Nat → Bool) (n k : Nat) (h : BitVec 32) (hn : 1 ≤ n) (h1 : 1 ≤ k) (h2 : k ≤ 30) : mayF (rowF on n ++ [UInt8.ofNat k]) h = (List.range k).all fun j => on (bitAt h (8 * n) j) := by
  rw [may_yes _ _ _ (by rw [rowF_len]; exact hn) (by rw [k_nat h2]; exact h1) (by rw [k_nat h2]; exact h2), k_nat h2, rowF_len]
  unfold allF
  rw [Bool.eq_iff_iff, List.all_eq_true, List.all_eq_true]
  have e : ∀ j, bitOf (rowF on n) (bitAt h (8 * n) j) = on (bitAt h (8 * n) j) := fun j => bit_row on n _ (Nat.mod_lt _ (by omega))
  exact ⟨fun hj j hm => (e j) ▸ hj j hm, fun hj j hm => (e j).symm ▸ hj j hm⟩
theorem merge_rows (on on' : Nat → Bool) (n k : Nat) (hn : 1 ≤ n) (h1 : 1 ≤ k) (h2 : k ≤ 30) : mergeF (rowF on n ++ [UInt8.ofNat k]) (rowF on' n ++ [UInt8.ofNat k]) = (rowF (fun p => on p || on' p) n ++ [UInt8.ofNat k], 0) := by
  rw [merge_good _ _ _ (by rw [rowF_len, rowF_len]) (by rw [rowF_len]; exact hn) (by rw [k_nat h2]; exact h1) (by rw [k_nat h2]; exact h2), or_row]
theorem kF_le (b : Nat) : 1 ≤ kF b ∧ kF b ≤ 30 := by unfold kF; omega
theorem nF_le {len b : Nat} (hl : len ≤ 100000) (hb : b ≤ 64) : 8 ≤ nF len b ∧ nF len b ≤ 800001 := by
  have : len * b ≤ 100000 * 64 := Nat.mul_le_mul hl hb
  unfold nF; omega
theorem build_good {keys : List (List UInt8)} {b : Nat} (h1 : 1 ≤ b) (h2 : b ≤ 64) (hk : keys.length ≤ 100000) : buildF keys (b : Int) = (filterF keys b, 0) := by
  unfold buildF
  rw [if_neg (by omega), if_neg (by omega)]; rfl
theorem Row.take_ {w : World} {ad : Option Addr} {vs : List Value} (h : Row w ad vs) (n : Nat) : Row w ad (vs.take n) := fun i u hi => by
  rw [List.getElem?_take] at hi
  split at hi
  · exact h i u hi
  · cases hi
theorem sv_take (keys : List (List UInt8)) (n : Nat) : (sv keys).take n = sv (keys.take n) := by simp [sv, List.map_take]
theorem Short.take_ {l : List (List UInt8)} (h : Short l) (n : Nat) : Short (l.take n) := fun s hs => h s (List.mem_of_mem_take hs)
theorem Build_len (ad : Option Addr) (len cap : Nat) (keys : List (List UInt8)) (b : Nat) (w : World) (hlen : keys.length = len) (hm : len ≤ 100000) (h1 : 1 ≤ b) (h2 : b ≤ 64) (hr : Row w ad (sv keys)) (hsh : Short keys) :
    Calls Tryz.prog 20 #[.slice ad len cap, .int .i64 (b : Int)] w (RetBE 5 w (filterF keys b) 0) := by
  subst hlen
  have h := bBuild_any ad cap keys b w (by omega) hr hsh (by omega) (by omega)
  rw [build_good h1 h2 hm] at h
  exact h
theorem filter_len (keys : List (List UInt8)) (b : Nat) : (filterF keys b).length = nF keys.length b + 1 := by unfold filterF; rw [List.length_append, rowF_len]; rfl
end Go.Proofs.YtlfbelocdpboeaaGreatDoor
