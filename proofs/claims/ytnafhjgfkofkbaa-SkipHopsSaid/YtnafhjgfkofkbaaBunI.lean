/- Layer 11 (skip): what a cursor's calls tell, beside the reference's list. -/
import Derived.Test.YtnafhjgfkofkbaaBunE
import Derived.Test.YtnafhjgfkofkbaaBunA
import Derived.Test.YtnafhjgfkofkbaaBunB
import Derived.Test.YtnafhjgfkofkbaaBunG
import Derived.Test.YtnafhjgfkofkbaaBunC
import Derived.Test.YtnafhjgfkofkbaaBunH
/- Cells of the statements in memory: four values each; what the reference counts and places. -/
namespace Go.Proofs.Ytnafhjgfkofkbaa
set_option linter.unusedVariables false
set_option linter.unusedSimpArgs false
open Go.RowKit Ikey Varint
/-- a cell with any numbers -/
structure Ci where
  key : List UInt8
  seq : Int
  kind : Int
  val : List UInt8
def Ci.vr (c : Ci) : Vr := ⟨c.key, c.seq, c.kind⟩
def Ce.i (c : Ce) : Ci := ⟨c.key, c.seq, c.kind, c.val⟩
def c4 (c : Ci) : List Value := [.string (str c.key), .int .i64 c.seq, .int .i64 c.kind, .string (str c.val)]
def cv (l : List Ci) : List Value := l.flatMap c4
theorem cv_cons (c : Ci) (l : List Ci) : cv (c :: l) = c4 c ++ cv l := rfl
theorem cv_length (l : List Ci) : (cv l).length = l.length * 4 := by
  induction l with
  | nil => rfl
  | cons p l ih => rw [cv_cons, List.length_append, ih, List.length_cons, c4]; simp only [List.length_cons, List.length_nil]; omega
theorem cv_append (l m : List Ci) : cv (l ++ m) = cv l ++ cv m := by simp [cv]
theorem cv_drop (l : List Ci) (n : Nat) : cv (l.drop n) = (cv l).drop (n * 4) := by
  induction l generalizing n with
  | nil => simp [cv]
  | cons p l ih =>
    cases n with
    | zero => simp
    | succ n =>
      rw [List.drop_succ_cons, ih, cv_cons, show (n + 1) * 4 = 4 + n * 4 by omega, ← List.drop_drop]
      rfl
theorem cv_take (l : List Ci) (n : Nat) : cv (l.take n) = (cv l).take (n * 4) := by
  have h : cv l = cv (l.take n) ++ cv (l.drop n) := by rw [← cv_append, List.take_append_drop]
  by_cases hn : n ≤ l.length
  · rw [h]
    exact (List.take_left' (by rw [cv_length, List.length_take]; omega)).symm
  · rw [List.take_of_length_le (show l.length ≤ n by omega), List.take_of_length_le (by rw [cv_length]; omega)]
theorem cv_get (l : List Ci) (i : Nat) (h : i < l.length) (j : Nat) (hj : j < 4) : (cv l)[i * 4 + j]? = (c4 l[i])[j]? := by
  have e := cv_drop l i
  rw [List.drop_eq_getElem_cons h, cv_cons] at e
  have e2 := congrArg (·[j]?) e
  simp only [List.getElem?_drop] at e2
  rw [← e2, List.getElem?_append_left (by unfold c4; simp; omega)]
theorem cv_one (l : List Ci) : ∀ v ∈ cv l, v.oneCell' = true := by
  intro v hv
  simp only [cv, List.mem_flatMap] at hv
  obtain ⟨p, _, h⟩ := hv
  simp only [c4, List.mem_cons, List.not_mem_nil, or_false] at h
  rcases h with rfl | rfl | rfl | rfl <;> rfl
theorem elemC : Elem Try.prog 31 41 (.agg #[.string ⟨#[]⟩, .int .i64 0, .int .i64 0, .string ⟨#[]⟩]) 4 48 := ⟨by kernel_rfl, by kernel_rfl, rfl, by decide⟩
/-- where a cell of a row lies -/
theorem Row.ci {w : World} {ad : Option Addr} {l : List Ci} (h : Row w ad (cv l)) (i : Nat) (hi : i < l.length) :
    ∃ b off, ad = some ⟨b, off, none⟩ ∧ w.cell? ⟨b, off + i * 4, none⟩ = some (.string (str l[i].key)) ∧ w.cell? ⟨b, off + i * 4 + 1, none⟩ = some (.int .i64 l[i].seq) ∧ w.cell? ⟨b, off + i * 4 + 2, none⟩ = some (.int .i64 l[i].kind) ∧ w.cell? ⟨b, off + i * 4 + 3, none⟩ = some (.string (str l[i].val)) := by
  obtain ⟨b, off, e, c0⟩ := h (i * 4) _ (cv_get l i hi 0 (by omega))
  obtain ⟨b1, off1, e1, c1⟩ := h (i * 4 + 1) _ (cv_get l i hi 1 (by omega))
  obtain ⟨b2, off2, e2, c2⟩ := h (i * 4 + 2) _ (cv_get l i hi 2 (by omega))
  obtain ⟨b3, off3, e3, c3⟩ := h (i * 4 + 3) _ (cv_get l i hi 3 (by omega))
  rw [e] at e1 e2 e3
  cases e1; cases e2; cases e3
  exact ⟨b, off, e, c0, c1, c2, c3⟩
theorem Row.drop_ {w : World} {b off : Nat} {vs : List Value} (h : Row w (some ⟨b, off, none⟩) vs) (k : Nat) : Row w (some ⟨b, off + k, none⟩) (vs.drop k) := fun i u hi => by
  rw [List.getElem?_drop] at hi
  obtain ⟨b', off', e, hc⟩ := h (k + i) u hi
  cases e
  exact ⟨b, off + k, rfl, by rw [Nat.add_assoc]; exact hc⟩
/-- how many cells come ahead of a version -/
def rankI (v : Vr) : List Ci → Nat
  | [] => 0
  | c :: l => if vless c.vr v = true then rankI v l + 1 else 0
theorem rankI_le (v : Vr) : ∀ l, rankI v l ≤ l.length
  | [] => Nat.le_refl _
  | q :: l => by have := rankI_le v l; simp only [rankI, List.length_cons]; split <;> omega
theorem rankI_step {v : Vr} {l : List Ci} {i : Nat} (h : i < l.length) (hb : vless l[i].vr v = true) : rankI v (l.drop i) = rankI v (l.drop (i + 1)) + 1 := by
  rw [List.drop_eq_getElem_cons h, rankI, if_pos hb]
theorem rankI_stop {v : Vr} {l : List Ci} {i : Nat} (h : i < l.length) (hb : vless l[i].vr v = false) : rankI v (l.drop i) = 0 := by
  rw [List.drop_eq_getElem_cons h, rankI, if_neg (by rw [hb]; exact Bool.false_ne_true)]
theorem rankI_end {v : Vr} {l : List Ci} {i : Nat} (h : l.length ≤ i) : rankI v (l.drop i) = 0 := by
  rw [List.drop_of_length_le h]; rfl
def placeI (l : List Ci) (c : Ci) : List Ci := l.take (rankI c.vr l) ++ [c] ++ l.drop (rankI c.vr l)
theorem placeI_len (l : List Ci) (c : Ci) : (placeI l c).length = l.length + 1 := by
  have := rankI_le c.vr l
  unfold placeI
  simp only [List.length_append, List.length_take, List.length_drop, List.length_cons, List.length_nil]; omega
/-- the reference's cells -/
def ci (C : List Ce) : List Ci := C.map Ce.i
theorem ci_len (C : List Ce) : (ci C).length = C.length := by simp [ci]
theorem rank_ci (v : Vr) : ∀ C : List Ce, rankI v (ci C) = (C.takeWhile fun c => vless c.vr v).length
  | [] => rfl
  | c :: C => by
    have := rank_ci v C
    unfold ci at this ⊢
    rw [List.map_cons, rankI, List.takeWhile_cons]
    have e : c.i.vr = c.vr := rfl
    rw [e]
    cases h : vless c.vr v with
    | true => simp [this]
    | false => simp
end Go.Proofs.Ytnafhjgfkofkbaa
/- The reference of layer 11: a version's rank among the cells. -/
namespace Go.Proofs.Ytnafhjgfkofkbaa
set_option linter.unusedVariables false
set_option linter.unusedSimpArgs false
open Go.RowKit Ikey Varint
set_option maxRecDepth 100000 in
set_option maxHeartbeats 4000000 in
theorem Rank_any (gm : Nat) (fz : Bool) (ad : Option Addr) (cap : Nat) (l : List Ci) (v : Vr) (w : World) (hm : Blk w gm 38 [.slice ad l.length cap, .bool fz]) (hr : Row w ad (cv l)) (hl : l.length ≤ 1000000) :
    Calls Try.prog 15 #[.pointer (some ⟨gm, 0, none⟩), ver v.key v.seq v.kind] w fun e w' => e = .returned (.int .i64 (rankI v l : Nat)) ∧ Gr w w' := by
  have HL := Lib.hid (show ∀ (c : Ci) (w : World), Calls Try.prog 52 #[ver c.key c.seq c.kind, ver v.key v.seq v.kind] w fun e w' => e = .returned (.bool (vless c.vr v)) ∧ Gr w w' from fun c w => rLess_any c.key v.key c.seq c.kind v.seq v.kind w)
  have HR := Lib.hid hr.ci
  have g1 : Gr w (w.alloc (.cells #[.string (str v.key), .int .i64 v.seq, .int .i64 v.kind] 33)) := Gr.alloc _ _
  have m0 := (hm.gr g1).cell (i := 0) rfl
  have b3 := (Blk.new w 33 #[.string (str v.key), .int .i64 v.seq, .int .i64 v.kind]).three
  clear hm hr
  unfold ver at HL ⊢
  obtain ⟨c0, c1, c2, _⟩ := b3
  go_enter Try.func15, Try.ntmps15
  go_wp2
  go_loopw [5] (fun va wa => ∃ a : Nat, a ≤ l.length ∧ va = .int .i64 (a : Int) ∧ Gr (w.alloc (.cells #[.string (str v.key), .int .i64 v.seq, .int .i64 v.kind] 33)) wa ∧ rankI v l = a + rankI v (l.drop a)) (fun va _ => l.length - (intOf va).toNat)
  case atStart => exact ⟨0, Nat.zero_le _, rfl, Gr.refl _, by simp⟩
  case round =>
    obtain ⟨a, ha, rfl, hga, hp⟩ := hrel
    have m0' := hga.cell m0
    have d0 := hga.cell c0
    have d1 := hga.cell c1
    have d2 := hga.cell c2
    by_cases hlt : a < l.length
    · obtain ⟨b, off, rfl, e0, e1, e2, e3⟩ := HR.out a hlt
      have f0 := hga.cell (g1.cell e0)
      have f1 := hga.cell (g1.cell e1)
      have f2 := hga.cell (g1.cell e2)
      have HS := Lib.hid (fun h => rankI_step (v := v) hlt h)
      have HT := Lib.hid (fun h => rankI_stop (v := v) hlt h)
      generalize l[a] = c at *
      clear HR
      have HC := Lib.hid (HL.out c)
      have HP := Lib.hid hp
      clear hp
      cases hb : vless c.vr v with
      | true =>
        rw [hb] at HC
        go_wp2
        refine region_any_gr _ [Is ?r0, Is ?r1, Is ?r2, Is ?r3, Is (.slice (some ⟨b, off, none⟩) l.length cap), Is (.int .i64 (l.length : Int)), Is (.bool true), Is (.bool true), Is ?r8, Is ?r9, Is ?r10, Is (.slice (some ⟨b, off, none⟩) l.length cap), Is ?r12, Is (.pointer (some ⟨b, off + a * 4, none⟩)), Is ?r14, Is (.agg #[.string (str c.key), .int .i64 c.seq, .int .i64 c.kind]), Is (.agg #[.string (str v.key), .int .i64 v.seq, .int .i64 v.kind]), Is (.bool true), Is (.bool true)] (by kernel_rfl) (by kernel_rfl) (by kernel_rfl) rfl rfl ⟨Is.stable _, Is.stable _, Is.stable _, Is.stable _, Is.stable _, Is.stable _, Is.stable _, Is.stable _, Is.stable _, Is.stable _, Is.stable _, Is.stable _, Is.stable _, Is.stable _, Is.stable _, Is.stable _, Is.stable _, Is.stable _, Is.stable _, trivial⟩ ⟨?s0, ?s1, ?s2, ?s3, ?s4, ?s5, ?s6, ?s7, ?s8, ?s9, ?s10, ?s11, ?s12, ?s13, ?s14, ?s15, ?s16, ?s17, ?s18, trivial⟩ ?fin
        case' s0 | s1 | s2 | s3 | s4 | s5 | s6 | s7 | s8 | s9 | s10 | s11 | s12 | s13 | s14 | s15 | s16 | s17 | s18 =>
          intro ρ wr hρ hg hK
          simp [readsOf, slotsOf, Op.operands, Call.operands, tmpOf, List.filterMap_cons, List.filterMap_nil, KnownAll, knownOf, srcOf, depsOf, dstOf, Region.binds, nth, Is] at hK
          obtain ⟨hc, hf, hgl⟩ := hρ
          try simp only [wantedBy, dstOf, boolOf, nth, List.getD_cons_zero, List.getD_cons_succ, List.getElem?_cons_zero, List.getElem?_cons_succ, Option.bind_some, if_true, hK, BEq.rfl]
          try go_simp
          first | exact rfl | (rw [if_pos (by omega)]; exact is_here rfl) | (rw [dif_pos (by omega)]; exact is_here rfl) | exact congrArg (Value.int _) (IntWalk.i64_in _ ⟨by omega, by omega⟩) | skip
        case s4 => have z := hg.cell m0'; go_simp; exact rfl
        case s11 => have z := hg.cell m0'; go_simp; exact rfl
        case s15 => have z0 := hg.cell f0; have z1 := hg.cell f1; have z2 := hg.cell f2; go_simp; exact rfl
        case s16 => have z0 := hg.cell d0; have z1 := hg.cell d1; have z2 := hg.cell d2; go_simp; exact rfl
        case s17 => exact any_gr (HC.out _)
        case fin =>
          intro w1 val hg hH
          simp only [Holds, Is, Nat.zero_add, Nat.reduceAdd] at hH
          obtain ⟨h0, h1, h2, h3, h4, h5, h6, h7, h8, h9, h10, h11, h12, h13, h14, h15, h16, h17, h18, _⟩ := hH
          simp only [List.take_succ_cons, List.take_zero, List.drop_succ_cons, List.drop_zero, putAll, h0, h1, h2, h3, h4, h5, h6, h7, h8, h9, h10, h11, h12, h13, h14, h15, h16, h17, h18, Nat.zero_add, Nat.reduceAdd]
          go_simp
          go_wp2
          go_roundw
          case rel => exact ⟨a + 1, hlt, by go_num, hga.trans hg, by rw [HP.out, HS.out hb]; omega⟩
          case measure => simp [intOf]; omega
      | false =>
        rw [hb] at HC
        go_wp2
        refine region_any_gr _ [Is ?r0x1, Is ?r1x1, Is ?r2x1, Is ?r3x1, Is (.slice (some ⟨b, off, none⟩) l.length cap), Is (.int .i64 (l.length : Int)), Is (.bool true), Is (.bool true), Is ?r8x1, Is ?r9x1, Is ?r10x1, Is (.slice (some ⟨b, off, none⟩) l.length cap), Is ?r12x1, Is (.pointer (some ⟨b, off + a * 4, none⟩)), Is ?r14x1, Is (.agg #[.string (str c.key), .int .i64 c.seq, .int .i64 c.kind]), Is (.agg #[.string (str v.key), .int .i64 v.seq, .int .i64 v.kind]), Is (.bool false), Is (.bool false)] (by kernel_rfl) (by kernel_rfl) (by kernel_rfl) rfl rfl ⟨Is.stable _, Is.stable _, Is.stable _, Is.stable _, Is.stable _, Is.stable _, Is.stable _, Is.stable _, Is.stable _, Is.stable _, Is.stable _, Is.stable _, Is.stable _, Is.stable _, Is.stable _, Is.stable _, Is.stable _, Is.stable _, Is.stable _, trivial⟩ ⟨?s0x1, ?s1x1, ?s2x1, ?s3x1, ?s4x1, ?s5x1, ?s6x1, ?s7x1, ?s8x1, ?s9x1, ?s10x1, ?s11x1, ?s12x1, ?s13x1, ?s14x1, ?s15x1, ?s16x1, ?s17x1, ?s18x1, trivial⟩ ?finx1
        case' s0x1 | s1x1 | s2x1 | s3x1 | s4x1 | s5x1 | s6x1 | s7x1 | s8x1 | s9x1 | s10x1 | s11x1 | s12x1 | s13x1 | s14x1 | s15x1 | s16x1 | s17x1 | s18x1 =>
          intro ρ wr hρ hg hK
          simp [readsOf, slotsOf, Op.operands, Call.operands, tmpOf, List.filterMap_cons, List.filterMap_nil, KnownAll, knownOf, srcOf, depsOf, dstOf, Region.binds, nth, Is] at hK
          obtain ⟨hc, hf, hgl⟩ := hρ
          try simp only [wantedBy, dstOf, boolOf, nth, List.getD_cons_zero, List.getD_cons_succ, List.getElem?_cons_zero, List.getElem?_cons_succ, Option.bind_some, if_true, hK, BEq.rfl]
          try go_simp
          first | exact rfl | (rw [if_pos (by omega)]; exact is_here rfl) | (rw [dif_pos (by omega)]; exact is_here rfl) | exact congrArg (Value.int _) (IntWalk.i64_in _ ⟨by omega, by omega⟩) | skip
        case s4x1 => have z := hg.cell m0'; go_simp; exact rfl
        case s11x1 => have z := hg.cell m0'; go_simp; exact rfl
        case s15x1 => have z0 := hg.cell f0; have z1 := hg.cell f1; have z2 := hg.cell f2; go_simp; exact rfl
        case s16x1 => have z0 := hg.cell d0; have z1 := hg.cell d1; have z2 := hg.cell d2; go_simp; exact rfl
        case s17x1 => exact any_gr (HC.out _)
        case finx1 =>
          intro w1 val hg hH
          simp only [Holds, Is, Nat.zero_add, Nat.reduceAdd] at hH
          obtain ⟨h0, h1, h2, h3, h4, h5, h6, h7, h8, h9, h10, h11, h12, h13, h14, h15, h16, h17, h18, _⟩ := hH
          simp only [List.take_succ_cons, List.take_zero, List.drop_succ_cons, List.drop_zero, putAll, h0, h1, h2, h3, h4, h5, h6, h7, h8, h9, h10, h11, h12, h13, h14, h15, h16, h17, h18, Nat.zero_add, Nat.reduceAdd]
          go_simp
          go_wp2
          go_ret
          exact ⟨by rw [HP.out, HT.out hb]; rfl, g1.trans (hga.trans hg)⟩
    · have HP := Lib.hid (show rankI v l = a by rw [hp, rankI_end (by omega)]; rfl)
      clear hp
      go_wp2
      refine region_any_gr _ [Is ?r0x2, Is ?r1x2, Is ?r2x2, Is ?r3x2, Is (.slice ad l.length cap), Is (.int .i64 (l.length : Int)), Is (.bool false), Is (.bool false), Is (undef), Is (undef), Is (undef), Is (undef), Is (undef), Is (undef), Is (undef), Is (undef), Is (undef), Is (undef), Is (.bool false)] (by kernel_rfl) (by kernel_rfl) (by kernel_rfl) rfl rfl ⟨Is.stable _, Is.stable _, Is.stable _, Is.stable _, Is.stable _, Is.stable _, Is.stable _, Is.stable _, Is.stable _, Is.stable _, Is.stable _, Is.stable _, Is.stable _, Is.stable _, Is.stable _, Is.stable _, Is.stable _, Is.stable _, Is.stable _, trivial⟩ ⟨?s0x2, ?s1x2, ?s2x2, ?s3x2, ?s4x2, ?s5x2, ?s6x2, ?s7x2, ?s8x2, ?s9x2, ?s10x2, ?s11x2, ?s12x2, ?s13x2, ?s14x2, ?s15x2, ?s16x2, ?s17x2, ?s18x2, trivial⟩ ?finx2
      case' s0x2 | s1x2 | s2x2 | s3x2 | s4x2 | s5x2 | s6x2 | s7x2 | s8x2 | s9x2 | s10x2 | s11x2 | s12x2 | s13x2 | s14x2 | s15x2 | s16x2 | s17x2 | s18x2 =>
        intro ρ wr hρ hg hK
        simp [readsOf, slotsOf, Op.operands, Call.operands, tmpOf, List.filterMap_cons, List.filterMap_nil, KnownAll, knownOf, srcOf, depsOf, dstOf, Region.binds, nth, Is] at hK
        obtain ⟨hc, hf, hgl⟩ := hρ
        try simp only [wantedBy, dstOf, boolOf, nth, List.getD_cons_zero, List.getD_cons_succ, List.getElem?_cons_zero, List.getElem?_cons_succ, Option.bind_some, if_true, hK, BEq.rfl]
        try go_simp
        first | exact rfl | (rw [if_pos (by omega)]; exact is_here rfl) | (rw [dif_pos (by omega)]; exact is_here rfl) | exact congrArg (Value.int _) (IntWalk.i64_in _ ⟨by omega, by omega⟩) | skip
      case s4x2 => have z := hg.cell m0'; go_simp; exact rfl
      case finx2 =>
        intro w1 val hg hH
        simp only [Holds, Is, Nat.zero_add, Nat.reduceAdd] at hH
        obtain ⟨h0, h1, h2, h3, h4, h5, h6, h7, h8, h9, h10, h11, h12, h13, h14, h15, h16, h17, h18, _⟩ := hH
        simp only [List.take_succ_cons, List.take_zero, List.drop_succ_cons, List.drop_zero, putAll, h0, h1, h2, h3, h4, h5, h6, h7, h8, h9, h10, h11, h12, h13, h14, h15, h16, h17, h18, Nat.zero_add, Nat.reduceAdd]
        go_simp
        go_wp2
        go_ret
        exact ⟨by rw [HP.out]; rfl, g1.trans (hga.trans hg)⟩
end Go.Proofs.Ytnafhjgfkofkbaa
/- The reference of layer 9: a cell is placed among cells. -/
namespace Go.Proofs.Ytnafhjgfkofkbaa
set_option linter.unusedVariables false
set_option linter.unusedSimpArgs false
open Go.RowKit Ikey Varint
theorem row_from {w : World} {B : Nat} {e : TypeId} {ad : Option Addr} {size cap n : Nat} {xs : List Value} (ho : Owns w B e size ad cap n xs) : ∀ k, ad.map (·.block) = some k → B ≤ k := by
  intro k hk
  cases ad with
  | none => cases hk
  | some x => cases hk; exact (ho.lt x rfl).1
/-- cells of the call's own -/
def RetC (w : World) (l : List Ci) : Ending → World → Prop := fun x w' => ∃ ad cap, x = .returned (.slice ad l.length cap) ∧ Owns w' w.heap.size 41 4 ad cap l.length (cv l) ∧ Gr w w'
set_option maxRecDepth 100000 in
set_option maxHeartbeats 4000000 in
theorem Place_any (ad : Option Addr) (cap : Nat) (l : List Ci) (c : Ci) (w : World) (hr : Row w ad (cv l)) (hcap : l.length ≤ cap) (had : (ad = none ∧ cap = 0) ∨ ∃ b off, ad = some ⟨b, off, none⟩ ∧ b < w.heap.size) (hl : l.length ≤ 1000000) :
    Calls Try.prog 51 #[.slice ad l.length cap, .agg (c4 c).toArray] w (RetC w (placeI l c)) := by
  have HL := Lib.hid (show ∀ (x : Ci) (w : World), Calls Try.prog 52 #[ver x.key x.seq x.kind, ver c.key c.seq c.kind] w fun e w' => e = .returned (.bool (vless x.vr c.vr)) ∧ Gr w w' from fun x w => rLess_any x.key c.key x.seq x.kind c.seq c.kind w)
  have HR := Lib.hid hr.ci
  have g1 : Gr w (w.alloc (.cells (c4 c).toArray 41)) := Gr.alloc _ _
  have HR1 := Lib.hid (hr.gr g1)
  have b4 := (Blk.new w 41 (c4 c).toArray).four
  have hpl := Lib.hid (placeI_len l c)
  have hpe := Lib.hid (show placeI l c = l.take (rankI c.vr l) ++ [c] ++ l.drop (rankI c.vr l) from rfl)
  unfold ver at HL
  unfold c4 at g1 HR1 b4 ⊢
  obtain ⟨c0, c1, c2, c3, _⟩ := b4
  clear hr
  obtain ⟨v, hv⟩ : ∃ v, v = c.vr := ⟨_, rfl⟩
  rw [← hv] at HL hpe
  have HV := Lib.hid hv
  clear hv
  go_enter Try.func51, Try.ntmps51
  go_wp2
  go_loopw [5] (fun va wa => ∃ a : Nat, a ≤ l.length ∧ va = .int .i64 (a : Int) ∧ Gr (w.alloc (.cells #[.string (str c.key), .int .i64 c.seq, .int .i64 c.kind, .string (str c.val)] 41)) wa ∧ rankI v l = a + rankI v (l.drop a)) (fun va _ => l.length - (intOf va).toNat)
  case atStart => exact ⟨0, Nat.zero_le _, rfl, Gr.refl _, by simp⟩
  case round =>
    obtain ⟨a, ha, rfl, hga, hp⟩ := hrel
    have d0 := hga.cell c0
    have d1 := hga.cell c1
    have d2 := hga.cell c2
    have d3 := hga.cell c3
    have HP := Lib.hid hp
    clear hp
    by_cases hlt : a < l.length
    · obtain ⟨b, off, rfl, e0, e1, e2, e3⟩ := HR.out a hlt
      have hbw : b < w.heap.size := World.block_lt_of_cell? w _ e0
      have f0 := hga.cell (g1.cell e0)
      have f1 := hga.cell (g1.cell e1)
      have f2 := hga.cell (g1.cell e2)
      have HS := Lib.hid (fun h => rankI_step (v := v) hlt h)
      have HT := Lib.hid (fun h => rankI_stop (v := v) hlt h)
      generalize l[a] = x at *
      have HC := Lib.hid (HL.out x)
      cases hb : vless x.vr v with
      | true =>
        rw [hb] at HC
        go_wp2
        refine region_any_gr _ [Is (.int .i64 (a : Int)), Is ?r1, Is (.int .i64 (l.length : Int)), Is (.bool true), Is (.bool true), Is ?r5, Is ?r6, Is (.pointer (some ⟨b, off + a * 4, none⟩)), Is ?r8, Is (.agg #[.string (str x.key), .int .i64 x.seq, .int .i64 x.kind]), Is ?r10, Is (.agg #[.string (str c.key), .int .i64 c.seq, .int .i64 c.kind]), Is (.bool true), Is (.bool true)] (by kernel_rfl) (by kernel_rfl) (by kernel_rfl) rfl rfl ⟨Is.stable _, Is.stable _, Is.stable _, Is.stable _, Is.stable _, Is.stable _, Is.stable _, Is.stable _, Is.stable _, Is.stable _, Is.stable _, Is.stable _, Is.stable _, Is.stable _, trivial⟩ ⟨?s0, ?s1, ?s2, ?s3, ?s4, ?s5, ?s6, ?s7, ?s8, ?s9, ?s10, ?s11, ?s12, ?s13, trivial⟩ ?fin
        case' s0 | s1 | s2 | s3 | s4 | s5 | s6 | s7 | s8 | s9 | s10 | s11 | s12 | s13 =>
          intro ρ wr hρ hg hK
          simp [readsOf, slotsOf, Op.operands, Call.operands, tmpOf, List.filterMap_cons, List.filterMap_nil, KnownAll, knownOf, srcOf, depsOf, dstOf, Region.binds, nth, Is] at hK
          obtain ⟨hc, hf, hgl⟩ := hρ
          try simp only [wantedBy, dstOf, boolOf, nth, List.getD_cons_zero, List.getD_cons_succ, List.getElem?_cons_zero, List.getElem?_cons_succ, Option.bind_some, if_true, hK, BEq.rfl]
          try go_simp
          first | exact rfl | (rw [if_pos (by omega)]; exact is_here rfl) | (rw [dif_pos (by omega)]; exact is_here rfl) | exact congrArg (Value.int _) (IntWalk.i64_in _ ⟨by omega, by omega⟩) | skip
        case s9 => have z0 := hg.cell f0; have z1 := hg.cell f1; have z2 := hg.cell f2; go_simp; exact rfl
        case s11 => have z0 := hg.cell d0; have z1 := hg.cell d1; have z2 := hg.cell d2; go_simp; exact rfl
        case s12 => exact any_gr (HC.out _)
        case fin =>
          intro w1 val hg hH
          simp only [Holds, Is, Nat.zero_add, Nat.reduceAdd] at hH
          obtain ⟨h0, h1, h2, h3, h4, h5, h6, h7, h8, h9, h10, h11, h12, h13, _⟩ := hH
          simp only [List.take_succ_cons, List.take_zero, List.drop_succ_cons, List.drop_zero, putAll, h0, h1, h2, h3, h4, h5, h6, h7, h8, h9, h10, h11, h12, h13, Nat.zero_add, Nat.reduceAdd]
          go_simp
          go_wp2
          go_roundw
          case rel => exact ⟨a + 1, hlt, by go_num, hga.trans hg, by rw [HP.out, HS.out hb]; omega⟩
          case measure => simp [intOf]; omega
      | false =>
        rw [hb] at HC
        have HE := Lib.hid (show placeI l c = l.take a ++ [c] ++ l.drop a by rw [hpe.out, HP.out, HT.out hb, Nat.add_zero])
        go_wp2
        refine region_any_gr _ [Is (.int .i64 (a : Int)), Is ?r1x1, Is (.int .i64 (l.length : Int)), Is (.bool true), Is (.bool true), Is ?r5x1, Is ?r6x1, Is (.pointer (some ⟨b, off + a * 4, none⟩)), Is ?r8x1, Is (.agg #[.string (str x.key), .int .i64 x.seq, .int .i64 x.kind]), Is ?r10x1, Is (.agg #[.string (str c.key), .int .i64 c.seq, .int .i64 c.kind]), Is (.bool false), Is (.bool false)] (by kernel_rfl) (by kernel_rfl) (by kernel_rfl) rfl rfl ⟨Is.stable _, Is.stable _, Is.stable _, Is.stable _, Is.stable _, Is.stable _, Is.stable _, Is.stable _, Is.stable _, Is.stable _, Is.stable _, Is.stable _, Is.stable _, Is.stable _, trivial⟩ ⟨?s0x1, ?s1x1, ?s2x1, ?s3x1, ?s4x1, ?s5x1, ?s6x1, ?s7x1, ?s8x1, ?s9x1, ?s10x1, ?s11x1, ?s12x1, ?s13x1, trivial⟩ ?finx1
        case' s0x1 | s1x1 | s2x1 | s3x1 | s4x1 | s5x1 | s6x1 | s7x1 | s8x1 | s9x1 | s10x1 | s11x1 | s12x1 | s13x1 =>
          intro ρ wr hρ hg hK
          simp [readsOf, slotsOf, Op.operands, Call.operands, tmpOf, List.filterMap_cons, List.filterMap_nil, KnownAll, knownOf, srcOf, depsOf, dstOf, Region.binds, nth, Is] at hK
          obtain ⟨hc, hf, hgl⟩ := hρ
          try simp only [wantedBy, dstOf, boolOf, nth, List.getD_cons_zero, List.getD_cons_succ, List.getElem?_cons_zero, List.getElem?_cons_succ, Option.bind_some, if_true, hK, BEq.rfl]
          try go_simp
          first | exact rfl | (rw [if_pos (by omega)]; exact is_here rfl) | (rw [dif_pos (by omega)]; exact is_here rfl) | exact congrArg (Value.int _) (IntWalk.i64_in _ ⟨by omega, by omega⟩) | skip
        case s9x1 => have z0 := hg.cell f0; have z1 := hg.cell f1; have z2 := hg.cell f2; go_simp; exact rfl
        case s11x1 => have z0 := hg.cell d0; have z1 := hg.cell d1; have z2 := hg.cell d2; go_simp; exact rfl
        case s12x1 => exact any_gr (HC.out _)
        case finx1 =>
          intro w1 val hg hH
          simp only [Holds, Is, Nat.zero_add, Nat.reduceAdd] at hH
          obtain ⟨h0, h1, h2, h3, h4, h5, h6, h7, h8, h9, h10, h11, h12, h13, _⟩ := hH
          simp only [List.take_succ_cons, List.take_zero, List.drop_succ_cons, List.drop_zero, putAll, h0, h1, h2, h3, h4, h5, h6, h7, h8, h9, h10, h11, h12, h13, Nat.zero_add, Nat.reduceAdd]
          go_simp
          go_wp2
          clear f0 f1 f2 e0 e1 e2 e3
          have gW : Gr (w.alloc (.cells #[.string (str c.key), .int .i64 c.seq, .int .i64 c.kind, .string (str c.val)] 41)) w1 := hga.trans hg
          have e0' := gW.cell c0
          have e1' := gW.cell c1
          have e2' := gW.cell c2
          have e3' := gW.cell c3
          have rW : Row w1 _ (cv l) := HR1.out.gr gW
          have gw := g1.trans gW
          have hN9 := gW.size
          have hsz1 : (w.alloc (.cells #[.string (str c.key), .int .i64 c.seq, .int .i64 c.kind, .string (str c.val)] 41)).heap.size = w.heap.size + 1 := by simp
          obtain ⟨N, hN⟩ : ∃ N, N = w1.heap.size := ⟨_, rfl⟩
          have hn2 : (cv (l.take a)).length = a * 4 := by rw [cv_length, List.length_take, Nat.min_eq_left ha]
          have hblN : w.heap.size < N := by omega
          have rT : Row w1 _ (cv (l.take a)) := fun x u hx => rW x u (by rw [cv_take] at hx; rw [List.getElem?_take] at hx; split at hx <;> first | exact hx | cases hx)
          have m1 : a + 1 ≤ maxLen := by unfold maxLen; omega
          have m1' : (a + 1) * 48 ≤ 140737488355328 := by omega
          have HN := Lib.hid hN; have HN2 := Lib.hid hn2; have HRT := Lib.hid rT
          clear hN hn2 rT d0 d1 d2 d3 hga hg
          refine region_tail_fresh N (a * 4) (c4 c) 11 _ [Mt N 41 4, Is (.slice (some ⟨b, off, none⟩) l.length cap), Is (.int .i64 (a : Int)), Is (.slice (some ⟨b, off, none⟩) a cap), Made N 41 4 a (cv (l.take a)), Is (.agg #[.string (str c.key), .int .i64 c.seq, .int .i64 c.kind, .string (str c.val)]), OneB (c4 c), Made N 41 4 (a + 1) (cv (l.take a) ++ c4 c), Is (.slice (some ⟨b, off, none⟩) l.length cap), Is (.int .i64 (a : Int)), OldRow N (l.length - a) (cv (l.drop a))] (by kernel_rfl) (by kernel_rfl) (by kernel_rfl) (by kernel_rfl) rfl rfl ⟨Mt.stable _ _, Is.stable _, Is.stable _, Is.stable _, Made.stable _ _ _ _ (.inl (Nat.le_of_eq HN2.out)), Is.stable _, OneB.stable, Made.stable _ _ _ _ (.inr ⟨_, rfl, HN2.out⟩), Is.stable _, Is.stable _, OldRow.stable _ _, trivial⟩ ⟨?s0x2, ?s1x2, ?s2x2, ?s3x2, ?s4x2, ?s5x2, ?s6x2, ?s7x2, ?s8x2, ?s9x2, ?s10x2, trivial⟩ ?finx2
          case' s0x2 | s1x2 | s2x2 | s3x2 | s5x2 | s6x2 | s8x2 | s9x2 | s10x2 =>
            intro ρ wr hρ hg hK
            simp [readsOf, slotsOf, Op.operands, Call.operands, tmpOf, List.filterMap_cons, List.filterMap_nil, KnownAll, knownOf, srcOf, depsOf, dstOf, Region.binds, nth, Is] at hK
            obtain ⟨hc, hf, hgl⟩ := hρ
            try simp only [wantedBy, dstOf, boolOf, nth, List.getD_cons_zero, List.getD_cons_succ, List.getElem?_cons_zero, List.getElem?_cons_succ, Option.bind_some, if_true, hK, BEq.rfl]
            try go_simp
            first | exact rfl | (rw [if_pos (by omega)]; exact is_here rfl) | (rw [dif_pos (by omega)]; exact is_here rfl) | exact congrArg (Value.int _) (IntWalk.i64_in _ ⟨by omega, by omega⟩) | skip
          case' s4x2 | s7x2 =>
            intro ρ wr hρ hg hK
            simp [readsOf, slotsOf, Op.operands, Call.operands, tmpOf, List.filterMap_cons, List.filterMap_nil, KnownAll, knownOf, srcOf, depsOf, dstOf, Region.binds, nth, Is] at hK
            obtain ⟨hc, hf, hgl⟩ := hρ
            try simp only [wantedBy, dstOf, boolOf, nth, List.getD_cons_zero, List.getD_cons_succ, List.getElem?_cons_zero, List.getElem?_cons_succ, Option.bind_some, if_true, hK, BEq.rfl]
          case s0x2 => exact ⟨(Gr.alloc _ _).fresh (by rw [HN.out]; exact hg.size), _, rfl, Owns.void _ _ _ _ (by rw [HN.out]; exact hg.size)⟩
          case s3x2 => rw [if_pos (by omega)]; exact ⟨Fresh.refl _, rfl⟩
          case s4x2 =>
            obtain ⟨⟨ad0, e0, o0⟩, e1⟩ := hK
            obtain ⟨v, w2, r1, r2, r3⟩ := append_mt (news := c4 c) (n := a * 4) (ty := 31) (u := 31) elemC o0 (m := a) (xs := cv (l.take a)) ⟨HN2.out, cv_one _, .inl ⟨_, _, _, rfl, hg.row HRT.out (Nat.le_of_eq HN.out.symm), Try.underlying31⟩⟩ (by omega) (by omega) (by rw [HN.out]; exact hg.size)
            simp only [execOp, resolve, invoke, builtin, Sem.run_bind, Sem.run_pure, Result.andThen_ok, List.map_toArray, List.map_cons, List.map_nil, e0, e1]
            rw [r1]
            exact ⟨r2, r3⟩
          case s5x2 =>
            have z0 := hg.cell e0' hblN
            have z1 := hg.cell e1' hblN
            have z2 := hg.cell e2' hblN
            have z3 := hg.cell e3' hblN
            go_simp
            exact rfl
          case s6x2 => exact ⟨(Gr.alloc _ _).fresh (by rw [HN.out]; exact hg.size), _, _, _, rfl, heap_alloc_new _ _⟩
          case s7x2 =>
            obtain ⟨⟨ad0, cp0, e0, o0⟩, hone⟩ := hK
            obtain ⟨v, w2, r1, r2, r3⟩ := append_made (news := c4 c) (n := a * 4) (ty := 31) (u := 31) elemC o0 (hone.src rfl (by simpa [cv] using cv_one [c]) Try.underlying31) rfl m1 m1' (by rw [HN.out]; exact hg.size)
            simp only [execOp, resolve, invoke, builtin, Sem.run_bind, Sem.run_pure, Result.andThen_ok, List.map_toArray, List.map_cons, List.map_nil, e0]
            rw [r1]
            exact ⟨r2, r3⟩
          case s10x2 =>
            have hbo : b < N := by omega
            first
              | (rw [if_neg (by omega)]
                 exact ⟨_, _, rfl, by rw [cv_drop]; exact (hg.row rW (Nat.le_of_eq HN.out.symm)).drop_ _, fun x hx => by cases hx; exact hbo⟩)
              | (refine ⟨_, _, rfl, by rw [List.drop_of_length_le HAE.out]; exact Row.nil _ _, fun x hx => ?_⟩
                 split at hx <;> (cases hx; exact hbo))
          case finx2 =>
            intro w1 val hg hH
            simp only [Holds, Is, Nat.zero_add, Nat.reduceAdd] at hH
            obtain ⟨h0, h1, h2, h3, h4, h5, h6, h7, h8, h9, h10, _⟩ := hH
            simp only [List.take_succ_cons, List.take_zero, List.drop_succ_cons, List.drop_zero, putAll, h1, h2, h3, h5, h8, h9, Nat.zero_add, Nat.reduceAdd]
            obtain ⟨ad7, cp7, e7, o7⟩ := h7
            obtain ⟨ad10, cp10, e10, r10, _⟩ := h10
            have hs9 := hg.size
            have hNw : w.heap.size ≤ N := by omega
            have o7' := o7.base hNw
            have hbs : w.heap.size ≤ w1.heap.size := by omega
            have g10 : Gr w w1 := hg.gr gw hNw
            have m2 : a + 1 + (l.length - a) ≤ maxLen := by unfold maxLen; omega
            have m2' : (a + 1 + (l.length - a)) * 48 ≤ 140737488355328 := by omega
            have hdl : (cv (l.drop a)).length = (l.length - a) * 4 := by rw [cv_length, List.length_drop]
            have HDL := Lib.hid hdl; clear hdl
            simp only [e7, e10]
            go_simp
            go_wp2_with (at_builtin; go_must (refine wp_append elemC rfl _ _ rfl rfl o7' rfl (⟨HDL.out, cv_one _, .inl ⟨_, _, _, rfl, r10, Try.underlying31⟩⟩ : Src Try.prog 31 w1 4 (.slice ad10 (l.length - a) cp10) (l.length - a) (cv (l.drop a))) m2 m2' hbs ?_); intro ad5 cap5 w5 o5 k5 f5)
            go_ret
            have hL : (placeI l c).length = a + 1 + (l.length - a) := by rw [HE.out]; simp only [List.length_append, List.length_take, List.length_drop, List.length_cons, List.length_nil]; omega
            refine ⟨ad5, cap5, by rw [hL]; rfl, ?_, g10.grown k5 (row_from o7')⟩
            rw [hL, HE.out, cv_append, cv_append]
            simpa [cv] using o5
    · have HE := Lib.hid (show placeI l c = l.take a ++ [c] ++ l.drop a by rw [hpe.out, HP.out, rankI_end (by omega), Nat.add_zero])
      go_wp2
      refine region_any_gr _ [Is (.int .i64 (a : Int)), Is ?r1x3, Is (.int .i64 (l.length : Int)), Is (.bool false), Is (.bool false), Is (undef), Is (undef), Is (undef), Is (undef), Is (undef), Is (undef), Is (undef), Is (undef), Is (.bool false)] (by kernel_rfl) (by kernel_rfl) (by kernel_rfl) rfl rfl ⟨Is.stable _, Is.stable _, Is.stable _, Is.stable _, Is.stable _, Is.stable _, Is.stable _, Is.stable _, Is.stable _, Is.stable _, Is.stable _, Is.stable _, Is.stable _, Is.stable _, trivial⟩ ⟨?s0x3, ?s1x3, ?s2x3, ?s3x3, ?s4x3, ?s5x3, ?s6x3, ?s7x3, ?s8x3, ?s9x3, ?s10x3, ?s11x3, ?s12x3, ?s13x3, trivial⟩ ?finx3
      case' s0x3 | s1x3 | s2x3 | s3x3 | s4x3 | s5x3 | s6x3 | s7x3 | s8x3 | s9x3 | s10x3 | s11x3 | s12x3 | s13x3 =>
        intro ρ wr hρ hg hK
        simp [readsOf, slotsOf, Op.operands, Call.operands, tmpOf, List.filterMap_cons, List.filterMap_nil, KnownAll, knownOf, srcOf, depsOf, dstOf, Region.binds, nth, Is] at hK
        obtain ⟨hc, hf, hgl⟩ := hρ
        try simp only [wantedBy, dstOf, boolOf, nth, List.getD_cons_zero, List.getD_cons_succ, List.getElem?_cons_zero, List.getElem?_cons_succ, Option.bind_some, if_true, hK, BEq.rfl]
        try go_simp
        first | exact rfl | (rw [if_pos (by omega)]; exact is_here rfl) | (rw [dif_pos (by omega)]; exact is_here rfl) | exact congrArg (Value.int _) (IntWalk.i64_in _ ⟨by omega, by omega⟩) | skip
      case finx3 =>
        intro w1 val hg hH
        simp only [Holds, Is, Nat.zero_add, Nat.reduceAdd] at hH
        obtain ⟨h0, h1, h2, h3, h4, h5, h6, h7, h8, h9, h10, h11, h12, h13, _⟩ := hH
        simp only [List.take_succ_cons, List.take_zero, List.drop_succ_cons, List.drop_zero, putAll, h0, h1, h2, h3, h4, h5, h6, h7, h8, h9, h10, h11, h12, h13, Nat.zero_add, Nat.reduceAdd]
        go_simp
        go_wp2
        rcases had with ⟨rfl, rfl⟩ | ⟨b, off, rfl, hbw⟩
        · obtain rfl : l = [] := List.eq_nil_of_length_eq_zero (by omega)
          obtain rfl : a = 0 := by simpa using ha
          clear hlt HR
          have gW : Gr (w.alloc (.cells #[.string (str c.key), .int .i64 c.seq, .int .i64 c.kind, .string (str c.val)] 41)) w1 := hga.trans hg
          have e0' := gW.cell c0
          have e1' := gW.cell c1
          have e2' := gW.cell c2
          have e3' := gW.cell c3
          have rW : Row w1 none (cv ([] : List Ci)) := HR1.out.gr gW
          have gw := g1.trans gW
          have hN9 := gW.size
          have hsz1 : (w.alloc (.cells #[.string (str c.key), .int .i64 c.seq, .int .i64 c.kind, .string (str c.val)] 41)).heap.size = w.heap.size + 1 := by simp
          obtain ⟨N, hN⟩ : ∃ N, N = w1.heap.size := ⟨_, rfl⟩
          have hn2 : (cv (([] : List Ci))).length = 0 := rfl
          have hblN : w.heap.size < N := by omega
          have rT : Row w1 none (cv (([] : List Ci))) := Row.nil _ _
          have m1 : 0 + 1 ≤ maxLen := by unfold maxLen; omega
          have m1' : (0 + 1) * 48 ≤ 140737488355328 := by omega
          have HN := Lib.hid hN; have HN2 := Lib.hid hn2; have HRT := Lib.hid rT
          clear hN hn2 rT d0 d1 d2 d3 hga hg
          refine region_tail_fresh N (0) (c4 c) 11 _ [Mt N 41 4, Is (.slice none 0 0), Is (.int .i64 0), Is (.slice none 0 0), Made N 41 4 0 (cv (([] : List Ci))), Is (.agg #[.string (str c.key), .int .i64 c.seq, .int .i64 c.kind, .string (str c.val)]), OneB (c4 c), Made N 41 4 (0 + 1) (cv (([] : List Ci)) ++ c4 c), Is (.slice none 0 0), Is (.int .i64 0), OldRow N 0 (cv (([] : List Ci)))] (by kernel_rfl) (by kernel_rfl) (by kernel_rfl) (by kernel_rfl) rfl rfl ⟨Mt.stable _ _, Is.stable _, Is.stable _, Is.stable _, Made.stable _ _ _ _ (.inl (Nat.le_of_eq HN2.out)), Is.stable _, OneB.stable, Made.stable _ _ _ _ (.inr ⟨_, rfl, HN2.out⟩), Is.stable _, Is.stable _, OldRow.stable _ _, trivial⟩ ⟨?s0x4, ?s1x4, ?s2x4, ?s3x4, ?s4x4, ?s5x4, ?s6x4, ?s7x4, ?s8x4, ?s9x4, ?s10x4, trivial⟩ ?finx4
          case' s0x4 | s1x4 | s2x4 | s3x4 | s5x4 | s6x4 | s8x4 | s9x4 | s10x4 =>
            intro ρ wr hρ hg hK
            simp [readsOf, slotsOf, Op.operands, Call.operands, tmpOf, List.filterMap_cons, List.filterMap_nil, KnownAll, knownOf, srcOf, depsOf, dstOf, Region.binds, nth, Is] at hK
            obtain ⟨hc, hf, hgl⟩ := hρ
            try simp only [wantedBy, dstOf, boolOf, nth, List.getD_cons_zero, List.getD_cons_succ, List.getElem?_cons_zero, List.getElem?_cons_succ, Option.bind_some, if_true, hK, BEq.rfl]
            try go_simp
            first | exact rfl | (rw [if_pos (by omega)]; exact is_here rfl) | (rw [dif_pos (by omega)]; exact is_here rfl) | exact congrArg (Value.int _) (IntWalk.i64_in _ ⟨by omega, by omega⟩) | skip
          case' s4x4 | s7x4 =>
            intro ρ wr hρ hg hK
            simp [readsOf, slotsOf, Op.operands, Call.operands, tmpOf, List.filterMap_cons, List.filterMap_nil, KnownAll, knownOf, srcOf, depsOf, dstOf, Region.binds, nth, Is] at hK
            obtain ⟨hc, hf, hgl⟩ := hρ
            try simp only [wantedBy, dstOf, boolOf, nth, List.getD_cons_zero, List.getD_cons_succ, List.getElem?_cons_zero, List.getElem?_cons_succ, Option.bind_some, if_true, hK, BEq.rfl]
          case s0x4 => exact ⟨(Gr.alloc _ _).fresh (by rw [HN.out]; exact hg.size), _, rfl, Owns.void _ _ _ _ (by rw [HN.out]; exact hg.size)⟩
          case s4x4 =>
            obtain ⟨⟨ad0, e0, o0⟩, e1⟩ := hK
            obtain ⟨v, w2, r1, r2, r3⟩ := append_mt (news := c4 c) (n := 0) (ty := 31) (u := 31) elemC o0 (m := 0) (xs := cv (([] : List Ci))) ⟨HN2.out, cv_one _, .inl ⟨_, _, _, rfl, hg.row HRT.out (Nat.le_of_eq HN.out.symm), Try.underlying31⟩⟩ (by omega) (by omega) (by rw [HN.out]; exact hg.size)
            simp only [execOp, resolve, invoke, builtin, Sem.run_bind, Sem.run_pure, Result.andThen_ok, List.map_toArray, List.map_cons, List.map_nil, e0, e1]
            rw [r1]
            exact ⟨r2, r3⟩
          case s5x4 =>
            have z0 := hg.cell e0' hblN
            have z1 := hg.cell e1' hblN
            have z2 := hg.cell e2' hblN
            have z3 := hg.cell e3' hblN
            go_simp
            exact rfl
          case s6x4 => exact ⟨(Gr.alloc _ _).fresh (by rw [HN.out]; exact hg.size), _, _, _, rfl, heap_alloc_new _ _⟩
          case s7x4 =>
            obtain ⟨⟨ad0, cp0, e0, o0⟩, hone⟩ := hK
            obtain ⟨v, w2, r1, r2, r3⟩ := append_made (news := c4 c) (n := 0) (ty := 31) (u := 31) elemC o0 (hone.src rfl (by simpa [cv] using cv_one [c]) Try.underlying31) rfl m1 m1' (by rw [HN.out]; exact hg.size)
            simp only [execOp, resolve, invoke, builtin, Sem.run_bind, Sem.run_pure, Result.andThen_ok, List.map_toArray, List.map_cons, List.map_nil, e0]
            rw [r1]
            exact ⟨r2, r3⟩
          case s10x4 => exact ⟨_, _, rfl, Row.nil _ _, fun x hx => by cases hx⟩
          case finx4 =>
            intro w1 val hg hH
            simp only [Holds, Is, Nat.zero_add, Nat.reduceAdd] at hH
            obtain ⟨h0, h1, h2, h3, h4, h5, h6, h7, h8, h9, h10, _⟩ := hH
            simp only [List.take_succ_cons, List.take_zero, List.drop_succ_cons, List.drop_zero, putAll, h1, h2, h3, h5, h8, h9, Nat.zero_add, Nat.reduceAdd]
            obtain ⟨ad7, cp7, e7, o7⟩ := h7
            obtain ⟨ad10, cp10, e10, r10, _⟩ := h10
            have hs9 := hg.size
            have hNw : w.heap.size ≤ N := by omega
            have o7' := o7.base hNw
            have hbs : w.heap.size ≤ w1.heap.size := by omega
            have g10 : Gr w w1 := hg.gr gw hNw
            have m2 : 0 + 1 + 0 ≤ maxLen := by unfold maxLen; omega
            have m2' : (0 + 1 + 0) * 48 ≤ 140737488355328 := by omega
            have hdl : (cv (([] : List Ci))).length = 0 * 4 := rfl
            have HDL := Lib.hid hdl; clear hdl
            simp only [e7, e10]
            go_simp
            go_wp2_with (at_builtin; go_must (refine wp_append elemC rfl _ _ rfl rfl o7' rfl (⟨HDL.out, cv_one _, .inl ⟨_, _, _, rfl, r10, Try.underlying31⟩⟩ : Src Try.prog 31 w1 4 (.slice ad10 0 cp10) 0 (cv (([] : List Ci)))) m2 m2' hbs ?_); intro ad5 cap5 w5 o5 k5 f5)
            go_ret
            have hL : (placeI [] c).length = 0 + 1 + 0 := by rw [HE.out]; simp only [List.length_append, List.length_take, List.length_drop, List.length_cons, List.length_nil]; omega
            refine ⟨ad5, cap5, by rw [hL]; rfl, ?_, g10.grown k5 (row_from o7')⟩
            rw [hL, HE.out, cv_append, cv_append]
            simpa [cv] using o5
        · have HAE := Lib.hid (show l.length ≤ a by omega)
          clear hlt
          have gW : Gr (w.alloc (.cells #[.string (str c.key), .int .i64 c.seq, .int .i64 c.kind, .string (str c.val)] 41)) w1 := hga.trans hg
          have e0' := gW.cell c0
          have e1' := gW.cell c1
          have e2' := gW.cell c2
          have e3' := gW.cell c3
          have rW : Row w1 _ (cv l) := HR1.out.gr gW
          have gw := g1.trans gW
          have hN9 := gW.size
          have hsz1 : (w.alloc (.cells #[.string (str c.key), .int .i64 c.seq, .int .i64 c.kind, .string (str c.val)] 41)).heap.size = w.heap.size + 1 := by simp
          obtain ⟨N, hN⟩ : ∃ N, N = w1.heap.size := ⟨_, rfl⟩
          have hn2 : (cv (l.take a)).length = a * 4 := by rw [cv_length, List.length_take, Nat.min_eq_left ha]
          have hblN : w.heap.size < N := by omega
          have rT : Row w1 _ (cv (l.take a)) := fun x u hx => rW x u (by rw [cv_take] at hx; rw [List.getElem?_take] at hx; split at hx <;> first | exact hx | cases hx)
          have m1 : a + 1 ≤ maxLen := by unfold maxLen; omega
          have m1' : (a + 1) * 48 ≤ 140737488355328 := by omega
          have HN := Lib.hid hN; have HN2 := Lib.hid hn2; have HRT := Lib.hid rT
          clear hN hn2 rT d0 d1 d2 d3 hga hg
          refine region_tail_fresh N (a * 4) (c4 c) 11 _ [Mt N 41 4, Is (.slice (some ⟨b, off, none⟩) l.length cap), Is (.int .i64 (a : Int)), Is (.slice (some ⟨b, off, none⟩) a cap), Made N 41 4 a (cv (l.take a)), Is (.agg #[.string (str c.key), .int .i64 c.seq, .int .i64 c.kind, .string (str c.val)]), OneB (c4 c), Made N 41 4 (a + 1) (cv (l.take a) ++ c4 c), Is (.slice (some ⟨b, off, none⟩) l.length cap), Is (.int .i64 (a : Int)), OldRow N (l.length - a) (cv (l.drop a))] (by kernel_rfl) (by kernel_rfl) (by kernel_rfl) (by kernel_rfl) rfl rfl ⟨Mt.stable _ _, Is.stable _, Is.stable _, Is.stable _, Made.stable _ _ _ _ (.inl (Nat.le_of_eq HN2.out)), Is.stable _, OneB.stable, Made.stable _ _ _ _ (.inr ⟨_, rfl, HN2.out⟩), Is.stable _, Is.stable _, OldRow.stable _ _, trivial⟩ ⟨?s0x5, ?s1x5, ?s2x5, ?s3x5, ?s4x5, ?s5x5, ?s6x5, ?s7x5, ?s8x5, ?s9x5, ?s10x5, trivial⟩ ?finx5
          case' s0x5 | s1x5 | s2x5 | s3x5 | s5x5 | s6x5 | s8x5 | s9x5 | s10x5 =>
            intro ρ wr hρ hg hK
            simp [readsOf, slotsOf, Op.operands, Call.operands, tmpOf, List.filterMap_cons, List.filterMap_nil, KnownAll, knownOf, srcOf, depsOf, dstOf, Region.binds, nth, Is] at hK
            obtain ⟨hc, hf, hgl⟩ := hρ
            try simp only [wantedBy, dstOf, boolOf, nth, List.getD_cons_zero, List.getD_cons_succ, List.getElem?_cons_zero, List.getElem?_cons_succ, Option.bind_some, if_true, hK, BEq.rfl]
            try go_simp
            first | exact rfl | (rw [if_pos (by omega)]; exact is_here rfl) | (rw [dif_pos (by omega)]; exact is_here rfl) | exact congrArg (Value.int _) (IntWalk.i64_in _ ⟨by omega, by omega⟩) | skip
          case' s4x5 | s7x5 =>
            intro ρ wr hρ hg hK
            simp [readsOf, slotsOf, Op.operands, Call.operands, tmpOf, List.filterMap_cons, List.filterMap_nil, KnownAll, knownOf, srcOf, depsOf, dstOf, Region.binds, nth, Is] at hK
            obtain ⟨hc, hf, hgl⟩ := hρ
            try simp only [wantedBy, dstOf, boolOf, nth, List.getD_cons_zero, List.getD_cons_succ, List.getElem?_cons_zero, List.getElem?_cons_succ, Option.bind_some, if_true, hK, BEq.rfl]
          case s0x5 => exact ⟨(Gr.alloc _ _).fresh (by rw [HN.out]; exact hg.size), _, rfl, Owns.void _ _ _ _ (by rw [HN.out]; exact hg.size)⟩
          case s3x5 => rw [if_pos (by omega)]; exact ⟨Fresh.refl _, rfl⟩
          case s4x5 =>
            obtain ⟨⟨ad0, e0, o0⟩, e1⟩ := hK
            obtain ⟨v, w2, r1, r2, r3⟩ := append_mt (news := c4 c) (n := a * 4) (ty := 31) (u := 31) elemC o0 (m := a) (xs := cv (l.take a)) ⟨HN2.out, cv_one _, .inl ⟨_, _, _, rfl, hg.row HRT.out (Nat.le_of_eq HN.out.symm), Try.underlying31⟩⟩ (by omega) (by omega) (by rw [HN.out]; exact hg.size)
            simp only [execOp, resolve, invoke, builtin, Sem.run_bind, Sem.run_pure, Result.andThen_ok, List.map_toArray, List.map_cons, List.map_nil, e0, e1]
            rw [r1]
            exact ⟨r2, r3⟩
          case s5x5 =>
            have z0 := hg.cell e0' hblN
            have z1 := hg.cell e1' hblN
            have z2 := hg.cell e2' hblN
            have z3 := hg.cell e3' hblN
            go_simp
            exact rfl
          case s6x5 => exact ⟨(Gr.alloc _ _).fresh (by rw [HN.out]; exact hg.size), _, _, _, rfl, heap_alloc_new _ _⟩
          case s7x5 =>
            obtain ⟨⟨ad0, cp0, e0, o0⟩, hone⟩ := hK
            obtain ⟨v, w2, r1, r2, r3⟩ := append_made (news := c4 c) (n := a * 4) (ty := 31) (u := 31) elemC o0 (hone.src rfl (by simpa [cv] using cv_one [c]) Try.underlying31) rfl m1 m1' (by rw [HN.out]; exact hg.size)
            simp only [execOp, resolve, invoke, builtin, Sem.run_bind, Sem.run_pure, Result.andThen_ok, List.map_toArray, List.map_cons, List.map_nil, e0]
            rw [r1]
            exact ⟨r2, r3⟩
          case s10x5 =>
            have hbo : b < N := by omega
            first
              | (rw [if_neg (by omega)]
                 exact ⟨_, _, rfl, by rw [cv_drop]; exact (hg.row rW (Nat.le_of_eq HN.out.symm)).drop_ _, fun x hx => by cases hx; exact hbo⟩)
              | (refine ⟨_, _, rfl, by rw [List.drop_of_length_le HAE.out]; exact Row.nil _ _, fun x hx => ?_⟩
                 split at hx <;> (cases hx; exact hbo))
          case finx5 =>
            intro w1 val hg hH
            simp only [Holds, Is, Nat.zero_add, Nat.reduceAdd] at hH
            obtain ⟨h0, h1, h2, h3, h4, h5, h6, h7, h8, h9, h10, _⟩ := hH
            simp only [List.take_succ_cons, List.take_zero, List.drop_succ_cons, List.drop_zero, putAll, h1, h2, h3, h5, h8, h9, Nat.zero_add, Nat.reduceAdd]
            obtain ⟨ad7, cp7, e7, o7⟩ := h7
            obtain ⟨ad10, cp10, e10, r10, _⟩ := h10
            have hs9 := hg.size
            have hNw : w.heap.size ≤ N := by omega
            have o7' := o7.base hNw
            have hbs : w.heap.size ≤ w1.heap.size := by omega
            have g10 : Gr w w1 := hg.gr gw hNw
            have m2 : a + 1 + (l.length - a) ≤ maxLen := by unfold maxLen; omega
            have m2' : (a + 1 + (l.length - a)) * 48 ≤ 140737488355328 := by omega
            have hdl : (cv (l.drop a)).length = (l.length - a) * 4 := by rw [cv_length, List.length_drop]
            have HDL := Lib.hid hdl; clear hdl
            simp only [e7, e10]
            go_simp
            go_wp2_with (at_builtin; go_must (refine wp_append elemC rfl _ _ rfl rfl o7' rfl (⟨HDL.out, cv_one _, .inl ⟨_, _, _, rfl, r10, Try.underlying31⟩⟩ : Src Try.prog 31 w1 4 (.slice ad10 (l.length - a) cp10) (l.length - a) (cv (l.drop a))) m2 m2' hbs ?_); intro ad5 cap5 w5 o5 k5 f5)
            go_ret
            have hL : (placeI l c).length = a + 1 + (l.length - a) := by rw [HE.out]; simp only [List.length_append, List.length_take, List.length_drop, List.length_cons, List.length_nil]; omega
            refine ⟨ad5, cap5, by rw [hL]; rfl, ?_, g10.grown k5 (row_from o7')⟩
            rw [hL, HE.out, cv_append, cv_append]
            simpa [cv] using o5
end Go.Proofs.Ytnafhjgfkofkbaa
/- The reference of layer 11: a list, and Insert. -/
namespace Go.Proofs.Ytnafhjgfkofkbaa
set_option linter.unusedVariables false
set_option linter.unusedSimpArgs false
open Go.RowKit Ikey Varint
/-- the reference's list -/
structure Rl (w : World) (B gm : Nat) (C : List Ce) (fz : Bool) (ad : Option Addr) (cap : Nat) : Prop where
  blk : Blk w gm 38 [.slice ad C.length cap, .bool fz]
  own : Owns w B 41 4 ad cap C.length (cv (ci C))
  base : B ≤ gm
  ne : ∀ x, ad = some x → x.block ≠ gm
theorem Rl.gr {w w' : World} {B gm : Nat} {C : List Ce} {fz : Bool} {ad : Option Addr} {cap : Nat} (h : Rl w B gm C fz ad cap) (k : Gr w w') : Rl w' B gm C fz ad cap :=
  ⟨h.blk.gr k, h.own.gr k, h.base, h.ne⟩
theorem made_gr (N : Nat) (e : TypeId) (size m : Nat) (xs : List Value) : Stable Gr (Made N e size m xs) := by
  rintro v w1 w2 ⟨ad, cap, rfl, ho⟩ h
  exact ⟨ad, cap, rfl, ho.gr h⟩
theorem place_ci (C : List Ce) (c : Ce) : placeI (ci C) c.i = ci (C.takeWhile (aheadC c.vr) ++ c :: C.dropWhile (aheadC c.vr)) := by
  have e : c.i.vr = c.vr := rfl
  have h : C = C.takeWhile (aheadC c.vr) ++ C.dropWhile (aheadC c.vr) := (List.takeWhile_append_dropWhile).symm
  have hr : rankI c.vr (ci C) = (ci (C.takeWhile (aheadC c.vr))).length := by rw [rank_ci, ci_len]; rfl
  unfold placeI
  rw [e, hr]
  generalize C.takeWhile (aheadC c.vr) = A at *
  generalize C.dropWhile (aheadC c.vr) = B at *
  subst h
  unfold ci
  simp
set_option maxRecDepth 100000 in
set_option maxHeartbeats 1000000 in
theorem rInsert_no (w : World) (gm : Nat) (x : Value) (fz : Bool) (hb : Blk w gm 38 [x, .bool fz]) (k : List UInt8) (s d : Int) (v : List UInt8) (h : Int) (hv : v.length ≤ 9223372036854775807) (hc : chkI fz false k s d v h ≠ 0) :
    Calls Try.prog 13 #[.pointer (some ⟨gm, 0, none⟩), celV k s d v, .int .i64 h] w fun e w' => e = .returned (.int .i64 (chkI fz false k s d v h : Nat)) ∧ Gr w w' := by
  have HC := Lib.hid (fun w => rRight_any k s d w)
  unfold celV
  unfold ver at HC
  have g1 : Gr w (w.alloc (.cells #[.string (str k), .int .i64 s, .int .i64 d, .string (str v)] 41)) := Gr.alloc _ _
  have c1 := (hb.gr g1).cell (i := 1) rfl
  clear hb
  cases hz : fz with
  | true =>
    have HX := Lib.hid (show chkI true false k s d v h = 12 by unfold chkI; rw [if_pos (by simp)])
    rw [hz] at c1
    clear hc
    go_enter Try.func13, Try.ntmps13
    go_wp2
    go_ret
    exact ⟨by rw [HX.out]; rfl, g1⟩
  | false =>
    rw [hz] at c1 hc
    cases ho : okV k s d with
    | false =>
      have HX := Lib.hid (show chkI false false k s d v h = 1 by unfold chkI; rw [if_neg (by simp), if_pos (.inl ho)])
      rw [ho] at HC
      clear ho hc
      go_enter Try.func13, Try.ntmps13
      go_wp2_with (first
        | (go_at_call 50; go_must (refine (HC.out _).mono ?_); rintro e w2 ⟨rfl, g2⟩)
        | fail)
      go_ret
      exact ⟨by rw [HX.out]; rfl, g1.trans g2⟩
    | true =>
      rw [ho] at HC
      by_cases h1 : h < 1
      · have HX := Lib.hid (show chkI false false k s d v h = 1 by unfold chkI; rw [if_neg (by simp), if_pos (.inr (.inl h1))])
        clear ho hc
        go_enter Try.func13, Try.ntmps13
        go_wp2_with (first
          | (go_at_call 50; go_must (refine (HC.out _).mono ?_); rintro e w2 ⟨rfl, g2⟩)
          | fail)
        go_ret
        exact ⟨by rw [HX.out]; rfl, g1.trans g2⟩
      · by_cases h2 : 12 < h
        · have HX := Lib.hid (show chkI false false k s d v h = 1 by unfold chkI; rw [if_neg (by simp), if_pos (.inr (.inr h2))])
          clear ho hc
          go_enter Try.func13, Try.ntmps13
          go_wp2_with (first
            | (go_at_call 50; go_must (refine (HC.out _).mono ?_); rintro e w2 ⟨rfl, g2⟩)
            | fail)
          go_ret
          exact ⟨by rw [HX.out]; rfl, g1.trans g2⟩
        · have h3 : ¬ (okV k s d = false ∨ h < 1 ∨ 12 < h) := by rw [ho]; simp; omega
          by_cases h4 : 1000 < v.length
          · have HX := Lib.hid (show chkI false false k s d v h = 14 by unfold chkI; rw [if_neg (by simp), if_neg h3, if_pos h4])
            clear ho h3 hc
            go_enter Try.func13, Try.ntmps13
            go_wp2_with (first
              | (go_at_call 50; go_must (refine (HC.out _).mono ?_); rintro e w2 ⟨rfl, g2⟩; obtain ⟨_, _, _, d3, _⟩ := (Blk.of1 g2).four)
              | fail)
            go_ret
            exact ⟨by rw [HX.out]; rfl, g1.trans g2⟩
          · exact absurd (by unfold chkI; rw [if_neg (by simp), if_neg h3, if_neg h4]) hc
theorem chk_zero {fz : Bool} {k : List UInt8} {s d : Int} {v : List UInt8} {h : Int} (hc : chkI fz false k s d v h = 0) : fz = false ∧ okV k s d = true ∧ 1 ≤ h ∧ h ≤ 12 ∧ v.length ≤ 1000 := by
  unfold chkI at hc
  cases fz with
  | true => simp at hc
  | false =>
    rw [if_neg (by decide)] at hc
    by_cases e : okV k s d = false ∨ h < 1 ∨ 12 < h
    · rw [if_pos e] at hc; cases hc
    · rw [if_neg e] at hc
      by_cases e2 : 1000 < v.length
      · rw [if_pos e2] at hc; cases hc
      · refine ⟨rfl, ?_, ?_, ?_, by omega⟩
        · cases o : okV k s d with
          | true => rfl
          | false => exact absurd (.inl o) e
        · have : ¬ h < 1 := fun o => e (.inr (.inl o)); omega
        · have : ¬ 12 < h := fun o => e (.inr (.inr o)); omega
set_option maxRecDepth 100000 in
set_option maxHeartbeats 1000000 in
theorem rInsert_there (w : World) (gm : Nat) (ad : Option Addr) (cap : Nat) (l : List Ci) (hb : Blk w gm 38 [.slice ad l.length cap, .bool false]) (hr : Row w ad (cv l)) (hl : l.length ≤ 1000000) (k : List UInt8) (s d : Int) (v : List UInt8) (h : Int) (hc : chkI false false k s d v h = 0)
    (hi : rankI ⟨k, s, d⟩ l < l.length) (he : (l[rankI ⟨k, s, d⟩ l]).vr = ⟨k, s, d⟩) :
    Calls Try.prog 13 #[.pointer (some ⟨gm, 0, none⟩), celV k s d v, .int .i64 h] w fun e w' => e = .returned (.int .i64 8) ∧ Gr w w' := by
  obtain ⟨_, ho, h1, h2, h3⟩ := chk_zero hc
  clear hc
  have HC := Lib.hid (fun w => rRight_any k s d w)
  rw [ho] at HC
  clear ho
  have HK := Lib.hid (fun w' (g : Gr w w') => Rank_any gm false ad cap l ⟨k, s, d⟩ w' (hb.gr g) (hr.gr g) hl)
  have g1 : Gr w (w.alloc (.cells #[.string (str k), .int .i64 s, .int .i64 d, .string (str v)] 41)) := Gr.alloc _ _
  have m0 := (hb.gr g1).cell (i := 0) rfl
  have m1 := (hb.gr g1).cell (i := 1) rfl
  obtain ⟨b, off, rfl, e0, e1, e2, e3⟩ := (hr.gr g1).ci _ hi
  clear hb hr
  generalize l[rankI ⟨k, s, d⟩ l] = x at *
  obtain ⟨xk, xs, xd, xv⟩ := x
  unfold Ci.vr at he
  cases he
  simp only at e0 e1 e2 e3
  generalize hi' : rankI ⟨xk, xs, xd⟩ l = i at *
  clear hi'
  unfold celV
  unfold ver at HC HK
  go_enter Try.func13, Try.ntmps13
  go_wp2_with (first
    | (go_at_call 50; go_must (refine (HC.out _).mono ?_); rintro e w2 ⟨rfl, g2⟩; obtain ⟨d0, d1, d2, d3, _⟩ := (Blk.of1 g2).four)
    | (go_at_call 15; go_must (refine (HK.out _ (g1.trans g2)).mono ?_); rintro e w3 ⟨rfl, g3⟩
       have G := g2.trans g3
       have n0 := G.cell m0
       obtain ⟨b0, b1, b2, b3, _⟩ := (Blk.of1 G).four
       have f0 := G.cell e0
       have f1 := G.cell e1
       have f2 := G.cell e2
       clear d0 d1 d2 d3 e0 e1 e2 e3)
    | fail)
  go_quiet (fail)
  go_wp2
  go_ret
  exact ⟨rfl, (g1.trans G).trans (Gr.drewN _ _)⟩
theorem own_ad {w : World} {B : Nat} {e : TypeId} {size : Nat} {ad : Option Addr} {cap n : Nat} {xs : List Value} (h : Owns w B e size ad cap n xs) : (ad = none ∧ cap = 0) ∨ ∃ b off, ad = some ⟨b, off, none⟩ ∧ b < w.heap.size := by
  obtain ⟨_, _, _, ⟨e1, _, e2⟩ | ⟨g, cur, fr, e1, e2, e3, _⟩⟩ := h
  · exact .inl ⟨e1, e2⟩
  · exact .inr ⟨g, 0, e1, (Array.getElem?_eq_some_iff.1 e3).1⟩
/-- what placing a cell leaves -/
def Placed (w : World) (gm : Nat) (l : List Ci) (c : Ci) : Ending → World → Prop := fun e w' => e = .returned (.int .i64 0) ∧ ∃ ad' cap', Blk w' gm 38 [.slice ad' (l.length + 1) cap', .bool false] ∧ Owns w' w.heap.size 41 4 ad' cap' (l.length + 1) (cv (placeI l c)) ∧ Chg (fun j => j = gm) w w'
set_option maxRecDepth 100000 in
set_option maxHeartbeats 1000000 in
theorem rInsert_put1 (w : World) (B gm : Nat) (ad : Option Addr) (cap : Nat) (l : List Ci) (hb : Blk w gm 38 [.slice ad l.length cap, .bool false]) (ho2 : Owns w B 41 4 ad cap l.length (cv l)) (hl : l.length ≤ 1000000) (k : List UInt8) (s d : Int) (v : List UInt8) (h : Int) (hc : chkI false false k s d v h = 0)
    (hi : rankI ⟨k, s, d⟩ l < l.length) (hn : (l[rankI ⟨k, s, d⟩ l]).vr ≠ ⟨k, s, d⟩) :
    Calls Try.prog 13 #[.pointer (some ⟨gm, 0, none⟩), celV k s d v, .int .i64 h] w (Placed w gm l ⟨k, s, d, v⟩) := by
  obtain ⟨_, ho, h1, h2, h3⟩ := chk_zero hc
  clear hc
  have hr := ho2.row
  have hcap := ho2.2.1
  have had := own_ad ho2
  clear ho2
  have HC := Lib.hid (fun w => rRight_any k s d w)
  rw [ho] at HC
  clear ho
  have HK := Lib.hid (fun w' (g : Gr w w') => Rank_any gm false ad cap l ⟨k, s, d⟩ w' (hb.gr g) (hr.gr g) hl)
  have HPL := Lib.hid (fun w' (g : Gr w w') => Place_any ad cap l ⟨k, s, d, v⟩ w' (hr.gr g) hcap (had.imp (fun x => x) (fun ⟨b, off, e, hlt⟩ => ⟨b, off, e, Nat.lt_of_lt_of_le hlt g.size⟩)) hl)
  have g1 : Gr w (w.alloc (.cells #[.string (str k), .int .i64 s, .int .i64 d, .string (str v)] 41)) := Gr.alloc _ _
  have m0 := (hb.gr g1).cell (i := 0) rfl
  have m1 := (hb.gr g1).cell (i := 1) rfl
  have hil := rankI_le ⟨k, s, d⟩ l
  have HCI := Lib.hid (fun w' (g : Gr w w') => (hr.gr g).ci)
  have HB := Lib.hid hb
  have HLen := Lib.hid (placeI_len l ⟨k, s, d, v⟩)
  clear hb hr hcap had
  unfold Placed
  generalize hP : placeI l ⟨k, s, d, v⟩ = P at *
  clear hP
  unfold celV
  unfold ver at HC HK
  unfold c4 at HPL
  have hgw : w.heap.size ≤ (w.alloc (.cells #[.string (str k), .int .i64 s, .int .i64 d, .string (str v)] 41)).heap.size := g1.size
  obtain ⟨b, off, rfl, e0, e1, e2, e3⟩ := HCI.out _ g1 _ hi
  generalize l[rankI ⟨k, s, d⟩ l] = x at *
  obtain ⟨xk, xs, xd, xv⟩ := x
  have hq : xk = k → xs = s → xd = d → False := fun q1 q2 q3 => by subst q1 q2 q3; exact absurd rfl hn
  have HQ := Lib.hid hq
  simp only at e0 e1 e2 e3
  generalize hi' : rankI ⟨k, s, d⟩ l = i at *
  clear hi' hn HCI hq
  go_enter Try.func13, Try.ntmps13
  go_wp2_with (first
    | (go_at_call 50; go_must (refine (HC.out _).mono ?_); rintro e w2 ⟨rfl, g2⟩; obtain ⟨d0, d1, d2, d3, _⟩ := (Blk.of1 g2).four)
    | (go_at_call 15; go_must (refine (HK.out _ (g1.trans g2)).mono ?_); rintro e w3 ⟨rfl, g3⟩
       have G := g2.trans g3
       have n0 := G.cell m0
       obtain ⟨b0, b1, b2, b3, _⟩ := (Blk.of1 G).four
       have f0 := G.cell e0
       have f1 := G.cell e1
       have f2 := G.cell e2
       clear d0 d1 d2 d3 e0 e1 e2 e3)
    | fail)
  refine region_any_gr _ [Is (.int .i64 (i : Int)), Is ?r1, Is ?r2, Is ?r3, Is (.slice (some ⟨b, off, none⟩) l.length cap), Is (.int .i64 (l.length : Int)), Is (.bool true), Is (.bool true), Is ?r8, Is ?r9, Is ?r10, Is (.slice (some ⟨b, off, none⟩) l.length cap), Is (.int .i64 (i : Int)), Is (.pointer (some ⟨b, off + i * 4, none⟩)), Is ?r14, Is (.agg #[.string (str xk), .int .i64 xs, .int .i64 xd]), Is ?r16, Is (.agg #[.string (str k), .int .i64 s, .int .i64 d]), Is (.bool false), Is (.bool false)] (by kernel_rfl) (by kernel_rfl) (by kernel_rfl) rfl rfl ⟨Is.stable _, Is.stable _, Is.stable _, Is.stable _, Is.stable _, Is.stable _, Is.stable _, Is.stable _, Is.stable _, Is.stable _, Is.stable _, Is.stable _, Is.stable _, Is.stable _, Is.stable _, Is.stable _, Is.stable _, Is.stable _, Is.stable _, Is.stable _, trivial⟩ ⟨?s0, ?s1, ?s2, ?s3, ?s4, ?s5, ?s6, ?s7, ?s8, ?s9, ?s10, ?s11, ?s12, ?s13, ?s14, ?s15, ?s16, ?s17, ?s18, ?s19, trivial⟩ ?fin
  case' s0 | s1 | s2 | s3 | s4 | s5 | s6 | s7 | s8 | s9 | s10 | s11 | s12 | s13 | s14 | s15 | s16 | s17 | s18 | s19 =>
    intro ρ wr hρ hg hK
    simp [readsOf, slotsOf, Op.operands, Call.operands, tmpOf, List.filterMap_cons, List.filterMap_nil, KnownAll, knownOf, srcOf, depsOf, dstOf, Region.binds, nth, Is] at hK
    obtain ⟨hc, hf, hgl⟩ := hρ
    try simp only [wantedBy, dstOf, boolOf, nth, List.getD_cons_zero, List.getD_cons_succ, List.getElem?_cons_zero, List.getElem?_cons_succ, Option.bind_some, if_true, hK, BEq.rfl]
    try go_simp
    first | exact rfl | (rw [if_pos (by omega)]; exact is_here rfl) | (rw [dif_pos (by omega)]; exact is_here rfl) | exact congrArg (Value.int _) (IntWalk.i64_in _ ⟨by omega, by omega⟩) | skip
  case s4 => have z := hg.cell n0; go_simp; exact rfl
  case s11 => have z := hg.cell n0; go_simp; exact rfl
  case s15 => have z0 := hg.cell f0; have z1 := hg.cell f1; have z2 := hg.cell f2; go_simp; exact rfl
  case s17 => have z0 := hg.cell b0; have z1 := hg.cell b1; have z2 := hg.cell b2; go_simp; exact rfl
  case s18 =>
    split
    · rename_i q1
      split
      · rename_i q2
        split
        · rename_i q3
          exact (HQ.out q1 q2 q3).elim
        · exact is_here rfl
      · exact is_here rfl
    · exact is_here rfl
  case fin =>
    intro w1 val hg hH
    simp only [Holds, Is, Nat.zero_add, Nat.reduceAdd] at hH
    obtain ⟨h0, h1, h2, h3, h4, h5, h6, h7, h8, h9, h10, h11, h12, h13, h14, h15, h16, h17, h18, h19, _⟩ := hH
    simp only [List.take_succ_cons, List.take_zero, List.drop_succ_cons, List.drop_zero, putAll, h0, h1, h2, h3, h4, h5, h6, h7, h8, h9, h10, h11, h12, h13, h14, h15, h16, h17, h18, h19, Nat.zero_add, Nat.reduceAdd]
    have gW0 := (g1.trans G).trans hg
    have n0' := hg.cell n0
    have b0' := hg.cell b0
    have b1' := hg.cell b1
    have b2' := hg.cell b2
    have b3' := hg.cell b3
    clear f0 f1 f2 n0 b0 b1 b2 b3 hg
    go_simp
    go_wp2
    generalize w1 = W0 at *
    have n1 : w.heap.size ≤ W0.heap.size := gW0.size
    clear m1 m0
    refine region_tail_gr 9 _ [Is ?r0x1, Is ?r1x1, Is ?r2x1, Is ?r3x1, Is (.slice (some ⟨b, off, none⟩) l.length cap), Is (.agg #[.string (str k), .int .i64 s, .int .i64 d, .string (str v)]), Made w.heap.size 41 4 P.length (cv P), Is ?r7x1, Is ?r8x1] (by kernel_rfl) (by kernel_rfl) (by kernel_rfl) (by kernel_rfl) rfl rfl ⟨Is.stable _, Is.stable _, Is.stable _, Is.stable _, Is.stable _, Is.stable _, made_gr _ _ _ _ _, Is.stable _, Is.stable _, trivial⟩ ⟨?s0x1, ?s1x1, ?s2x1, ?s3x1, ?s4x1, ?s5x1, ?s6x1, ?s7x1, ?s8x1, trivial⟩ ?finx1
    case' s0x1 | s1x1 | s2x1 | s3x1 | s4x1 | s5x1 | s6x1 | s7x1 | s8x1 =>
      intro ρ wr hρ hg hK
      simp [readsOf, slotsOf, Op.operands, Call.operands, tmpOf, List.filterMap_cons, List.filterMap_nil, KnownAll, knownOf, srcOf, depsOf, dstOf, Region.binds, nth, Is] at hK
      obtain ⟨hc, hf, hgl⟩ := hρ
      try simp only [wantedBy, dstOf, boolOf, nth, List.getD_cons_zero, List.getD_cons_succ, List.getElem?_cons_zero, List.getElem?_cons_succ, Option.bind_some, if_true, hK, BEq.rfl]
      try go_simp
      first | exact rfl | (rw [if_pos (by omega)]; exact is_here rfl) | (rw [dif_pos (by omega)]; exact is_here rfl) | exact congrArg (Value.int _) (IntWalk.i64_in _ ⟨by omega, by omega⟩) | skip
    case s4x1 => have z := hg.cell n0'; go_simp; exact rfl
    case s5x1 => have z0 := hg.cell b0'; have z1 := hg.cell b1'; have z2 := hg.cell b2'; have z3 := hg.cell b3'; go_simp; exact rfl
    case s6x1 =>
      refine (HPL.out _ (gW0.trans hg)).mono ?_
      rintro e w' ⟨ad', cap', rfl, o, g⟩
      exact ⟨_, rfl, g, ad', cap', rfl, o.base (gW0.trans hg).size⟩
    case finx1 =>
      intro w1 val hg hH
      simp only [Holds, Is, Nat.zero_add, Nat.reduceAdd] at hH
      obtain ⟨h0, h1, h2, h3, h4, h5, h6, h7, h8, _⟩ := hH
      simp only [List.take_succ_cons, List.take_zero, List.drop_succ_cons, List.drop_zero, putAll, h0, h1, h2, h3, h4, h5, h7, h8, Nat.zero_add, Nat.reduceAdd]
      obtain ⟨ad6, cap6, e6, o6⟩ := h6
      have G1 := gW0.trans hg
      have B1 := HB.out.gr G1
      have fz1 := B1.frozen 0
      have c0 := B1.cell (i := 0) rfl
      simp only [e6]
      go_simp
      go_wp2
      go_ret
      refine ⟨rfl, ad6, cap6, ?_, ?_, ?_⟩
      · rw [← HLen.out]
        exact B1.set_ 0 _
      · rw [← HLen.out]
        exact o6.grown (grown_set _ gm 0 _) (fun a ha e => by
          have := (o6.lt a ha).1
          have := HB.out.lt
          cases e; omega)
      · exact Chg.grown (grown_trans G1.far (grown_set _ gm 0 _)) rfl
set_option maxRecDepth 100000 in
set_option maxHeartbeats 1000000 in
theorem rInsert_put2 (w : World) (B gm : Nat) (ad : Option Addr) (cap : Nat) (l : List Ci) (hb : Blk w gm 38 [.slice ad l.length cap, .bool false]) (ho2 : Owns w B 41 4 ad cap l.length (cv l)) (hl : l.length ≤ 1000000) (k : List UInt8) (s d : Int) (v : List UInt8) (h : Int) (hc : chkI false false k s d v h = 0)
    (hi : ¬ rankI ⟨k, s, d⟩ l < l.length) :
    Calls Try.prog 13 #[.pointer (some ⟨gm, 0, none⟩), celV k s d v, .int .i64 h] w (Placed w gm l ⟨k, s, d, v⟩) := by
  obtain ⟨_, ho, h1, h2, h3⟩ := chk_zero hc
  clear hc
  have hr := ho2.row
  have hcap := ho2.2.1
  have had := own_ad ho2
  clear ho2
  have HC := Lib.hid (fun w => rRight_any k s d w)
  rw [ho] at HC
  clear ho
  have HK := Lib.hid (fun w' (g : Gr w w') => Rank_any gm false ad cap l ⟨k, s, d⟩ w' (hb.gr g) (hr.gr g) hl)
  have HPL := Lib.hid (fun w' (g : Gr w w') => Place_any ad cap l ⟨k, s, d, v⟩ w' (hr.gr g) hcap (had.imp (fun x => x) (fun ⟨b, off, e, hlt⟩ => ⟨b, off, e, Nat.lt_of_lt_of_le hlt g.size⟩)) hl)
  have g1 : Gr w (w.alloc (.cells #[.string (str k), .int .i64 s, .int .i64 d, .string (str v)] 41)) := Gr.alloc _ _
  have m0 := (hb.gr g1).cell (i := 0) rfl
  have m1 := (hb.gr g1).cell (i := 1) rfl
  have hil := rankI_le ⟨k, s, d⟩ l
  have HCI := Lib.hid (fun w' (g : Gr w w') => (hr.gr g).ci)
  have HB := Lib.hid hb
  have HLen := Lib.hid (placeI_len l ⟨k, s, d, v⟩)
  clear hb hr hcap had
  unfold Placed
  generalize hP : placeI l ⟨k, s, d, v⟩ = P at *
  clear hP
  unfold celV
  unfold ver at HC HK
  unfold c4 at HPL
  have hgw : w.heap.size ≤ (w.alloc (.cells #[.string (str k), .int .i64 s, .int .i64 d, .string (str v)] 41)).heap.size := g1.size
  obtain ⟨i, hi'⟩ : ∃ i, i = rankI ⟨k, s, d⟩ l := ⟨_, rfl⟩
  have hii : ((rankI ⟨k, s, d⟩ l : Nat) : Int) = (i : Int) := by rw [hi']
  rw [hii] at HK
  have hi2 : l.length ≤ i := by omega
  have hi3 : decide (i < l.length) = false := by rw [decide_eq_false_iff_not]; omega
  have hi4 : decide ((i : Int) < (l.length : Int)) = false := by rw [decide_eq_false_iff_not]; omega
  clear hi' HCI hi hii hil
  go_enter Try.func13, Try.ntmps13
  go_wp2_with (first
    | (go_at_call 50; go_must (refine (HC.out _).mono ?_); rintro e w2 ⟨rfl, g2⟩; obtain ⟨d0, d1, d2, d3, _⟩ := (Blk.of1 g2).four)
    | (go_at_call 15; go_must (refine (HK.out _ (g1.trans g2)).mono ?_); rintro e w3 ⟨rfl, g3⟩
       have G := g2.trans g3
       have n0 := G.cell m0
       obtain ⟨b0, b1, b2, b3, _⟩ := (Blk.of1 G).four
       clear d0 d1 d2 d3)
    | fail)
  go_quiet (fail)
  go_wp2
  generalize hW0 : w3.drewN _ = W0
  have gW3 : Gr w3 W0 := by rw [← hW0]; exact Gr.drewN _ _
  have gW0 : Gr w W0 := (g1.trans G).trans gW3
  have n0' := gW3.cell n0
  have b0' := gW3.cell b0
  have b1' := gW3.cell b1
  have b2' := gW3.cell b2
  have b3' := gW3.cell b3
  clear hW0 gW3 n0 b0 b1 b2 b3
  have n1 : w.heap.size ≤ W0.heap.size := gW0.size
  clear m1 m0
  refine region_tail_gr 9 _ [Is ?r0x2, Is ?r1x2, Is ?r2x2, Is ?r3x2, Is (.slice ad l.length cap), Is (.agg #[.string (str k), .int .i64 s, .int .i64 d, .string (str v)]), Made w.heap.size 41 4 P.length (cv P), Is ?r7x2, Is ?r8x2] (by kernel_rfl) (by kernel_rfl) (by kernel_rfl) (by kernel_rfl) rfl rfl ⟨Is.stable _, Is.stable _, Is.stable _, Is.stable _, Is.stable _, Is.stable _, made_gr _ _ _ _ _, Is.stable _, Is.stable _, trivial⟩ ⟨?s0x2, ?s1x2, ?s2x2, ?s3x2, ?s4x2, ?s5x2, ?s6x2, ?s7x2, ?s8x2, trivial⟩ ?finx2
  case' s0x2 | s1x2 | s2x2 | s3x2 | s4x2 | s5x2 | s6x2 | s7x2 | s8x2 =>
    intro ρ wr hρ hg hK
    simp [readsOf, slotsOf, Op.operands, Call.operands, tmpOf, List.filterMap_cons, List.filterMap_nil, KnownAll, knownOf, srcOf, depsOf, dstOf, Region.binds, nth, Is] at hK
    obtain ⟨hc, hf, hgl⟩ := hρ
    try simp only [wantedBy, dstOf, boolOf, nth, List.getD_cons_zero, List.getD_cons_succ, List.getElem?_cons_zero, List.getElem?_cons_succ, Option.bind_some, if_true, hK, BEq.rfl]
    try go_simp
    first | exact rfl | (rw [if_pos (by omega)]; exact is_here rfl) | (rw [dif_pos (by omega)]; exact is_here rfl) | exact congrArg (Value.int _) (IntWalk.i64_in _ ⟨by omega, by omega⟩) | skip
  case s4x2 => have z := hg.cell n0'; go_simp; exact rfl
  case s5x2 => have z0 := hg.cell b0'; have z1 := hg.cell b1'; have z2 := hg.cell b2'; have z3 := hg.cell b3'; go_simp; exact rfl
  case s6x2 =>
    refine (HPL.out _ (gW0.trans hg)).mono ?_
    rintro e w' ⟨ad', cap', rfl, o, g⟩
    exact ⟨_, rfl, g, ad', cap', rfl, o.base (gW0.trans hg).size⟩
  case finx2 =>
    intro w1 val hg hH
    simp only [Holds, Is, Nat.zero_add, Nat.reduceAdd] at hH
    obtain ⟨h0, h1, h2, h3, h4, h5, h6, h7, h8, _⟩ := hH
    simp only [List.take_succ_cons, List.take_zero, List.drop_succ_cons, List.drop_zero, putAll, h0, h1, h2, h3, h4, h5, h7, h8, Nat.zero_add, Nat.reduceAdd]
    obtain ⟨ad6, cap6, e6, o6⟩ := h6
    have G1 := gW0.trans hg
    have B1 := HB.out.gr G1
    have fz1 := B1.frozen 0
    have c0 := B1.cell (i := 0) rfl
    simp only [e6]
    go_simp
    go_wp2
    go_ret
    refine ⟨rfl, ad6, cap6, ?_, ?_, ?_⟩
    · rw [← HLen.out]
      exact B1.set_ 0 _
    · rw [← HLen.out]
      exact o6.grown (grown_set _ gm 0 _) (fun a ha e => by
        have := (o6.lt a ha).1
        have := HB.out.lt
        cases e; omega)
    · exact Chg.grown (grown_trans G1.far (grown_set _ gm 0 _)) rfl
theorem Rl.put {w w' : World} {B gm : Nat} {C : List Ce} {c : Ce} {fz : Bool} {ad : Option Addr} {cap : Nat} (h : Rl w B gm C fz ad cap) (hB : B ≤ w.heap.size) {e : Ending} (hp : Placed w gm (ci C) c.i e w') (hz : fz = false) :
    e = .returned (.int .i64 0) ∧ ∃ ad' cap', Rl w' B gm (C.takeWhile (aheadC c.vr) ++ c :: C.dropWhile (aheadC c.vr)) fz ad' cap' ∧ Chg (fun j => j = gm) w w' ∧ ∀ x, ad' = some x → ad = some x ∨ w.heap.size ≤ x.block := by
  obtain ⟨he, ad', cap', h1, h2, h3⟩ := hp
  have hlen : (C.takeWhile (aheadC c.vr) ++ c :: C.dropWhile (aheadC c.vr)).length = C.length + 1 := by
    have : (C.takeWhile (aheadC c.vr)).length + (C.dropWhile (aheadC c.vr)).length = C.length := by
      rw [← List.length_append, List.takeWhile_append_dropWhile]
    simp only [List.length_append, List.length_cons]; omega
  rw [place_ci] at h2
  rw [ci_len] at h1 h2
  rw [← hlen] at h1 h2
  refine ⟨he, ad', cap', ⟨by rw [hz]; exact h1, h2.base hB, h.base, fun x hx => ?_⟩, h3, fun x hx => .inr (h2.lt x hx).1⟩
  have := (h2.lt x hx).1
  have := h.blk.lt
  omega
theorem get_rank (v : Vr) : ∀ C : List Ce, (ci C)[rankI v (ci C)]? = ((C.dropWhile (aheadC v)).head?).map Ce.i
  | [] => rfl
  | c :: C => by
    have ih := get_rank v C
    have e : ci (c :: C) = c.i :: ci C := rfl
    have e2 : aheadC v c = vless c.i.vr v := rfl
    rw [e, rankI, List.dropWhile_cons, e2]
    cases h : vless c.i.vr v with
    | true => simpa using ih
    | false => simp
theorem rInsert_any (w : World) (B gm : Nat) (C : List Ce) (fz : Bool) (ad : Option Addr) (cap : Nat) (hm : Rl w B gm C fz ad cap) (hB : B ≤ w.heap.size) (hl : C.length ≤ 1000000) (k : List UInt8) (s d : Int) (v : List UInt8) (h : Int) (hv : v.length ≤ 9223372036854775807) :
    Calls Try.prog 13 #[.pointer (some ⟨gm, 0, none⟩), celV k s d v, .int .i64 h] w fun e w' => e = .returned (.int .i64 ((insF C fz k s d v h).1 : Int)) ∧ ∃ ad' cap', Rl w' B gm (insF C fz k s d v h).2 fz ad' cap' ∧ Chg (fun j => j = gm) w w' ∧ ∀ x, ad' = some x → ad = some x ∨ w.heap.size ≤ x.block := by
  by_cases hc : chkI fz false k s d v h = 0
  · obtain ⟨hz, ho, _, _, _⟩ := chk_zero hc
    subst hz
    obtain ⟨o1, o2, o3, o4, o5⟩ := okV_of ho
    have es : s = ((s.toNat : Nat) : Int) := by omega
    have ed : d = ((d.toNat : Nat) : Int) := by omega
    have hci : (⟨k, s.toNat, d.toNat, v⟩ : Ce).i = ⟨k, s, d, v⟩ := by unfold Ce.i; simp only; rw [← es, ← ed]
    have hvr : (⟨k, s.toNat, d.toNat, v⟩ : Ce).vr = ⟨k, s, d⟩ := by unfold Ce.vr; simp only; rw [← es, ← ed]
    have hg := get_rank ⟨k, s, d⟩ C
    have b1 := hm.blk
    have b2 := hm.own
    rw [← ci_len C] at b1 b2
    have hle := rankI_le ⟨k, s, d⟩ (ci C)
    have hll : (ci C).length ≤ 1000000 := by rw [ci_len]; exact hl
    unfold insF
    rw [if_neg (fun e => e hc)]
    cases hd : C.dropWhile (aheadC ⟨k, s, d⟩) with
    | nil =>
      rw [hd] at hg
      have hi : ¬ rankI ⟨k, s, d⟩ (ci C) < (ci C).length := fun e => by
        rw [List.getElem?_eq_getElem e] at hg; cases hg
      refine (rInsert_put2 w B gm ad cap (ci C) b1 b2 hll k s d v h hc hi).mono ?_
      intro e w' hp
      rw [← hci] at hp
      obtain ⟨q1, ad', cap', q2, q3⟩ := hm.put hB hp rfl
      rw [hvr, hd] at q2
      exact ⟨q1, ad', cap', q2, q3⟩
    | cons x D =>
      rw [hd] at hg
      have hi : rankI ⟨k, s, d⟩ (ci C) < (ci C).length := by
        by_cases e : rankI ⟨k, s, d⟩ (ci C) < (ci C).length
        · exact e
        · rw [List.getElem?_eq_none (by omega)] at hg; cases hg
      have hx : (ci C)[rankI ⟨k, s, d⟩ (ci C)] = x.i := by
        rw [List.getElem?_eq_getElem hi] at hg
        simpa using hg
      have hxv : ((ci C)[rankI ⟨k, s, d⟩ (ci C)]).vr = x.vr := by rw [hx]; rfl
      show Calls _ _ _ _ fun e w' => e = .returned (.int .i64 ((if isV x ⟨k, s, d⟩ = true then _ else _ : Nat × List Ce).1 : Int)) ∧ ∃ ad' cap', Rl w' B gm (if isV x ⟨k, s, d⟩ = true then _ else _ : Nat × List Ce).2 false ad' cap' ∧ _
      by_cases hb : isV x ⟨k, s, d⟩ = true
      · simp only [if_pos hb]
        refine (rInsert_there w gm ad cap (ci C) b1 b2.row hll k s d v h hc hi (by rw [hxv]; exact isV_iff.1 hb)).mono ?_
        rintro e w' ⟨q1, q2⟩
        exact ⟨q1, ad, cap, hm.gr q2, q2.chg, fun x hx => .inl hx⟩
      · simp only [if_neg hb]
        refine (rInsert_put1 w B gm ad cap (ci C) b1 b2 hll k s d v h hc hi (by rw [hxv]; exact fun e => hb (isV_iff.2 e))).mono ?_
        intro e w' hp
        rw [← hci] at hp
        obtain ⟨q1, ad', cap', q2, q3⟩ := hm.put hB hp rfl
        rw [hvr, hd] at q2
        exact ⟨q1, ad', cap', q2, q3⟩
  · have hI : insF C fz k s d v h = (chkI fz false k s d v h, C) := by unfold insF; rw [if_pos hc]
    rw [hI]
    refine (rInsert_no w gm _ fz hm.blk k s d v h hv hc).mono ?_
    rintro e w' ⟨h1, h2⟩
    exact ⟨h1, ad, cap, hm.gr h2, h2.chg, fun x hx => .inl hx⟩
end Go.Proofs.Ytnafhjgfkofkbaa
/- A region that draws its order, with a ghost beside the world, as in Ghost; an operation also knows of those that the text lays ahead of it. No program is in sight here. -/
namespace Go.Proofs.Ytnafhjgfkofkbaa
set_option linter.unusedVariables false
set_option linter.unusedSimpArgs false
open Go.RowKit
section
variable {P : Program} {G : Type}
def ShownA (P : Program) (Le : World × G → World × G → Prop) (Pre : Nat → World × G → Prop) (ops : List Oper) (R : Nat → Value → World × G → Prop) (a0 : Act) (s0 : World × G) (i : Nat) (o : Oper) : Prop :=
  ∀ ρ w g, Ev ρ → (Le s0 (w, g) ∧ (∀ k, preB ops k i = true → Pre k (w, g)) ∧ ∀ d ∈ depsOf o, ∃ v, R d v (w, g)) → KnownAll ops (fun j v w' => R j v (w', g)) a0 o ρ w (readsOf ops o) →
    if wantedBy ops o ρ then growG P (LePg Le Pre i) (w, g) (R i) ((execOp ρ o).run P w) else R i undef (w, g)
def AllShownA (P : Program) (Le : World × G → World × G → Prop) (Pre : Nat → World × G → Prop) (ops : List Oper) (Rs : List (Value → World × G → Prop)) (a0 : Act) (s0 : World × G) : List Oper → Nat → Prop
  | [], _ => True
  | o :: r, i => ShownA P Le Pre ops (nthG Rs) a0 s0 i o ∧ AllShownA P Le Pre ops Rs a0 s0 r (i + 1)
theorem AllShownA.get {Le : World × G → World × G → Prop} {Pre : Nat → World × G → Prop} {ops : List Oper} {Rs : List (Value → World × G → Prop)} {a0 : Act} {s0 : World × G} : ∀ {l : List Oper} {k : Nat}, AllShownA P Le Pre ops Rs a0 s0 l k → ∀ i o, l[i]? = some o → ShownA P Le Pre ops (nthG Rs) a0 s0 (k + i) o
  | [], _, _, i, o, hi => by simp at hi
  | x :: r, k, h, 0, o, hi => by simp at hi; subst hi; exact h.1
  | x :: r, k, h, i + 1, o, hi => by
    have := h.2.get i o (by simpa using hi)
    rwa [show k + 1 + i = k + (i + 1) by omega] at this
theorem region_any_ghostA {Pre : Nat → World × G → Prop} {Le : World × G → World × G → Prop} (hrefl : ∀ s, Le s s) (htrans : ∀ a b c, Le a b → Le b c → Le a c) {id : Nat} {Q : Exit → Act → World → Prop} {a0 : Act} {w : World} (g0 : G) {l : List Oper} (n : Nat) (R : Nat → Value → World × G → Prop)
    (hm : P.follows .mixedOrders = true) (hB : anyB l n = true) (hn : a0.tmps.size = n) (hst : ∀ i v w1 w2, R i v w1 → Le w1 w2 → R i v w2)
    (hp0 : ∀ s, Pre s (w.drew, g0)) (hs : ∀ i o, l[i]? = some o → ShownA P Le Pre l R a0 (w.drew, g0) i o)
    (hfin : ∀ w1 g1 val, Le (w.drew, g0) (w1, g1) → (∀ i o, l[i]? = some o → ∃ v, R i v (w1, g1) ∧ (o.dst.isSome = true → val i = v)) → Q .normal (putAll val l 0 a0) w1) : (Code.region id l.toArray true).wp P Q a0 w := by
  have hsize : l.toArray.size = l.length := by simp
  have allL : ∀ (listed : Array Bool), listed.size = l.length → Region.ready .any l.toArray listed = [] → ∀ k, k < l.length → listed.getD k false = true := by
    intro listed hls hr k
    induction k using Nat.strongRecOn with
    | _ k ih =>
      intro hk
      cases hc : listed.getD k false with
      | true => rfl
      | false =>
        exfalso
        have hok := opOk_of hB (i := k) (o := l[k]) (by simp [hk])
        have hmem : k ∈ Region.ready .any l.toArray listed := by
          rw [mem_ready]
          refine ⟨?_, l[k], by simp [hk], fun e he hb => ?_⟩
          · have : k < listed.size := by omega
            simp [this] at hc ⊢; exact hc
          · have hd : e.on ∈ depsOf l[k] := by
              unfold depsOf
              rw [List.mem_filterMap]
              exact ⟨e, by simpa using he, by rw [hb]; rfl⟩
            simp only [opOk, Bool.and_eq_true, List.all_eq_true, decide_eq_true_eq] at hok
            have hlt := hok.1.1.2 _ hd
            exact ih _ hlt (by omega)
        rw [hr] at hmem
        cases hmem
  have fin : ∀ (listed : Array Bool) (a : Act) (w1 : World) (g1 : G), OnWayG Pre Le l R a0 (w.drew, g0) listed a w1 g1 → (∀ k, k < l.length → listed.getD k false = true) → Q .normal a w1 := by
    intro listed a w1 g1 inv hall
    have hval := hfin w1 g1 (fun j => match dstOf l j with | some d => a.tmps.getD d undef | none => undef) inv.le (fun i o hi => by
      obtain ⟨v, hv, he⟩ := inv.known i o hi (hall i (List.getElem?_eq_some_iff.1 hi).1)
      refine ⟨v, hv, fun hd => ?_⟩
      obtain ⟨d, hd⟩ := Option.isSome_iff_exists.1 hd
      have : dstOf l i = some d := by simp [dstOf, hi, hd]
      simp only [this]
      exact he d hd)
    have e : a = putAll (fun j => match dstOf l j with | some d => a.tmps.getD d undef | none => undef) l 0 a0 := by
      refine act_ext (by rw [putAll_size, inv.tmps]) (by rw [putAll_defers, inv.defers]) fun t => ?_
      by_cases ht : ∃ (j : Nat) (o : Oper), l[j]? = some o ∧ o.dst = some t
      · obtain ⟨j, o, hj, hd⟩ := ht
        have hok := opOk_of hB hj
        have htn : t < n := by
          simp only [opOk, hd, Bool.and_eq_true, decide_eq_true_eq] at hok
          exact hok.1.1.1.2.1
        rw [putAll_at _ t l 0 a0 j o hj hd (by rw [hn]; exact htn) (fun j' o' hj' hne hd' => by
          have hok' := opOk_of hB hj'
          simp only [opOk, Bool.and_eq_true, List.all_eq_true] at hok'
          have h2 := hok'.2 j (List.mem_range.2 (List.getElem?_eq_some_iff.1 hj).1)
          have hdj : dstOf l j = some t := by simp [dstOf, hj, hd]
          simp [hdj, hd', Ne.symm hne] at h2)]
        have hdj : dstOf l (0 + j) = some t := by simp [dstOf, hj, hd]
        simp only [hdj]
      · rw [putAll_other _ t l 0 a0 (fun o ho hd => ht (by
          obtain ⟨j, hj, e⟩ := List.getElem_of_mem ho
          exact ⟨j, o, by simp [hj, e], hd⟩))]
        exact inv.rest t (fun j o hj _ hd => ht ⟨j, o, hj, hd⟩)
    rw [e]; exact hval
  have key : ∀ (fuel : Nat) (listed : Array Bool) (a : Act) (w1 : World) (g1 : G), OnWayG Pre Le l R a0 (w.drew, g0) listed a w1 g1 → cnt (fun k => listed.getD k false) l.length ≤ fuel → wpAny P .any l.toArray Q fuel listed a w1 := by
    intro fuel
    induction fuel with
    | zero =>
      intro listed a w1 g1 inv hc
      have hall := cnt_zero (by omega : cnt (fun k => listed.getD k false) l.length = 0)
      refine ⟨?_, fin listed a w1 g1 inv hall⟩
      rw [List.eq_nil_iff_forall_not_mem]
      intro j hj
      obtain ⟨h1, o, ho, _⟩ := mem_ready.1 hj
      have hlt : j < l.length := by
        have := (Array.getElem?_eq_some_iff.1 ho).1
        simpa using this
      have h2 := hall j hlt
      have : j < listed.size := by rw [inv.size]; exact hlt
      simp [this] at h1 h2
      rw [h1] at h2; cases h2
    | succ fuel ih =>
      intro listed a w1 g1 inv hc
      refine ⟨fun hr => fin listed a w1 g1 inv (allL listed inv.size hr), fun i hi => ?_⟩
      obtain ⟨h1, o, ho, hdeps⟩ := mem_ready.1 hi
      have hio : l[i]? = some o := by simpa using ho
      have hlt : i < l.length := (List.getElem?_eq_some_iff.1 hio).1
      have hls : i < listed.size := by rw [inv.size]; exact hlt
      have hun : listed.getD i false = false := by simp [hls] at h1 ⊢; exact h1
      have hok := opOk_of hB hio
      have hdl : ∀ d ∈ depsOf o, listed.getD d false = true := by
        intro d hd
        unfold depsOf at hd
        obtain ⟨e, he, hb⟩ := List.mem_filterMap.1 hd
        split at hb
        · rename_i hbb
          cases hb
          exact hdeps e (by simpa using he) hbb
        · cases hb
      have hcnt : cnt (fun k => (listed.setIfInBounds i true).getD k false) l.length ≤ fuel := by
        have := cnt_set (f := fun k => listed.getD k false) (g := fun k => (listed.setIfInBounds i true).getD k false) (i := i) (n := l.length) hlt hun (fun k => by
          by_cases hk : i = k
          · subst hk; simp [hls]
          · have hk' : (k == i) = false := by simp; omega
            simp only [getD_set_ne false hk, hk', Bool.or_false])
        omega
      have hkn : ∀ t ∈ readsOf l o, knownOf l (fun j v w' => R j v (w', g1)) a0 o t (a.eval (.tmp t)) w1 := by
        intro t ht
        show knownOf l (fun j v w' => R j v (w', g1)) a0 o t (a.tmps.getD t undef) w1
        unfold knownOf
        cases hsrc : srcOf l o t with
        | some j =>
          have hj := List.mem_of_find?_eq_some hsrc
          have hjt := List.find?_some hsrc
          have hjd : dstOf l j = some t := by simpa using hjt
          unfold dstOf at hjd
          cases hlj : l[j]? with
          | none => simp [hlj] at hjd
          | some oj =>
            simp [hlj] at hjd
            obtain ⟨v, hv, he⟩ := inv.known j oj hlj (hdl j hj)
            show R j (a.tmps.getD t undef) (w1, g1)
            rw [he t hjd]; exact hv
        | none =>
          refine inv.rest t (fun j oj hlj hll hd => ?_)
          have hdj : dstOf l j = some t := by simp [dstOf, hlj, hd]
          have hne : j ≠ i := fun e => by subst e; rw [hun] at hll; cases hll
          simp only [opOk, Bool.and_eq_true, List.all_eq_true] at hok
          have h2 := hok.2 j (List.mem_range.2 (List.getElem?_eq_some_iff.1 hlj).1)
          simp only [hdj, hlj] at h2
          have ht' : (readsOf l o).contains t = true := by simpa using ht
          simp [hne, ht] at h2
          rcases h2.2 with h3 | h3
          · have := List.find?_eq_none.1 hsrc j h3
            simp [hdj] at this
          · have := inv.closed j oj hlj hll i h3
            rw [hun] at this; cases this
      have hpre : ∀ s, preB l s i = true → Pre s (w1, g1) := by
        intro s hb
        refine inv.pre s ?_
        cases hc : listed.getD s false with
        | false => rfl
        | true =>
          exfalso
          simp only [preB, Bool.or_eq_true, beq_iff_eq] at hb
          rcases hb with rfl | hb
          · rw [hun] at hc; cases hc
          · cases hos : l[s]? with
            | none => rw [hos] at hb; cases hb
            | some os =>
              rw [hos] at hb
              have := inv.closed s os hos hc i (by simpa using hb)
              rw [hun] at this; cases this
      have hafter : ∀ d ∈ depsOf o, ∃ v, R d v (w1, g1) := by
        intro d hd
        have hdl2 := hdl d hd
        have hlt2 : d < l.length := by
          simp only [opOk, Bool.and_eq_true, List.all_eq_true, decide_eq_true_eq] at hok
          exact Nat.lt_trans (hok.1.1.2 _ hd) hlt
        obtain ⟨v, hv, _⟩ := inv.known d l[d] (by simp [hlt2]) hdl2
        exact ⟨v, hv⟩
      have hsh := hs i o hio a.eval w1 g1 ⟨fun _ => rfl, fun _ => rfl, fun _ => rfl⟩ ⟨inv.le, hpre, hafter⟩ (KnownAll.of hkn)
      have hwant : Region.wanted o (yielded l.toArray a.tmps) = wantedBy l o a.eval := by
        unfold Region.wanted wantedBy
        cases o.guard with
        | none => rfl
        | some g => simp only [yielded_eq]; rfl
      have step : ∀ v w2 g2, LePg Le Pre i (w1, g1) (w2, g2) → R i v (w2, g2) → wpAny P .any l.toArray Q fuel (listed.setIfInBounds i true) (a.put o.dst v) w2 := by
        intro v w2 g2 hle2 hv
        have hle := hle2.1
        refine ih _ _ _ g2 ⟨by simp [inv.size], htrans _ _ _ inv.le hle, by rw [put_defers, inv.defers], by rw [put_size, inv.tmps], ?_, ?_, ?_, ?_⟩ hcnt
        · intro j oj hj hl d hd
          rcases listed_set hl with rfl | hl
          · rw [hio] at hj; cases hj
            exact getD_set_true (hdl d hd)
          · exact getD_set_true (inv.closed j oj hj hl d hd)
        · intro j oj hj hl
          rcases listed_set hl with rfl | hl2
          · rw [hio] at hj; cases hj
            refine ⟨v, hv, fun d hd => ?_⟩
            have hdn : d < n := by
              simp only [opOk, hd, Bool.and_eq_true, decide_eq_true_eq] at hok
              exact hok.1.1.1.2.1
            rw [hd, put_same _ _ _ (by rw [inv.tmps, hn]; exact hdn)]
          · by_cases hji : j = i
            · subst hji; rw [hun] at hl2; cases hl2
            · obtain ⟨v', hv', he'⟩ := inv.known j oj hj hl2
              refine ⟨v', hst j _ _ _ hv' hle, fun d hd => ?_⟩
              rw [put_other _ _ _ _ (fun hd' => by
                simp only [opOk, Bool.and_eq_true, List.all_eq_true] at hok
                have h2 := hok.2 j (List.mem_range.2 (List.getElem?_eq_some_iff.1 hj).1)
                have hdj : dstOf l j = some d := by simp [dstOf, hj, hd]
                simp [hdj, hd', hji] at h2)]
              exact he' d hd
        · intro s hns
          by_cases his : i = s
          · subst his; simp [hls] at hns
          · have hns2 : listed.getD s false = false := by
              rw [getD_set_ne false his] at hns; exact hns
            exact hle2.2 s (fun e => his e.symm) (inv.pre s hns2)
        · intro t ht
          have h1 : o.dst ≠ some t := ht i o hio (by simp [hls])
          rw [put_other _ _ _ _ h1]
          exact inv.rest t (fun j oj hj hl => ht j oj hj (getD_set_true hl))
      unfold wpOp
      simp only [ho, hwant]
      split
      · rename_i hw
        rw [hw] at hsh
        simp only [if_true] at hsh
        left
        unfold Oper.wp
        generalize (execOp a.eval o).run P w1 = r at hsh
        cases r with
        | halt x w' => exact hsh.elim
        | ok nx w' =>
          cases nx with
          | value v => obtain ⟨g2, h2, h3⟩ := hsh; exact step v w' g2 h2 h3
          | skip => obtain ⟨g2, h2, h3⟩ := hsh; exact step undef w' g2 h2 h3
          | enter f args => exact Calls.mono hsh fun e w'' ⟨v, g2, he, hle, hv⟩ => by subst he; exact step v w'' g2 hle hv
          | _ => exact hsh.elim
      · rename_i hw
        simp only [Bool.not_eq_true] at hw
        rw [hw] at hsh
        exact step undef w1 g1 ⟨hrefl _, fun _ _ h => h⟩ (by simpa using hsh)
  refine wp_region_any hm ?_
  refine key l.toArray.size (Array.replicate l.toArray.size false) a0 w.drew g0 ⟨by rw [Array.size_replicate, hsize], hrefl _, rfl, rfl, ?_, ?_, fun s _ => hp0 s, ?_⟩ ?_
  · intro j o _ hl; rw [getD_replicate_false'] at hl; cases hl
  · intro j o _ hl; rw [getD_replicate_false'] at hl; cases hl
  · intro t _; rfl
  · show cnt _ l.length ≤ l.toArray.size
    rw [hsize]; exact cnt_le _ _

theorem region_ghostA {Le : World × G → World × G → Prop} (Pre : Nat → World × G → Prop) (hrefl : ∀ s, Le s s) (htrans : ∀ a b c, Le a b → Le b c → Le a c) {id : Nat} {Q : Exit → Act → World → Prop} {a0 : Act} {w : World} (g0 : G) (hp0 : ∀ s, Pre s (w.drew, g0)) {l : List Oper} (n : Nat) (Rs : List (Value → World × G → Prop))
    (hm : P.follows .mixedOrders = true) (hB : anyB l n = true) (_ : true = true) (hlen : Rs.length = l.length) (hn : a0.tmps.size = n) (hst : AllStableG Le Rs)
    (hs : AllShownA P Le Pre l Rs a0 (w.drew, g0) l 0) (hfin : ∀ w1 g1 val, Le (w.drew, g0) (w1, g1) → HoldsG val (w1, g1) Rs 0 → Q .normal (putAll val l 0 a0) w1) : (Code.region id l.toArray true).wp P Q a0 w :=
  region_any_ghostA hrefl htrans g0 n (nthG Rs) hm hB hn (fun i v w1 w2 => hst.get i v w1 w2) hp0 (fun i o hi => by simpa using hs.get i o hi)
    (fun w1 g1 val hg h => by
      have hex : ∀ i, ∃ v, (i < l.length → nthG Rs i v (w1, g1)) ∧ ∀ o, l[i]? = some o → o.dst.isSome = true → val i = v := by
        intro i
        by_cases hi : i < l.length
        · obtain ⟨v, hv, he⟩ := h i l[i] (by simp [hi])
          exact ⟨v, fun _ => hv, fun o ho hd => by rw [List.getElem?_eq_getElem hi] at ho; cases ho; exact he hd⟩
        · exact ⟨undef, fun h => absurd h hi, fun o ho => by rw [List.getElem?_eq_none (by omega)] at ho; cases ho⟩
      obtain ⟨val2, h2⟩ := Classical.axiomOfChoice hex
      rw [putAll_congr (f := val) (g := val2) l 0 a0 fun i o hi hd => by rw [Nat.zero_add]; exact (h2 i).2 o hi hd]
      exact hfin w1 g1 val2 hg (HoldsG.of fun i hi => by rw [Nat.zero_add]; exact (h2 i).1 (by omega)))
end
end Go.Proofs.Ytnafhjgfkofkbaa
/- A region that draws its order and holds calls which store, one behind the other: a ghost counts those that are done. No program is in sight here. -/
namespace Go.Proofs.Ytnafhjgfkofkbaa
set_option linter.unusedVariables false
set_option linter.unusedSimpArgs false
open Go.RowKit
structure KInv (K : Nat → World → Prop) (m : Nat) (s : World × Nat) : Prop where
  le : s.2 ≤ m
  at_ : K s.2 s.1
structure KLe (T : Nat → Prop) (K : Nat → World → Prop) (m : Nat) (s s' : World × Nat) : Prop where
  ord : s.2 ≤ s'.2
  chg : Chg T s.1 s'.1
  inv : KInv K m s → KInv K m s'
def AtK (k : Nat) (s : World × Nat) : Prop := k ≤ s.2
def PreK (f : Nat → Nat) (k : Nat) (s : World × Nat) : Prop := s.2 ≤ f k
section
variable {P : Program} {T : Nat → Prop} {K : Nat → World → Prop} {m : Nat} {f : Nat → Nat}
theorem PreK.start {w : World} (k : Nat) : PreK f k (w, 0) := Nat.zero_le _
theorem KLe.refl (s : World × Nat) : KLe T K m s s := ⟨Nat.le_refl _, Chg.refl _, fun h => h⟩
theorem KLe.trans (a b c : World × Nat) (h : KLe T K m a b) (k : KLe T K m b c) : KLe T K m a c := ⟨Nat.le_trans h.ord k.ord, h.chg.trans k.chg (fun _ h => .inl h), fun x => k.inv (h.inv x)⟩
theorem AtK.stable (x : Value) (k : Nat) : StableG (KLe T K m) (IsS x (AtK k)) := fun _ _ _ ⟨e, h⟩ q => ⟨e, Nat.le_trans h q.ord⟩
/-- a call that moves on to the next stage -/
theorem enterK {i a : Nat} {fn : FuncId} {args : Array Value} {w' : World} {x : Value} (hf : ∀ k, k ≠ i → f k ≠ a) (hm : a + 1 ≤ m) (h : Calls P fn args w' fun e w'' => e = .returned x ∧ Chg T w' w'' ∧ K (a + 1) w'') :
    growG P (LePg (KLe T K m) (PreK f) i) (w', a) (IsS x (AtK (a + 1))) (.ok (.enter fn args) w') :=
  growG_enter (h.mono fun e w'' ⟨he, hc, hk⟩ => ⟨_, a + 1, he, ⟨⟨Nat.le_succ _, hc, fun _ => ⟨hm, hk⟩⟩, fun k hk hp => by
    have h1 := hf k hk
    unfold PreK at hp ⊢
    show a + 1 ≤ f k
    have : a ≤ f k := hp
    omega⟩, rfl, Nat.le_refl _⟩)
/-- a call that makes memory alone -/
theorem stayK {i a : Nat} {fn : FuncId} {args : Array Value} {w' : World} {x : Value} (hK : ∀ k w w', K k w → Gr w w' → K k w') (h : Calls P fn args w' fun e w'' => e = .returned x ∧ Gr w' w'') :
    growG P (LePg (KLe T K m) (PreK f) i) (w', a) (IsG x) (.ok (.enter fn args) w') :=
  growG_enter (h.mono fun e w'' ⟨he, hg⟩ => ⟨_, a, he, ⟨⟨Nat.le_refl _, hg.chg, fun q => ⟨q.le, hK _ _ _ q.at_ hg⟩⟩, fun k _ hp => hp⟩, rfl⟩)
/-- the same, of a value known by the stage it is called at -/
theorem stayS {i a : Nat} {fn : FuncId} {args : Array Value} {w' : World} {x : Value} {p : World × Nat → Prop} (hK : ∀ k w w', K k w → Gr w w' → K k w') (hp : ∀ w'', Gr w' w'' → p (w'', a)) (h : Calls P fn args w' fun e w'' => e = .returned x ∧ Gr w' w'') :
    growG P (LePg (KLe T K m) (PreK f) i) (w', a) (IsS x p) (.ok (.enter fn args) w') :=
  growG_enter (h.mono fun e w'' ⟨he, hg⟩ => ⟨_, a, he, ⟨⟨Nat.le_refl _, hg.chg, fun q => ⟨q.le, hK _ _ _ q.at_ hg⟩⟩, fun k _ hp => hp⟩, rfl, hp _ hg⟩)
end
end Go.Proofs.Ytnafhjgfkofkbaa
/- Layer 11 (skip): SkipMakes answers true. -/
namespace Go.Proofs.Ytnafhjgfkofkbaa
set_option linter.unusedVariables false
set_option linter.unusedSimpArgs false
open Go.RowKit Ikey Varint
def fieldP (n : Nat) : PoolF := makeAt (newF 2048 n) 0
theorem fieldP_make (a n : Nat) : makeR (newF a n) = (0, 0, makeAt (newF a n) 0) := by
  have h : makeF (newF a n) = some 0 := makeF_is (by decide) (by rw [landAt_new]; rfl) (fun j hj => absurd hj (Nat.not_lt_zero j))
  unfold makeR
  rw [h]
theorem gen_new (a n : Nat) : ∀ i, i < 256 → (landAt (newF a n) i).gen ≤ 1000000000 := fun i _ => by rw [landAt_new]; decide
theorem landAt_field (n j : Nat) : landAt (fieldP n) j = if 0 = j then ⟨true, 1, [], 0⟩ else noLand := by
  unfold fieldP makeAt
  rw [landAt_set _ _ _ _ (by show 0 < (List.replicate 256 noLand).length; rw [List.length_replicate]; decide), landAt_new]
  split <;> first | rfl | exact landAt_new _ _ _
theorem countF_field (n : Nat) : countF (fieldP n) = n := by
  show ((List.replicate n false).filter (!·)).length = n
  rw [List.filter_replicate]
  simp
theorem field_st (n : Nat) : SkSt (fieldP n) 0 0 (fun _ => (0, 0)) [] :=
  ⟨by decide, by rw [landAt_field]; rfl, Nat.le_refl _, fun _ _ => rfl, fun x hx => by simp at hx, fun a x b e => by simp at e, List.Pairwise.nil, List.Pairwise.nil⟩
set_option maxRecDepth 100000 in
set_option maxHeartbeats 1000000 in
theorem field_any (w0 w : World) (k : Gr w0 w) (n : Nat) (h1 : 1 ≤ n) (h2 : n ≤ 2048) :
    Calls Try.prog 11 #[.int .i64 (n : Int)] w fun e w' => ∃ g gl S, e = .returned (.tuple #[.pointer (some ⟨g, 0, none⟩), .pointer (some ⟨gl, 0, none⟩), .bool true]) ∧ Gr w w' ∧ Sl w0 w' S g gl (fieldP n) (newL 0) [] ∧ (∀ j, S j → w.heap.size ≤ j) ∧ w.heap.size ≤ gl := by
  have HN := Lib.hid (show Calls Try.prog 9 #[.int .i64 2048, .int .i64 (n : Int)] w fun e w' => ∃ g S, e = .returned (.tuple #[.pointer (some ⟨g, 0, none⟩), .int .i64 0]) ∧ Gr w w' ∧ w.heap.size ≤ g ∧ Pl w0 w' S g (newF 2048 n) ∧ ∀ j, S j → w.heap.size ≤ j from New_pl k 2048 n (by decide) (by decide) (by decide) h1 (by omega) (by omega))
  have HK := Lib.hid k
  clear k
  go_enter Try.func11, Try.ntmps11
  go_wp2_with (first
    | (go_at_call 9; go_must (refine HN.out.mono ?_); rintro e w2 ⟨g, S, rfl, k2, hg, P2, b2⟩
       have P := Lib.hid P2; have K2 := Lib.hid k2; have HB := Lib.hid b2
       clear P2 k2 b2 hg)
    | (go_at_call 10; go_must (refine (New_list _ S g (newF 2048 n) (fieldP n) 0 P.out.pool P.out.ok (gen_new 2048 n) (Nat.le_refl _) (fieldP_make 2048 n)).mono ?_); rintro e w3 ⟨gl, rfl, m3, hb, hl, hn⟩)
    | fail)
  refine bodyPost_ret (v := .tuple #[.pointer (some ⟨g, 0, none⟩), .pointer (some ⟨gl, 0, none⟩), .bool true]) (by simp [results, Try.results11, go_sem]) rfl ⟨g, gl, S, rfl, ?_⟩
  have hg3 : Gr w w3 := m3.chg.gr K2.out HB.out
  have hs := K2.out.size
  refine ⟨hg3, ⟨⟨m3.pool, ?_, hb, hn⟩, field_st n, fun x hx => by simp at hx, rfl, rfl, rfl, HK.out.trans hg3, fun j hj => Nat.le_trans HK.out.size (HB.out j hj), Nat.le_trans HK.out.size (Nat.le_trans hs hl)⟩, HB.out, Nat.le_trans hs hl⟩
  have := make_ok2 P.out.ok
  rw [fieldP_make 2048 n] at this
  exact this
def cA1 : Ce := ⟨[97], 1, 1, [121]⟩
def cA2 : Ce := ⟨[97], 2, 1, [120]⟩
theorem ins1 : insF (cellsN []) false [97] 1 1 [121] 1 = (0, [cA1]) := by kernel_rfl
theorem ins2 : insF [cA1] false [97] 2 1 [120] 3 = (0, [cA2, cA1]) := by kernel_rfl
theorem get1 : getC [cA2, cA1] [97] 9 = some cA2 := by kernel_rfl
theorem get2 : getC [cA2, cA1] [97] 1 = some cA1 := by kernel_rfl
set_option maxRecDepth 100000 in
set_option maxHeartbeats 4000000 in
theorem skips_any (w : World) : Calls Try.prog 8 #[] w fun e w' => e = .returned (.bool true) ∧ Gr w w' := by
  have HF := Lib.hid (show Calls Try.prog 11 #[.int .i64 2] w fun e w' => ∃ g gl S, e = .returned (.tuple #[.pointer (some ⟨g, 0, none⟩), .pointer (some ⟨gl, 0, none⟩), .bool true]) ∧ Gr w w' ∧ Sl w w' S g gl (fieldP 2) (newL 0) [] ∧ (∀ j, S j → w.heap.size ≤ j) ∧ w.heap.size ≤ gl from field_any w w (Gr.refl w) 2 (by decide) (by decide))
  go_enter Try.func8, Try.ntmps8
  go_wp2_with (first
    | (go_at_call 11; go_must (refine HF.out.mono ?_); rintro e w2 ⟨g, gl, S, rfl, k2, s2, b2, l2⟩
       have HI := Lib.hid (show Calls Try.prog 12 #[.pointer (some ⟨gl, 0, none⟩), .agg #[.string ⟨#[97]⟩, .int .i64 1, .int .i64 1, .string ⟨#[121]⟩], .int .i64 1] w2 _ from Insert_sl s2 [97] 1 1 [121] 1 (by decide) (by rw [countF_field]; decide) (by decide))
       rw [show (newL 0).fz = false from rfl, ins1] at HI
       clear k2 s2 b2 l2)
    | (go_at_call 12; (with_reducible refine HI.out.mono ?_); rintro e w3 ⟨rfl, p1, S1, L1, N1, s1, c1, l1, _, z1, _, _, n1, _⟩
       have HI2 := Lib.hid (show Calls Try.prog 12 #[.pointer (some ⟨gl, 0, none⟩), .agg #[.string ⟨#[97]⟩, .int .i64 2, .int .i64 1, .string ⟨#[120]⟩], .int .i64 3] w3 _ from Insert_sl s1 [97] 2 1 [120] 3 (by decide) (by rw [countF_field] at n1; omega) (by have : ([] : List Nd).length = 0 := rfl; omega))
       rw [z1, show cellsN N1 = [cA1] from c1, ins2] at HI2
       clear HI s1 c1 l1 n1)
    | (go_at_call 12; (with_reducible refine HI2.out.mono ?_); rintro e w4 ⟨rfl, p2, S2, L2, N2, s2, c2, l2, _, z2, _, _, n2, _⟩
       have SL := Lib.hid s2
       have hC := s2.cnt
       have hW := s2.wt
       have c2' : cellsN N2 = [cA2, cA1] := c2
       have hn : N2.length = 2 := by have := congrArg List.length c2'; simpa [cellsN] using this
       have HG := Lib.hid (show ∀ w', Gr w4 w' → Calls Try.prog 27 #[.pointer (some ⟨gl, 0, none⟩), .string ⟨#[97]⟩, .int .i64 9] w' (fun e w2 => e = .returned (.tuple #[.agg #[.string ⟨#[97]⟩, .int .i64 2, .int .i64 1, .string ⟨#[120]⟩], .int .i64 0]) ∧ Gr w' w2) from fun w' hg => by
         have := Get_sl (s2.more hg) [97] 9
         rw [c2', get1] at this
         exact this)
       have HG2 := Lib.hid (show ∀ w', Gr w4 w' → Calls Try.prog 27 #[.pointer (some ⟨gl, 0, none⟩), .string ⟨#[97]⟩, .int .i64 1] w' (fun e w2 => e = .returned (.tuple #[.agg #[.string ⟨#[97]⟩, .int .i64 1, .int .i64 1, .string ⟨#[121]⟩], .int .i64 0]) ∧ Gr w' w2) from fun w' hg => by
         have := Get_sl (s2.more hg) [97] 1
         rw [c2', get2] at this
         exact this)
       rw [c2'] at hW
       rw [hn] at hC
       have HC := Lib.hid (show ∀ w', Gr w4 w' → Calls Try.prog 25 #[.pointer (some ⟨gl, 0, none⟩)] w' (fun e w2 => e = .returned (.int .i64 2) ∧ w' = w2) from fun w' hg => by
         have := Count_any w' g gl L2 (s2.more hg).sk.blk
         rw [s2.fd, hC] at this; exact this)
       have HW := Lib.hid (show ∀ w', Gr w4 w' → Calls Try.prog 26 #[.pointer (some ⟨gl, 0, none⟩)] w' (fun e w2 => e = .returned (.int .i64 20) ∧ w' = w2) from fun w' hg => by
         have := Weight_any w' g gl L2 (s2.more hg).sk.blk
         rw [s2.fd, hW] at this; exact this)
       clear HI2 s2 c2 l2 z2 n2 hC hW c2' hn)
    | (go_at_call 27; (with_reducible refine (HG.out _ (Gr.refl _)).mono ?_); rintro e w5 ⟨rfl, g5⟩; clear HG
       have G6 := Lib.hid (g5.trans (Gr.alloc w5 (.cells #[.string ⟨#[97]⟩, .int .i64 2, .int .i64 1, .string ⟨#[120]⟩] 41)))
       have A6 := Lib.hid (Blk.new w5 41 #[.string ⟨#[97]⟩, .int .i64 2, .int .i64 1, .string ⟨#[120]⟩]))
    | (go_at_call 27; (with_reducible refine (HG2.out _ G6.out).mono ?_); rintro e w7 ⟨rfl, g7⟩; clear HG2
       have G8 := Lib.hid (G6.out.trans (g7.trans (Gr.alloc w7 (.cells #[.string ⟨#[97]⟩, .int .i64 1, .int .i64 1, .string ⟨#[121]⟩] 41))))
       obtain ⟨a0, a1, a2, a3, _⟩ := (A6.out.gr (g7.trans (Gr.alloc w7 (.cells #[.string ⟨#[97]⟩, .int .i64 1, .int .i64 1, .string ⟨#[121]⟩] 41)))).four
       have a3' := a3
       clear a0 a1 a2 a3)
    | (go_at_call 25; go_must (refine (HC.out _ G8.out).mono ?_); rintro e w9 ⟨rfl, rfl⟩)
    | (go_at_call 26; go_must (refine (HW.out _ G8.out).mono ?_); rintro e w9 ⟨rfl, rfl⟩)
    | fail)
  go_ret
  exact ⟨rfl, SL.out.gr.trans G8.out⟩
set_option maxRecDepth 100000 in
set_option maxHeartbeats 4000000 in
theorem SkipMakes_any (size : Int) (w : World) : Calls Try.prog 3 #[.int .i64 size] w fun e w' => e = .returned (.bool true) ∧ Gr w w' := by
  cases hk : newOk size 2 with
  | false =>
    have HB := Lib.hid (fun w => New_bad w size 2 hk)
    clear hk
    go_enter Try.func3, Try.ntmps3
    go_wp2_with (first
      | (go_at_call 8; go_must (refine (skips_any _).mono ?_); rintro e w2 ⟨rfl, g2⟩)
      | (go_at_call 9; go_must (refine (HB.out _).mono ?_); rintro e w3 ⟨rfl, g3⟩)
      | fail)
    subst g3
    go_ret
    exact ⟨rfl, g2⟩
  | true =>
    unfold newOk at hk
    simp only [Bool.and_eq_true, decide_eq_true_eq] at hk
    obtain ⟨⟨⟨⟨⟨h1, h2⟩, h3⟩, _⟩, _⟩, h6⟩ := hk
    obtain ⟨a, rfl⟩ : ∃ a : Nat, size = (a : Int) := ⟨size.toNat, by omega⟩
    have HN := Lib.hid (show ∀ w2, Gr w w2 → Calls Try.prog 9 #[.int .i64 (a : Int), .int .i64 2] w2 fun e w' => ∃ g S, e = .returned (.tuple #[.pointer (some ⟨g, 0, none⟩), .int .i64 0]) ∧ Gr w2 w' ∧ w2.heap.size ≤ g ∧ Pl w w' S g (newF a 2) ∧ ∀ j, S j → w2.heap.size ≤ j from fun w2 k => New_pl k a 2 (by omega) (by omega) (by omega) (by decide) (by decide) (by omega))
    by_cases hs : 2048 ≤ a
    · have hsI : (2048 : Int) ≤ (a : Int) := by omega
      have HK := Lib.hid (fun w3 S g (P : Pl w w3 S g (newF a 2)) => New_list w3 S g (newF a 2) (makeAt (newF a 2) 0) 0 P.pool P.ok (gen_new a 2) hs (fieldP_make a 2))
      clear h1 h2 h3 h6
      go_enter Try.func3, Try.ntmps3
      go_wp2_with (first
        | (go_at_call 8; go_must (refine (skips_any _).mono ?_); rintro e w2 ⟨rfl, g2⟩)
        | (go_at_call 9; go_must (refine (HN.out _ g2).mono ?_); rintro e w3 ⟨g, S, rfl, k3, hg, P3, b3⟩; have P := Lib.hid P3; clear P3 b3 hg)
        | (go_at_call 10; (with_reducible refine (HK.out _ _ _ P.out).mono ?_); rintro e w4 ⟨gl, rfl, m4, hb, hl, hn⟩)
        | (go_at_call 10; (with_reducible refine (New_nil _).mono ?_); rintro e w5 ⟨rfl, rfl⟩)
        | fail)
      go_ret
      exact ⟨rfl, m4.chg.gr P.out.gr P.out.base⟩
    · have hsI : (a : Int) < 2048 := by omega
      have hs2 : a < 2048 := by omega
      have hdb : decide ((2048 : Int) ≤ (a : Int)) = false := by simp; omega
      have HK := Lib.hid (fun w3 S g (P : Pl w w3 S g (newF a 2)) => New_small w3 S g (newF a 2) P.pool hs2)
      clear h1 h2 h3 h6 hs
      go_enter Try.func3, Try.ntmps3
      go_wp2_with (first
        | (go_at_call 8; go_must (refine (skips_any _).mono ?_); rintro e w2 ⟨rfl, g2⟩)
        | (go_at_call 9; go_must (refine (HN.out _ g2).mono ?_); rintro e w3 ⟨g, S, rfl, k3, hg, P3, b3⟩; have P := Lib.hid P3; clear P3 b3 hg)
        | (go_at_call 10; (with_reducible refine (HK.out _ _ _ P.out).mono ?_); rintro e w4 ⟨rfl, rfl⟩)
        | (go_at_call 10; (with_reducible refine (New_nil _).mono ?_); rintro e w5 ⟨rfl, rfl⟩)
        | fail)
      go_ret
      exact ⟨rfl, P.out.gr⟩
end Go.Proofs.Ytnafhjgfkofkbaa
/- Layer 11 (skip): a list and the reference's beside it; a cursor is made. -/
namespace Go.Proofs.Ytnafhjgfkofkbaa
set_option linter.unusedVariables false
set_option linter.unusedSimpArgs false
open Go.RowKit Ikey Varint
theorem Cursor_any (gl : Nat) (w : World) :
    Calls Try.prog 14 #[.pointer (some ⟨gl, 0, none⟩)] w fun e w' => e = .returned (.pointer (some ⟨w.heap.size, 0, none⟩)) ∧ Blk w' w.heap.size 101 (curV gl 0 (0, 0)) ∧ Gr w w' := by
  go_enter Try.func14, Try.ntmps14
  go_wp2
  go_ret
  exact ⟨rfl, Blk.new w _ _, Gr.alloc _ _⟩
theorem Cursor_nil (w : World) : Calls Try.prog 14 #[.pointer none] w fun e w' => e = .returned (.pointer none) ∧ w = w' := by
  go_enter Try.func14, Try.ntmps14
  go_wp2
  go_ret
  exact ⟨rfl, rfl⟩
/-- a list of a law's own and the reference's beside it; blocks of X are neither's -/
structure Pr2 (w0 w : World) (X : Nat → Prop) (S : Nat → Prop) (g gl gm : Nat) (p : PoolF) (L : Ls) (N : List Nd) (C : List Ce) (ad : Option Addr) (cap : Nat) : Prop where
  sl : Sl w0 w S g gl p L N
  rl : Rl w w0.heap.size gm C L.fz ad cap
  ns : ¬ S gm
  nl : gm ≠ gl
  nad : ∀ x, ad = some x → ¬ S x.block ∧ x.block ≠ gl
  keep : ∀ j, X j → j < w.heap.size ∧ ¬ S j ∧ j ≠ gl ∧ j ≠ gm ∧ ∀ x, ad = some x → x.block ≠ j
theorem Sl.chg {w0 w w' : World} {S T : Nat → Prop} {g gl : Nat} {p : PoolF} {L : Ls} {N : List Nd} (h : Sl w0 w S g gl p L N) (k : Chg T w w') (hd : ∀ j, S j → ¬ T j) (hl : ¬ T gl) (hb : ∀ j, T j → w0.heap.size ≤ j) : Sl w0 w' S g gl p L N :=
  ⟨⟨h.sk.pool.chg k hd, h.sk.ok, k.blk h.sk.blk hl, h.sk.out⟩, h.st, h.full, h.cnt, h.wt, h.fd, k.gr h.gr hb, h.base, h.bl⟩
theorem Pr2.more {w0 w w' : World} {X S : Nat → Prop} {g gl gm : Nat} {p : PoolF} {L : Ls} {N : List Nd} {C : List Ce} {ad : Option Addr} {cap : Nat} (h : Pr2 w0 w X S g gl gm p L N C ad cap) (k : Gr w w') : Pr2 w0 w' X S g gl gm p L N C ad cap :=
  ⟨h.sl.more k, h.rl.gr k, h.ns, h.nl, h.nad, fun j hj => ⟨Nat.lt_of_lt_of_le (h.keep j hj).1 k.size, (h.keep j hj).2⟩⟩
/-- what may change: what came since, but blocks of X -/
def Tt (w0 : World) (X : Nat → Prop) : Nat → Prop := fun j => w0.heap.size ≤ j ∧ ¬ X j
/-- the two hold these cells; so many slabs are idle at least -/
def PrI (w0 : World) (X : Nat → Prop) (g gl gm r : Nat) (C1 C2 : List Ce) (fz : Bool) (n : Nat) (w : World) : Prop :=
  ∃ S p L N ad cap, Pr2 w0 w X S g gl gm p L N C2 ad cap ∧ cellsN N = C1 ∧ L.fz = fz ∧ L.r = r ∧ n ≤ countF p
theorem PrI.more {w0 w w' : World} {X : Nat → Prop} {g gl gm r n : Nat} {C1 C2 : List Ce} {fz : Bool} (h : PrI w0 X g gl gm r C1 C2 fz n w) (k : Gr w w') : PrI w0 X g gl gm r C1 C2 fz n w' := by
  obtain ⟨S, p, L, N, ad, cap, h1, h2⟩ := h
  exact ⟨S, p, L, N, ad, cap, h1.more k, h2⟩
theorem ins_len (C : List Ce) (fz : Bool) (k : List UInt8) (s d : Int) (v : List UInt8) (h : Int) : (insF C fz k s d v h).2.length ≤ C.length + 1 := by
  have hsp : (C.takeWhile (aheadC ⟨k, s, d⟩)).length + (C.dropWhile (aheadC ⟨k, s, d⟩)).length = C.length := by rw [← List.length_append, List.takeWhile_append_dropWhile]
  unfold insF
  split
  · exact Nat.le_succ _
  · split
    · rename_i e
      rw [e] at hsp
      simp at hsp ⊢
      omega
    · rename_i e
      rw [e] at hsp
      split
      · exact Nat.le_succ _
      · simp at hsp ⊢
        omega
theorem PrI.ins1 {w0 w : World} {X : Nat → Prop} {g gl gm r n : Nat} {C1 C2 : List Ce} {fz : Bool} (h : PrI w0 X g gl gm r C1 C2 fz (n + 1) w) (k : List UInt8) (s d : Int) (v : List UInt8) (t : Int) (hv : v.length ≤ 9223372036854775807) (hC : C1.length ≤ 1000) :
    Calls Try.prog 12 #[.pointer (some ⟨gl, 0, none⟩), celV k s d v, .int .i64 t] w fun e w' => e = .returned (.int .i64 ((insF C1 fz k s d v t).1 : Int)) ∧ Chg (Tt w0 X) w w' ∧ PrI w0 X g gl gm r (insF C1 fz k s d v t).2 C2 fz n w' := by
  obtain ⟨S, p, L, N, ad, cap, h1, rfl, rfl, rfl, hn⟩ := h
  refine (Insert_sl h1.sl k s d v t hv (by omega) (by simpa [cellsN] using hC)).mono ?_
  rintro e w' ⟨he, p', S', L', N', s1, s2, s3, s4, s5, s6, s7, s8, s9⟩
  have hch : Chg (Tt w0 X) w w' := ⟨s9.chg.os, s9.chg.tape, s9.chg.output, s9.chg.size, fun j hj hn => s9.chg.block j hj (fun hs => hn (by
    rcases hs with hs | rfl
    · exact ⟨h1.sl.base j hs, fun hx => (h1.keep j hx).2.1 hs⟩
    · exact ⟨h1.sl.bl, fun hx => (h1.keep _ hx).2.2.1 rfl⟩))⟩
  have hgm : ¬ (S gm ∨ gm = gl) := fun e => e.elim h1.ns h1.nl
  have hsz := h1.rl.blk.lt
  refine ⟨he, hch, S', p', L', N', ad, cap, ⟨s1, ⟨by rw [s5]; exact s9.chg.blk h1.rl.blk hgm, s9.chg.owns h1.rl.own (fun x hx e => e.elim (h1.nad x hx).1 (h1.nad x hx).2), h1.rl.base, h1.rl.ne⟩, fun e => (s9.sub _ e).elim h1.ns (fun e => by omega), h1.nl, fun x hx => ⟨fun e => (s9.sub _ e).elim (h1.nad x hx).1 (fun e => by
    have := (h1.rl.own.lt x hx).2; omega), (h1.nad x hx).2⟩, fun j hj => ?_⟩, s2, s5, s6, by omega⟩
  obtain ⟨k1, k2, k3⟩ := h1.keep j hj
  exact ⟨Nat.lt_of_lt_of_le k1 s9.chg.size, fun e => (s9.sub _ e).elim k2 (fun e => by omega), k3⟩
theorem PrI.ins2 {w0 w : World} {X : Nat → Prop} {g gl gm r n : Nat} {C1 C2 : List Ce} {fz : Bool} (h : PrI w0 X g gl gm r C1 C2 fz n w) (k : List UInt8) (s d : Int) (v : List UInt8) (t : Int) (hv : v.length ≤ 9223372036854775807) (hC : C2.length ≤ 1000) :
    Calls Try.prog 13 #[.pointer (some ⟨gm, 0, none⟩), celV k s d v, .int .i64 t] w fun e w' => e = .returned (.int .i64 ((insF C2 fz k s d v t).1 : Int)) ∧ Chg (Tt w0 X) w w' ∧ PrI w0 X g gl gm r C1 (insF C2 fz k s d v t).2 fz n w' := by
  obtain ⟨S, p, L, N, ad, cap, h1, rfl, rfl, rfl, hn⟩ := h
  refine (rInsert_any w w0.heap.size gm C2 L.fz ad cap h1.rl h1.sl.gr.size (by omega) k s d v t hv).mono ?_
  rintro e w' ⟨he, ad', cap', s1, s2, s3⟩
  have hsz := h1.rl.blk.lt
  refine ⟨he, ⟨s2.os, s2.tape, s2.output, s2.size, fun j hj hn => s2.block j hj (fun e => hn ⟨by have := h1.rl.base; omega, fun hx => (h1.keep j hx).2.2.2.1 e⟩)⟩, S, p, L, N, ad', cap', ⟨h1.sl.chg s2 (fun j hj e => h1.ns (by rw [← e]; exact hj)) (fun e => h1.nl e.symm) (fun j e => by rw [e]; exact h1.rl.base), s1, h1.ns, h1.nl, fun x hx => ?_, fun j hj => ?_⟩, rfl, rfl, rfl, hn⟩
  · rcases s3 x hx with e | e
    · exact h1.nad x e
    · exact ⟨fun hS => by have := h1.sl.sk.pool.lt _ hS; omega, fun e2 => by have := h1.sl.sk.blk.lt; omega⟩
  · obtain ⟨k1, k2, k3, k4, k5⟩ := h1.keep j hj
    refine ⟨Nat.lt_of_lt_of_le k1 s2.size, k2, k3, k4, fun x hx => ?_⟩
    rcases s3 x hx with e | e
    · exact k5 x e
    · omega
theorem Pr2.chg {w0 w w' : World} {X S T : Nat → Prop} {g gl gm : Nat} {p : PoolF} {L : Ls} {N : List Nd} {C : List Ce} {ad : Option Addr} {cap : Nat} (h : Pr2 w0 w X S g gl gm p L N C ad cap) (k : Chg T w w') (hS : ∀ j, S j → ¬ T j) (hl : ¬ T gl) (hm : ¬ T gm) (hA : ∀ x, ad = some x → ¬ T x.block) (hb : ∀ j, T j → w0.heap.size ≤ j) : Pr2 w0 w' X S g gl gm p L N C ad cap :=
  ⟨h.sl.chg k hS hl hb, ⟨k.blk h.rl.blk hm, k.owns h.rl.own hA, h.rl.base, h.rl.ne⟩, h.ns, h.nl, h.nad, fun j hj => ⟨Nat.lt_of_lt_of_le (h.keep j hj).1 k.size, (h.keep j hj).2⟩⟩
/-- and a cursor of the list -/
structure Cu (w0 w : World) (X S : Nat → Prop) (g gl gm : Nat) (p : PoolF) (L : Ls) (N : List Nd) (C : List Ce) (ad : Option Addr) (cap gc : Nat) (side : Int) (q : Nat × Nat) : Prop where
  pr : Pr2 w0 w X S g gl gm p L N C ad cap
  cur : Blk w gc 101 (curV gl side q)
  base : w0.heap.size ≤ gc
  ns : ¬ S gc
  nl : gc ≠ gl
  nm : gc ≠ gm
  nad : ∀ x, ad = some x → x.block ≠ gc
section
variable {w0 w w' : World} {X S : Nat → Prop} {g gl gm : Nat} {p : PoolF} {L : Ls} {N : List Nd} {C : List Ce} {ad : Option Addr} {cap gc : Nat} {side side' : Int} {q q' : Nat × Nat}
theorem Cu.new (h : Pr2 w0 w X S g gl gm p L N C ad cap) (k : Gr w w') (hc : Blk w' w.heap.size 101 (curV gl side q)) : Cu w0 w' X S g gl gm p L N C ad cap w.heap.size side q :=
  ⟨h.more k, hc, h.sl.gr.size, fun e => Nat.lt_irrefl _ (h.sl.sk.pool.lt _ e), fun e => by have := h.sl.sk.blk.lt; omega, fun e => by have := h.rl.blk.lt; omega, fun x hx e => by have := (h.rl.own.lt x hx).2; omega⟩
theorem Cu.more (h : Cu w0 w X S g gl gm p L N C ad cap gc side q) (k : Gr w w') : Cu w0 w' X S g gl gm p L N C ad cap gc side q := ⟨h.pr.more k, h.cur.gr k, h.base, h.ns, h.nl, h.nm, h.nad⟩
theorem Cu.step (h : Cu w0 w X S g gl gm p L N C ad cap gc side q) (hc : Blk w' gc 101 (curV gl side' q')) (k : Chg (fun j => j = gc) w w') : Cu w0 w' X S g gl gm p L N C ad cap gc side' q' :=
  ⟨h.pr.chg k (fun j hj e => h.ns (by rw [← e]; exact hj)) (fun e => h.nl e.symm) (fun e => h.nm e.symm) (fun x hx => h.nad x hx) (fun j e => by rw [e]; exact h.base), hc, h.base, h.ns, h.nl, h.nm, h.nad⟩
end
theorem lastN_zero {A : List Nd} {y : Nd} (h : 0 < y.h) : lastN 0 (A ++ [y]) = some y := lastN_split h (by simp)
end Go.Proofs.Ytnafhjgfkofkbaa
namespace Go.Proofs.Ytnafhjgfkofkbaa
set_option linter.unusedVariables false
set_option linter.unusedSimpArgs false
open Go.RowKit Ikey Varint
theorem Rl.at_ {w : World} {B gm : Nat} {C : List Ce} {fz : Bool} {ad : Option Addr} {cap : Nat} (h : Rl w B gm C fz ad cap) {i : Nat} {c : Ce} (hi : C[i]? = some c) :
    ∃ b off, ad = some ⟨b, off, none⟩ ∧ w.cell? ⟨b, off + i * 4, none⟩ = some (.string (str c.key)) ∧ w.cell? ⟨b, off + i * 4 + 1, none⟩ = some (.int .i64 (c.seq : Int)) ∧ w.cell? ⟨b, off + i * 4 + 2, none⟩ = some (.int .i64 (c.kind : Int)) ∧ w.cell? ⟨b, off + i * 4 + 3, none⟩ = some (.string (str c.val)) := by
  have hlt : i < (ci C).length := by rw [ci_len]; exact (List.getElem?_eq_some_iff.1 hi).1
  have he2 : (ci C)[i]? = some c.i := by unfold ci; rw [List.getElem?_map, hi]; rfl
  have he : (ci C)[i] = c.i := (List.getElem?_eq_some_iff.1 he2).2
  have := h.own.row.ci i hlt
  rw [he] at this
  exact this
theorem Rl.at2 {w : World} {B gm : Nat} {C : List Ce} {fz : Bool} {b off : Nat} {cap : Nat} (h : Rl w B gm C fz (some ⟨b, off, none⟩) cap) {i : Nat} {c : Ce} (hi : C[i]? = some c) :
    w.cell? ⟨b, off + i * 4, none⟩ = some (.string (str c.key)) ∧ w.cell? ⟨b, off + i * 4 + 1, none⟩ = some (.int .i64 (c.seq : Int)) ∧ w.cell? ⟨b, off + i * 4 + 2, none⟩ = some (.int .i64 (c.kind : Int)) ∧ w.cell? ⟨b, off + i * 4 + 3, none⟩ = some (.string (str c.val)) := by
  obtain ⟨b', off', e, h1⟩ := h.at_ hi
  cases e
  exact h1
theorem Rl.rank {w : World} {B gm : Nat} {C : List Ce} {fz : Bool} {ad : Option Addr} {cap : Nat} (h : Rl w B gm C fz ad cap) (hl : C.length ≤ 1000000) (v : Vr) :
    Calls Try.prog 15 #[.pointer (some ⟨gm, 0, none⟩), ver v.key v.seq v.kind] w fun e w' => e = .returned (.int .i64 (((C.takeWhile (aheadC v)).length : Nat) : Int)) ∧ Gr w w' := by
  have hb := h.blk
  have ho := h.own.row
  rw [← ci_len C] at hb
  have := Rank_any gm fz ad cap (ci C) v w hb ho (by rw [ci_len]; exact hl)
  rw [rank_ci] at this
  exact this
theorem first_head {B : List Nd} (h : ∀ x ∈ B, 0 < x.h) : firstN 0 B = B.head? := firstN_zero h
theorem last_get {A : List Nd} (h : ∀ x ∈ A, 0 < x.h) : lastN 0 A = A.getLast? := by
  rcases List.eq_nil_or_concat A with rfl | ⟨A', y, rfl⟩
  · rfl
  · rw [List.concat_eq_append] at h ⊢
    rw [lastN_zero (h y (by simp)), List.getLast?_concat]
section
variable {w0 w : World} {X S : Nat → Prop} {g gl gm : Nat} {p : PoolF} {L : Ls} {N : List Nd} {C : List Ce} {ad : Option Addr} {cap gc : Nat} {side : Int} {q : Nat × Nat}
theorem Sl.pos (h : Sl w0 w S g gl p L N) : ∀ x ∈ N, 0 < x.h := fun x hx => by
  have h1 := (h.st.node x hx).1.t1
  have h2 := h.full x hx
  omega
theorem Cu.seek (h : Cu w0 w X S g gl gm p L N C ad cap gc side q) (v : Vr) {A B : List Nd} (hN : N = A ++ B) (hA : ∀ x ∈ A, vless x.c.vr v = true) (hB : ∀ x ∈ B, vless x.c.vr v = false) :
    Calls Try.prog 16 #[.pointer (some ⟨gc, 0, none⟩), ver v.key v.seq v.kind] w fun e w' => e = .returned (.int .i64 (stE B.head?)) ∧ Cu w0 w' X S g gl gm p L N C ad cap gc (stS 2 B.head?) (stQ q B.head?) := by
  have hb : firstN 0 B = B.head? := first_head fun x hx => h.pr.sl.pos x (by rw [hN]; exact List.mem_append_right _ hx)
  have := Seek_sl h.pr.sl v hN hA hB h.cur
  rw [hb] at this
  exact this.mono fun e w' ⟨h1, h2, h3⟩ => ⟨h1, h.step h2 h3⟩
theorem Cu.first (h : Cu w0 w X S g gl gm p L N C ad cap gc side q) :
    Calls Try.prog 29 #[.pointer (some ⟨gc, 0, none⟩)] w fun e w' => e = .returned (.int .i64 (stE N.head?)) ∧ Cu w0 w' X S g gl gm p L N C ad cap gc (stS 2 N.head?) (stQ q N.head?) := by
  have hb : firstN 0 N = N.head? := first_head h.pr.sl.pos
  have := First_sl h.pr.sl h.cur
  rw [hb] at this
  exact this.mono fun e w' ⟨h1, h2, h3⟩ => ⟨h1, h.step h2 h3⟩
theorem Cu.last (h : Cu w0 w X S g gl gm p L N C ad cap gc side q) :
    Calls Try.prog 31 #[.pointer (some ⟨gc, 0, none⟩)] w fun e w' => e = .returned (.int .i64 (stE N.getLast?)) ∧ Cu w0 w' X S g gl gm p L N C ad cap gc (stS 0 N.getLast?) (stQ q N.getLast?) := by
  have hb : lastN 0 N = N.getLast? := last_get h.pr.sl.pos
  have := Last_sl h.pr.sl h.cur
  rw [hb] at this
  exact this.mono fun e w' ⟨h1, h2, h3⟩ => ⟨h1, h.step h2 h3⟩
/-- where a cursor stands: ahead of all, at a node, behind all -/
def nextE (N : List Nd) (side : Int) (b : List Nd) : Option Nd := if side = 0 then N.head? else if side = 2 then none else b.head?
theorem Cu.next_at (h : Cu w0 w X S g gl gm p L N C ad cap gc 1 q) {a b : List Nd} {x : Nd} (hN : N = a ++ x :: b) (hq : q = (x.off, x.size)) :
    Calls Try.prog 19 #[.pointer (some ⟨gc, 0, none⟩)] w fun e w' => e = .returned (.int .i64 (stE b.head?)) ∧ Cu w0 w' X S g gl gm p L N C ad cap gc (stS 2 b.head?) (stQ q b.head?) := by
  subst hq
  have hb : firstN 0 b = b.head? := first_head fun y hy => h.pr.sl.pos y (by rw [hN]; simp [hy])
  have := Next_at h.pr.sl hN h.cur
  rw [hb] at this
  exact this.mono fun e w' ⟨h1, h2, h3⟩ => ⟨h1, h.step h2 h3⟩
theorem Cu.next_front (h : Cu w0 w X S g gl gm p L N C ad cap gc 0 q) :
    Calls Try.prog 19 #[.pointer (some ⟨gc, 0, none⟩)] w fun e w' => e = .returned (.int .i64 (stE N.head?)) ∧ Cu w0 w' X S g gl gm p L N C ad cap gc (stS 2 N.head?) (stQ q N.head?) := by
  have hb : firstN 0 N = N.head? := first_head h.pr.sl.pos
  have := Next_front h.pr.sl h.cur
  rw [hb] at this
  exact this.mono fun e w' ⟨h1, h2, h3⟩ => ⟨h1, h.step h2 h3⟩
theorem Cu.next_back (h : Cu w0 w X S g gl gm p L N C ad cap gc 2 q) :
    Calls Try.prog 19 #[.pointer (some ⟨gc, 0, none⟩)] w fun e w' => e = .returned (.int .i64 15) ∧ Cu w0 w' X S g gl gm p L N C ad cap gc 2 q := by
  exact (Next_back h.pr.sl h.cur).mono fun e w' ⟨h1, h2⟩ => ⟨h1, h2 ▸ h⟩
theorem Cu.prev_at (h : Cu w0 w X S g gl gm p L N C ad cap gc 1 q) {a b : List Nd} {x : Nd} (hN : N = a ++ x :: b) (hq : q = (x.off, x.size)) :
    Calls Try.prog 18 #[.pointer (some ⟨gc, 0, none⟩)] w fun e w' => e = .returned (.int .i64 (stE a.getLast?)) ∧ Cu w0 w' X S g gl gm p L N C ad cap gc (stS 0 a.getLast?) (stQ q a.getLast?) := by
  subst hq
  have hb : lastN 0 a = a.getLast? := last_get fun y hy => h.pr.sl.pos y (by rw [hN]; exact List.mem_append_left _ hy)
  have := Prev_at h.pr.sl hN h.cur
  rw [hb] at this
  exact this.mono fun e w' ⟨h1, h2, h3⟩ => ⟨h1, h.step h2 h3⟩
theorem Cu.prev_back (h : Cu w0 w X S g gl gm p L N C ad cap gc 2 q) :
    Calls Try.prog 18 #[.pointer (some ⟨gc, 0, none⟩)] w fun e w' => e = .returned (.int .i64 (stE N.getLast?)) ∧ Cu w0 w' X S g gl gm p L N C ad cap gc (stS 0 N.getLast?) (stQ q N.getLast?) := by
  have hb : lastN 0 N = N.getLast? := last_get h.pr.sl.pos
  have := Prev_back h.pr.sl h.cur
  rw [hb] at this
  exact this.mono fun e w' ⟨h1, h2, h3⟩ => ⟨h1, h.step h2 h3⟩
theorem Cu.prev_front (h : Cu w0 w X S g gl gm p L N C ad cap gc 0 q) :
    Calls Try.prog 18 #[.pointer (some ⟨gc, 0, none⟩)] w fun e w' => e = .returned (.int .i64 15) ∧ Cu w0 w' X S g gl gm p L N C ad cap gc 0 q := by
  exact (Prev_front h.pr.sl h.cur).mono fun e w' ⟨h1, h2⟩ => ⟨h1, h2 ▸ h⟩
theorem Cu.cell_off (h : Cu w0 w X S g gl gm p L N C ad cap gc side q) (hs : side ≠ 1) :
    Calls Try.prog 17 #[.pointer (some ⟨gc, 0, none⟩)] w fun e w' => e = .returned (zcE 15) ∧ Cu w0 w' X S g gl gm p L N C ad cap gc side q ∧ Gr w w' :=
  (Cell_off h.pr.sl h.cur hs).mono fun e w' ⟨h1, h2⟩ => ⟨h1, h.more h2, h2⟩
theorem Cu.cell_at (h : Cu w0 w X S g gl gm p L N C ad cap gc 1 q) {a b : List Nd} {x : Nd} (hN : N = a ++ x :: b) (hq : q = (x.off, x.size)) :
    Calls Try.prog 17 #[.pointer (some ⟨gc, 0, none⟩)] w fun e w' => e = .returned (.tuple #[ceV x.c, .int .i64 0]) ∧ Cu w0 w' X S g gl gm p L N C ad cap gc 1 q ∧ Gr w w' := by
  subst hq
  exact (Cell_at h.pr.sl hN h.cur).mono fun e w' ⟨h1, h2⟩ => ⟨h1, h.more h2, h2⟩
end
end Go.Proofs.Ytnafhjgfkofkbaa
