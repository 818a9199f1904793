/- Layer 13 (block): the statements' own rising. -/
import Derived.Test.YtnbinodhdgnjlaaBlockMake
import Derived.Test.YtnbinodhdgnjlaaFresh
namespace Go.Proofs.Ytnbinodhdgnjlaa.Bk
set_option linter.unusedVariables false
set_option linter.unusedSimpArgs false
open Go.Op (bytesLess)
def posF (k : List UInt8) : List Pr → Nat
  | [] => 0
  | q :: l => if bytesLess q.1 k = true then posF k l + 1 else 0
theorem posF_le (k : List UInt8) : ∀ l : List Pr, posF k l ≤ l.length
  | [] => Nat.le_refl _
  | q :: l => by have := posF_le k l; simp only [posF, List.length_cons]; split <;> omega
theorem posF_step {k : List UInt8} {l : List Pr} {i : Nat} (h : i < l.length) (hb : bytesLess l[i].1 k = true) : posF k (l.drop i) = posF k (l.drop (i + 1)) + 1 := by
  rw [List.drop_eq_getElem_cons h, posF, if_pos hb]
theorem posF_stop {k : List UInt8} {l : List Pr} {i : Nat} (h : i < l.length) (hb : bytesLess l[i].1 k = false) : posF k (l.drop i) = 0 := by
  rw [List.drop_eq_getElem_cons h, posF, if_neg (by rw [hb]; exact Bool.false_ne_true)]
theorem posF_end {k : List UInt8} {l : List Pr} {i : Nat} (h : l.length ≤ i) : posF k (l.drop i) = 0 := by
  rw [List.drop_of_length_le h]; rfl
def insF (out : List Pr) (p : Pr) : List Pr :=
  if posF p.1 out < out.length ∧ (out.getD (posF p.1 out) noPr).1 = p.1 then out else out.take (posF p.1 out) ++ [p] ++ out.drop (posF p.1 out)
def riseN (l : List Pr) : Nat → List Pr
  | 0 => []
  | i + 1 => insF (riseN l i) (l.getD i noPr)
def riseF (l : List Pr) : List Pr := riseN l (min l.length 60)
theorem insF_len (out : List Pr) (p : Pr) : (insF out p).length ≤ out.length + 1 := by
  have := posF_le p.1 out
  unfold insF
  split
  · omega
  · simp only [List.length_append, List.length_take, List.length_drop, List.length_cons, List.length_nil]; omega
theorem riseN_len (l : List Pr) (i : Nat) : (riseN l i).length ≤ i := by
  induction i with
  | zero => simp [riseN]
  | succ i ih => have := insF_len (riseN l i) (l.getD i noPr); rw [riseN]; omega
theorem riseF_len (l : List Pr) : (riseF l).length ≤ 60 := by have := riseN_len l (min l.length 60); unfold riseF; omega
end Go.Proofs.Ytnbinodhdgnjlaa.Bk
namespace Go.Proofs.Ytnbinodhdgnjlaa
set_option linter.unusedVariables false
set_option linter.unusedSimpArgs false
open Go.RowKit Bk
open Go.Op (bytesLess)
theorem Owns.pair {w : World} {base : Nat} {e : TypeId} {ad : Option Addr} {cap n : Nat} {l : List Pr} (h : Owns w base e 2 ad cap n (pv l)) (i : Nat) (hi : i < l.length) :
    ∃ b off, ad = some ⟨b, off, none⟩ ∧ w.cell? ⟨b, off + i * 2, none⟩ = some (.string (str l[i].1)) ∧ w.cell? ⟨b, off + i * 2 + 1, none⟩ = some (.string (str l[i].2)) := h.row.pair i hi
theorem pv_drop (l : List Pr) (n : Nat) : pv (l.drop n) = (pv l).drop (n * 2) := by
  induction l generalizing n with
  | nil => simp [pv]
  | cons p l ih =>
    cases n with
    | zero => simp
    | succ n =>
      have := ih n
      rw [List.drop_succ_cons, show (n + 1) * 2 = n * 2 + 1 + 1 by omega]
      simp only [pv, List.flatMap_cons, List.cons_append, List.nil_append, List.drop_succ_cons] at this ⊢
      exact this
theorem Row.drop {w : World} {b off : Nat} {vs : List Value} (h : Row w (some ⟨b, off, none⟩) vs) (k : Nat) : Row w (some ⟨b, off + k, none⟩) (vs.drop k) := fun i u hi => by
  rw [List.getElem?_drop] at hi
  obtain ⟨b', off', e, hc⟩ := h (k + i) u hi
  cases e
  exact ⟨b, off + k, rfl, by rw [Nat.add_assoc]; exact hc⟩
/-- what hands back pairs of its own -/
def RetP (w : World) (l : List Pr) : Ending → World → Prop := fun x w' => ∃ ad cap, x = .returned (.slice ad l.length cap) ∧ Owns w' w.heap.size 31 2 ad cap l.length (pv l) ∧ Gr w w'
set_option maxRecDepth 100000 in
set_option maxHeartbeats 4000000 in
theorem rising_any (ad : Option Addr) (cap : Nat) (l : List Pr) (w : World) (hr : Row w ad (pv l)) (hl : l.length ≤ 9223372036854775807) :
    Calls Try.prog 10 #[.slice ad l.length cap] w (RetP w (riseF l)) := by
  have HR := Lib.hid hr.pair
  clear hr
  go_enter Try.func10, Try.ntmps10
  go_wp2
  go_loopw [3, 4] (fun vo vi wr => ∃ (i : Nat) (ado : Option Addr) (co : Nat), vo = .slice ado (riseN l i).length co ∧ vi = .int .i64 (i : Int) ∧ i ≤ l.length ∧ i ≤ 60 ∧ Owns wr w.heap.size 31 2 ado co (riseN l i).length (pv (riseN l i)) ∧ Gr w wr) (fun _ vi _ => 60 - (intOf vi).toNat)
  case atStart => exact ⟨0, none, 0, rfl, rfl, Nat.zero_le _, Nat.zero_le _, Owns.empty _ _ _ _, Gr.refl _⟩
  case round =>
    obtain ⟨i, ado, co, rfl, rfl, hi, hi60, ho, hg⟩ := hrel
    have hol := riseN_len l i
    by_cases hlt : i < l.length ∧ i < 60
    · obtain ⟨hlt, hlt2⟩ := hlt
      obtain ⟨bl, off, rfl, hc1, hc2⟩ := HR.out i hlt
      have HG := Lib.hid (show l.getD i noPr = l[i] by rw [List.getD_eq_getElem?_getD, List.getElem?_eq_getElem hlt, Option.getD_some])
      have HI := Lib.hid (show riseN l (i + 1) = insF (riseN l i) l[i] by rw [riseN, HG.out])
      generalize l[i] = p at *
      obtain ⟨k, v⟩ := p
      dsimp only at *
      generalize hoo : riseN l i = out at *
      have HOO := Lib.hid hoo; clear hoo
      go_wp2
      go_loopw [5] (fun va wa => ∃ a : Nat, a ≤ out.length ∧ va = .int .i64 (a : Int) ∧ Gr wr wa ∧ posF k out = a + posF k (out.drop a)) (fun va _ => out.length - (intOf va).toNat)
      case atStart => exact ⟨0, Nat.zero_le _, rfl, Gr.refl _, by simp⟩
      case round =>
        obtain ⟨a, ha, rfl, hga, hp⟩ := hrel
        have q1 := (hg.trans hga).cell hc1
        by_cases ha2 : a < out.length
        · obtain ⟨bo, offo, rfl, ho1, ho2⟩ := ho.pair a ha2
          have q3 := hga.cell ho1
          cases hb : bytesLess out[a].1 k with
          | true =>
            have HP := Lib.hid (hp.trans (by rw [posF_step ha2 hb]))
            clear hp
            go_wp2
            go_quiet (fail)
            go_wp2
            go_roundw
            case rel => exact ⟨a + 1, ha2, by go_num, hga.trans (Gr.drewN _ _), by rw [HP.out]; omega⟩
            case measure => simp [intOf]; omega
          | false =>
            have HP := Lib.hid (show posF k out = a by rw [hp, posF_stop ha2 hb]; rfl)
            clear hp
            go_wp2
            go_quiet (fail)
            have hane : ((a : Int) == (out.length : Int)) = false := by rw [beq_eq_false_iff_ne]; omega
            have hgetD : out.getD a noPr = out[a] := by rw [List.getD_eq_getElem?_getD, List.getElem?_eq_getElem ha2, Option.getD_some]
            have HD := Lib.hid hgetD; clear hgetD
            have ho9 := ho.gr hga
            have hg9 := hg.trans hga
            have hco := ho.2.1
            have hrow := (ho9.row)
            generalize hoa : out[a] = qp at *
            have HOA := Lib.hid hoa; clear hoa
            by_cases he : qp.1 = k
            · have hbe : (qp.1 == k) = true := by rw [beq_iff_eq]; exact he
              have HE := Lib.hid (show riseN l (i + 1) = out by rw [HI.out]; unfold insF; rw [HP.out, if_pos ⟨ha2, by rw [HD.out]; exact he⟩])
              clear he
              go_wp2
              go_quiet (fail)
              go_wp2
              go_roundw
              case rel => exact ⟨i + 1, _, co, by rw [HE.out], by go_num, hlt, hlt2, by rw [HE.out]; exact ho9.gr (Gr.drewN _ _), hg9.trans (Gr.drewN _ _)⟩
              case measure => simp [intOf]; omega
            · have hbe : (qp.1 == k) = false := by rw [beq_eq_false_iff_ne]; exact he
              have HE := Lib.hid (show riseN l (i + 1) = out.take a ++ [(k, v)] ++ out.drop a by rw [HI.out]; unfold insF; rw [HP.out, if_neg (fun h => he (by have := h.2; rw [HD.out] at this; exact this))])
              clear he
              go_wp2
              go_quiet (fail)
              go_wp2
              generalize hW0 : wr.drewN _ = W0
              generalize hW : W0.drewN _ = W
              have gW : Gr wr W := by rw [← hW, ← hW0]; exact (Gr.drewN _ _).trans (Gr.drewN _ _)
              clear hW hW0
              have oW := ho9.gr gW
              have g9 := hg9.trans gW
              have c1 := g9.cell hc1
              have c2 := g9.cell hc2
              have rW := oW.row
              have hN9 := g9.size
              obtain ⟨N, hN⟩ : ∃ N, N = W.heap.size := ⟨_, rfl⟩
              have hn2 : (pv (out.take a)).length = a * 2 := by rw [pv_length, List.length_take, Nat.min_eq_left ha]
              have hblN : bl < N := by rw [hN]; exact World.block_lt_of_cell? W _ c1
              have rT : Row W _ (pv (out.take a)) := fun x u hx => rW x u (by rw [pv_take] at hx; rw [List.getElem?_take] at hx; split at hx <;> first | exact hx | cases hx)
              have m1 : a + 1 ≤ maxLen := by unfold maxLen; omega
              have m1' : (a + 1) * 32 ≤ 140737488355328 := by omega
              have HN := Lib.hid hN; have HN2 := Lib.hid hn2; have HRT := Lib.hid rT
              clear hN hn2 rT
              refine region_tail_fresh N (a * 2) [.string (str k), .string (str v)] 14 _ [Mt N 31 2, Is (.slice (some ⟨bo, offo, none⟩) out.length co), Is (.int .i64 (a : Int)), Is (.slice (some ⟨bo, offo, none⟩) a co), Made N 31 2 a (pv (out.take a)), Is (.slice (some ⟨bl, off, none⟩) l.length cap), Is (.int .i64 (i : Int)), Is (.pointer (some ⟨bl, off + i * 2, none⟩)), Is (.agg #[.string (str k), .string (str v)]), OneB [.string (str k), .string (str v)], Made N 31 2 (a + 1) (pv (out.take a) ++ [.string (str k), .string (str v)]), Is (.slice (some ⟨bo, offo, none⟩) out.length co), Is (.int .i64 (a : Int)), OldRow N (out.length - a) (pv (out.drop a))] (by kernel_rfl) (by kernel_rfl) (by kernel_rfl) (by kernel_rfl) rfl rfl ⟨Mt.stable _ _, Is.stable _, Is.stable _, Is.stable _, Made.stable _ _ _ _ (.inl (Nat.le_of_eq HN2.out)), Is.stable _, Is.stable _, Is.stable _, Is.stable _, OneB.stable, Made.stable _ _ _ _ (.inr ⟨_, rfl, HN2.out⟩), Is.stable _, Is.stable _, OldRow.stable _ _, trivial⟩ ⟨?s0, ?s1, ?s2, ?s3, ?s4, ?s5, ?s6, ?s7, ?s8, ?s9, ?s10, ?s11, ?s12, ?s13, trivial⟩ ?fin
              case' s0 | s1 | s2 | s3 | s5 | s6 | s7 | s8 | s9 | s11 | s12 | s13 =>
                intro ρ wr hρ hg hK
                simp [readsOf, slotsOf, Op.operands, Call.operands, tmpOf, List.filterMap_cons, List.filterMap_nil, KnownAll, knownOf, srcOf, depsOf, dstOf, Region.binds, nth, Is] at hK
                obtain ⟨hc, hf, hgl⟩ := hρ
                try simp only [wantedBy, dstOf, boolOf, nth, List.getD_cons_zero, List.getD_cons_succ, List.getElem?_cons_zero, List.getElem?_cons_succ, Option.bind_some, if_true, hK, BEq.rfl]
                try go_simp
                first | exact rfl | (rw [if_pos (by omega)]; exact is_here rfl) | (rw [dif_pos (by omega)]; exact is_here rfl) | exact congrArg (Value.int _) (IntWalk.i64_in _ ⟨by omega, by omega⟩) | skip
              case' s4 | s10 =>
                intro ρ wr hρ hg hK
                simp [readsOf, slotsOf, Op.operands, Call.operands, tmpOf, List.filterMap_cons, List.filterMap_nil, KnownAll, knownOf, srcOf, depsOf, dstOf, Region.binds, nth, Is] at hK
                obtain ⟨hc, hf, hgl⟩ := hρ
                try simp only [wantedBy, dstOf, boolOf, nth, List.getD_cons_zero, List.getD_cons_succ, List.getElem?_cons_zero, List.getElem?_cons_succ, Option.bind_some, if_true, hK, BEq.rfl]
              case s0 => exact ⟨(Gr.alloc _ _).fresh (by rw [HN.out]; exact hg.size), _, rfl, Owns.void _ _ _ _ (by rw [HN.out]; exact hg.size)⟩
              case s3 => rw [if_pos (by omega)]; exact ⟨Fresh.refl _, rfl⟩
              case s4 =>
                obtain ⟨⟨ad0, e0, o0⟩, e1⟩ := hK
                obtain ⟨v, w2, r1, r2, r3⟩ := append_mt (news := [.string (str k), .string (str v)]) (n := a * 2) (ty := 22) (u := 22) elemP o0 (m := a) (xs := pv (out.take a)) ⟨HN2.out, pv_one _, .inl ⟨_, _, _, rfl, hg.row HRT.out (Nat.le_of_eq HN.out.symm), Try.underlying22⟩⟩ (by omega) (by omega) (by rw [HN.out]; exact hg.size)
                simp only [execOp, resolve, invoke, builtin, Sem.run_bind, Sem.run_pure, Result.andThen_ok, List.map_toArray, List.map_cons, List.map_nil, e0, e1]
                rw [r1]
                exact ⟨r2, r3⟩
              case s8 =>
                have z1 := hg.cell c1 hblN
                have z2 := hg.cell c2 hblN
                go_simp
                exact rfl
              case s9 => exact ⟨(Gr.alloc _ _).fresh (by rw [HN.out]; exact hg.size), _, _, _, rfl, heap_alloc_new _ _⟩
              case s10 =>
                obtain ⟨⟨ad0, cp0, e0, o0⟩, hone⟩ := hK
                obtain ⟨v, w2, r1, r2, r3⟩ := append_made (news := [.string (str k), .string (str v)]) (n := a * 2) (ty := 22) (u := 22) elemP o0 (hone.src rfl (pv_one [(k, v)]) Try.underlying22) rfl m1 m1' (by rw [HN.out]; exact hg.size)
                simp only [execOp, resolve, invoke, builtin, Sem.run_bind, Sem.run_pure, Result.andThen_ok, List.map_toArray, List.map_cons, List.map_nil, e0]
                rw [r1]
                exact ⟨r2, r3⟩
              case s13 =>
                have hbo : bo < N := by rw [HN.out]; exact (oW.lt _ rfl).2
                first
                  | (rw [if_neg (by omega)]
                     exact ⟨_, _, rfl, by rw [pv_drop]; exact (hg.row rW (Nat.le_of_eq HN.out.symm)).drop _, fun x hx => by cases hx; exact hbo⟩)
                  | (refine ⟨_, _, rfl, by rw [List.drop_of_length_le HAE.out]; exact Row.nil _ _, fun x hx => ?_⟩
                     split at hx <;> (cases hx; exact hbo))
              case fin =>
                intro w1 val hg hH
                simp only [Holds, Is, Nat.zero_add, Nat.reduceAdd] at hH
                obtain ⟨h0, h1, h2, h3, h4, h5, h6, h7, h8, h9, h10, h11, h12, h13, _⟩ := hH
                simp only [List.take_succ_cons, List.take_zero, List.drop_succ_cons, List.drop_zero, putAll, h1, h2, h3, h5, h6, h7, h8, h11, h12, Nat.zero_add, Nat.reduceAdd]
                obtain ⟨ad10, cp10, e10, o10⟩ := h10
                obtain ⟨ad13, cp13, e13, r13, _⟩ := h13
                have hs9 := hg.size
                have hNw : w.heap.size ≤ N := by rw [HN.out]; exact hN9
                have o10' := o10.base hNw
                have hbs : w.heap.size ≤ w1.heap.size := by omega
                have g10 : Gr w w1 := hg.gr g9 hNw
                have m2 : a + 1 + (out.length - a) ≤ maxLen := by unfold maxLen; omega
                have m2' : (a + 1 + (out.length - a)) * 32 ≤ 140737488355328 := by omega
                have hdl : (pv (out.drop a)).length = (out.length - a) * 2 := by rw [pv_length, List.length_drop]
                have HDL := Lib.hid hdl; clear hdl
                simp only [e10, e13]
                go_simp
                go_wp2_with (at_builtin; go_must (refine wp_append elemP rfl _ _ rfl rfl o10' rfl (⟨HDL.out, pv_one _, .inl ⟨_, _, _, rfl, r13, Try.underlying22⟩⟩ : Src Try.prog 22 w1 2 (.slice ad13 (out.length - a) cp13) (out.length - a) (pv (out.drop a))) m2 m2' hbs ?_); intro ad5 cap5 w5 o5 k5 f5)
                go_roundw
                case rel =>
                  have hL : (riseN l (i + 1)).length = a + 1 + (out.length - a) := by rw [HE.out]; simp only [List.length_append, List.length_take, List.length_drop, List.length_cons, List.length_nil]; omega
                  refine ⟨i + 1, ad5, cap5, by rw [hL], by go_num, hlt, hlt2, ?_, g10.grown k5 (row_from o10')⟩
                  rw [hL, HE.out, pv_append, pv_append]
                  exact o5
                case measure => simp [intOf]; omega
        · have hae : out.length ≤ a := by omega
          have hane : ((a : Int) == (out.length : Int)) = true := by rw [beq_iff_eq]; omega
          have HP := Lib.hid (show posF k out = a by rw [hp, posF_end hae]; rfl)
          clear hp
          have ho9 := ho.gr hga
          have hg9 := hg.trans hga
          have hco := ho.2.1
          have HE := Lib.hid (show riseN l (i + 1) = out.take a ++ [(k, v)] ++ out.drop a by rw [HI.out]; unfold insF; rw [HP.out, if_neg (fun h => ha2 h.1)])
          have hsome : (ado = none ∧ out.length = 0 ∧ co = 0) ∨ ∃ bo, ado = some ⟨bo, 0, none⟩ := by
            obtain ⟨_, _, _, h4 | ⟨g, cur, fr, e1, _⟩⟩ := ho
            · exact .inl h4
            · exact .inr ⟨g, e1⟩
          clear ho
          rcases hsome with ⟨rfl, h0, rfl⟩ | ⟨bo, hbo9⟩
          · obtain rfl : out = [] := List.eq_nil_of_length_eq_zero h0
            obtain rfl : a = 0 := by simpa using ha
            clear h0 hae hane
            go_wp2
            go_quiet (fail)
            go_wp2
            go_quiet (fail)
            go_wp2
            generalize hW0 : wr.drewN _ = W0
            generalize hW : W0.drewN _ = W
            have gW : Gr wr W := by rw [← hW, ← hW0]; exact (Gr.drewN _ _).trans (Gr.drewN _ _)
            clear hW hW0
            have oW := ho9.gr gW
            have g9 := hg9.trans gW
            have c1 := g9.cell hc1
            have c2 := g9.cell hc2
            have hN9 := g9.size
            obtain ⟨N, hN⟩ : ∃ N, N = W.heap.size := ⟨_, rfl⟩
            have hn2 : (pv (([] : List Pr))).length = 0 * 2 := by rfl
            have hblN : bl < N := by rw [hN]; exact World.block_lt_of_cell? W _ c1
            have rT : Row W none (pv ([] : List Pr)) := Row.nil _ _
            have m1 : 0 + 1 ≤ maxLen := by unfold maxLen; omega
            have m1' : (0 + 1) * 32 ≤ 140737488355328 := by omega
            have HN := Lib.hid hN; have HN2 := Lib.hid hn2; have HRT := Lib.hid rT
            clear hN hn2 rT
            refine region_tail_fresh N 0 [.string (str k), .string (str v)] 14 _ [Mt N 31 2, Is (.slice none 0 0), Is (.int .i64 0), Is (.slice none 0 0), Made N 31 2 0 (pv (([] : List Pr))), Is (.slice (some ⟨bl, off, none⟩) l.length cap), Is (.int .i64 (i : Int)), Is (.pointer (some ⟨bl, off + i * 2, none⟩)), Is (.agg #[.string (str k), .string (str v)]), OneB [.string (str k), .string (str v)], Made N 31 2 (0 + 1) (pv (([] : List Pr)) ++ [.string (str k), .string (str v)]), Is (.slice none 0 0), Is (.int .i64 0), OldRow N (0) (pv (([] : List Pr)))] (by kernel_rfl) (by kernel_rfl) (by kernel_rfl) (by kernel_rfl) rfl rfl ⟨Mt.stable _ _, Is.stable _, Is.stable _, Is.stable _, Made.stable _ _ _ _ (.inl (Nat.le_of_eq HN2.out)), Is.stable _, Is.stable _, Is.stable _, Is.stable _, OneB.stable, Made.stable _ _ _ _ (.inr ⟨_, rfl, HN2.out⟩), Is.stable _, Is.stable _, OldRow.stable _ _, trivial⟩ ⟨?s0x1, ?s1x1, ?s2x1, ?s3x1, ?s4x1, ?s5x1, ?s6x1, ?s7x1, ?s8x1, ?s9x1, ?s10x1, ?s11x1, ?s12x1, ?s13x1, trivial⟩ ?finx1
            case' s0x1 | s1x1 | s2x1 | s3x1 | s5x1 | s6x1 | s7x1 | s8x1 | s9x1 | s11x1 | s12x1 | s13x1 =>
              intro ρ wr hρ hg hK
              simp [readsOf, slotsOf, Op.operands, Call.operands, tmpOf, List.filterMap_cons, List.filterMap_nil, KnownAll, knownOf, srcOf, depsOf, dstOf, Region.binds, nth, Is] at hK
              obtain ⟨hc, hf, hgl⟩ := hρ
              try simp only [wantedBy, dstOf, boolOf, nth, List.getD_cons_zero, List.getD_cons_succ, List.getElem?_cons_zero, List.getElem?_cons_succ, Option.bind_some, if_true, hK, BEq.rfl]
              try go_simp
              first | exact rfl | (rw [if_pos (by omega)]; exact is_here rfl) | (rw [dif_pos (by omega)]; exact is_here rfl) | exact congrArg (Value.int _) (IntWalk.i64_in _ ⟨by omega, by omega⟩) | skip
            case' s4x1 | s10x1 =>
              intro ρ wr hρ hg hK
              simp [readsOf, slotsOf, Op.operands, Call.operands, tmpOf, List.filterMap_cons, List.filterMap_nil, KnownAll, knownOf, srcOf, depsOf, dstOf, Region.binds, nth, Is] at hK
              obtain ⟨hc, hf, hgl⟩ := hρ
              try simp only [wantedBy, dstOf, boolOf, nth, List.getD_cons_zero, List.getD_cons_succ, List.getElem?_cons_zero, List.getElem?_cons_succ, Option.bind_some, if_true, hK, BEq.rfl]
            case s0x1 => exact ⟨(Gr.alloc _ _).fresh (by rw [HN.out]; exact hg.size), _, rfl, Owns.void _ _ _ _ (by rw [HN.out]; exact hg.size)⟩
            case s4x1 =>
              obtain ⟨⟨ad0, e0, o0⟩, e1⟩ := hK
              obtain ⟨v, w2, r1, r2, r3⟩ := append_mt (news := [.string (str k), .string (str v)]) (n := 0) (ty := 22) (u := 22) elemP o0 (m := 0) (xs := pv (([] : List Pr))) ⟨HN2.out, pv_one _, .inl ⟨_, _, _, rfl, hg.row HRT.out (Nat.le_of_eq HN.out.symm), Try.underlying22⟩⟩ (by omega) (by omega) (by rw [HN.out]; exact hg.size)
              simp only [execOp, resolve, invoke, builtin, Sem.run_bind, Sem.run_pure, Result.andThen_ok, List.map_toArray, List.map_cons, List.map_nil, e0, e1]
              rw [r1]
              exact ⟨r2, r3⟩
            case s8x1 =>
              have z1 := hg.cell c1 hblN
              have z2 := hg.cell c2 hblN
              go_simp
              exact rfl
            case s9x1 => exact ⟨(Gr.alloc _ _).fresh (by rw [HN.out]; exact hg.size), _, _, _, rfl, heap_alloc_new _ _⟩
            case s10x1 =>
              obtain ⟨⟨ad0, cp0, e0, o0⟩, hone⟩ := hK
              obtain ⟨v, w2, r1, r2, r3⟩ := append_made (news := [.string (str k), .string (str v)]) (n := 0) (ty := 22) (u := 22) elemP o0 (hone.src rfl (pv_one [(k, v)]) Try.underlying22) rfl m1 m1' (by rw [HN.out]; exact hg.size)
              simp only [execOp, resolve, invoke, builtin, Sem.run_bind, Sem.run_pure, Result.andThen_ok, List.map_toArray, List.map_cons, List.map_nil, e0]
              rw [r1]
              exact ⟨r2, r3⟩
            case s13x1 =>
              exact ⟨_, _, rfl, Row.nil _ _, fun x hx => by cases hx⟩
            case finx1 =>
              intro w1 val hg hH
              simp only [Holds, Is, Nat.zero_add, Nat.reduceAdd] at hH
              obtain ⟨h0, h1, h2, h3, h4, h5, h6, h7, h8, h9, h10, h11, h12, h13, _⟩ := hH
              simp only [List.take_succ_cons, List.take_zero, List.drop_succ_cons, List.drop_zero, putAll, h1, h2, h3, h5, h6, h7, h8, h11, h12, Nat.zero_add, Nat.reduceAdd]
              obtain ⟨ad10, cp10, e10, o10⟩ := h10
              obtain ⟨ad13, cp13, e13, r13, _⟩ := h13
              have hs9 := hg.size
              have hNw : w.heap.size ≤ N := by rw [HN.out]; exact hN9
              have o10' := o10.base hNw
              have hbs : w.heap.size ≤ w1.heap.size := by omega
              have g10 : Gr w w1 := hg.gr g9 hNw
              have m2 : 0 + 1 + (0) ≤ maxLen := by unfold maxLen; omega
              have m2' : (0 + 1 + (0)) * 32 ≤ 140737488355328 := by omega
              have hdl : (pv (([] : List Pr))).length = (0) * 2 := by rfl
              have HDL := Lib.hid hdl; clear hdl
              simp only [e10, e13]
              go_simp
              go_wp2_with (at_builtin; go_must (refine wp_append elemP rfl _ _ rfl rfl o10' rfl (⟨HDL.out, pv_one _, .inl ⟨_, _, _, rfl, r13, Try.underlying22⟩⟩ : Src Try.prog 22 w1 2 (.slice ad13 (0) cp13) (0) (pv (([] : List Pr)))) m2 m2' hbs ?_); intro ad5 cap5 w5 o5 k5 f5)
              go_roundw
              case rel =>
                have hL : (riseN l (i + 1)).length = 0 + 1 + (0) := by rw [HE.out]; simp only [List.length_append, List.length_take, List.length_drop, List.length_cons, List.length_nil]; omega
                refine ⟨i + 1, ad5, cap5, by rw [hL], by go_num, hlt, hlt2, ?_, g10.grown k5 (row_from o10')⟩
                rw [hL, HE.out, pv_append, pv_append]
                exact o5
              case measure => simp [intOf]; omega
          · obtain ⟨offo, hoffo⟩ : ∃ offo : Nat, offo = 0 := ⟨_, rfl⟩
            rw [← hoffo] at hbo9
            clear hoffo
            subst hbo9
            have HAE := Lib.hid hae; clear hae
            go_wp2
            go_quiet (fail)
            go_wp2
            go_quiet (fail)
            go_wp2
            generalize hW0 : wr.drewN _ = W0
            generalize hW : W0.drewN _ = W
            have gW : Gr wr W := by rw [← hW, ← hW0]; exact (Gr.drewN _ _).trans (Gr.drewN _ _)
            clear hW hW0
            have oW := ho9.gr gW
            have g9 := hg9.trans gW
            have c1 := g9.cell hc1
            have c2 := g9.cell hc2
            have rW := oW.row
            have hN9 := g9.size
            obtain ⟨N, hN⟩ : ∃ N, N = W.heap.size := ⟨_, rfl⟩
            have hn2 : (pv (out.take a)).length = a * 2 := by rw [pv_length, List.length_take, Nat.min_eq_left ha]
            have hblN : bl < N := by rw [hN]; exact World.block_lt_of_cell? W _ c1
            have rT : Row W _ (pv (out.take a)) := fun x u hx => rW x u (by rw [pv_take] at hx; rw [List.getElem?_take] at hx; split at hx <;> first | exact hx | cases hx)
            have m1 : a + 1 ≤ maxLen := by unfold maxLen; omega
            have m1' : (a + 1) * 32 ≤ 140737488355328 := by omega
            have HN := Lib.hid hN; have HN2 := Lib.hid hn2; have HRT := Lib.hid rT
            clear hN hn2 rT
            refine region_tail_fresh N (a * 2) [.string (str k), .string (str v)] 14 _ [Mt N 31 2, Is (.slice (some ⟨bo, offo, none⟩) out.length co), Is (.int .i64 (a : Int)), Is (.slice (some ⟨bo, offo, none⟩) a co), Made N 31 2 a (pv (out.take a)), Is (.slice (some ⟨bl, off, none⟩) l.length cap), Is (.int .i64 (i : Int)), Is (.pointer (some ⟨bl, off + i * 2, none⟩)), Is (.agg #[.string (str k), .string (str v)]), OneB [.string (str k), .string (str v)], Made N 31 2 (a + 1) (pv (out.take a) ++ [.string (str k), .string (str v)]), Is (.slice (some ⟨bo, offo, none⟩) out.length co), Is (.int .i64 (a : Int)), OldRow N (out.length - a) (pv (out.drop a))] (by kernel_rfl) (by kernel_rfl) (by kernel_rfl) (by kernel_rfl) rfl rfl ⟨Mt.stable _ _, Is.stable _, Is.stable _, Is.stable _, Made.stable _ _ _ _ (.inl (Nat.le_of_eq HN2.out)), Is.stable _, Is.stable _, Is.stable _, Is.stable _, OneB.stable, Made.stable _ _ _ _ (.inr ⟨_, rfl, HN2.out⟩), Is.stable _, Is.stable _, OldRow.stable _ _, trivial⟩ ⟨?s0x2, ?s1x2, ?s2x2, ?s3x2, ?s4x2, ?s5x2, ?s6x2, ?s7x2, ?s8x2, ?s9x2, ?s10x2, ?s11x2, ?s12x2, ?s13x2, trivial⟩ ?finx2
            case' s0x2 | s1x2 | s2x2 | s3x2 | s5x2 | s6x2 | s7x2 | s8x2 | s9x2 | s11x2 | s12x2 | s13x2 =>
              intro ρ wr hρ hg hK
              simp [readsOf, slotsOf, Op.operands, Call.operands, tmpOf, List.filterMap_cons, List.filterMap_nil, KnownAll, knownOf, srcOf, depsOf, dstOf, Region.binds, nth, Is] at hK
              obtain ⟨hc, hf, hgl⟩ := hρ
              try simp only [wantedBy, dstOf, boolOf, nth, List.getD_cons_zero, List.getD_cons_succ, List.getElem?_cons_zero, List.getElem?_cons_succ, Option.bind_some, if_true, hK, BEq.rfl]
              try go_simp
              first | exact rfl | (rw [if_pos (by omega)]; exact is_here rfl) | (rw [dif_pos (by omega)]; exact is_here rfl) | exact congrArg (Value.int _) (IntWalk.i64_in _ ⟨by omega, by omega⟩) | skip
            case' s4x2 | s10x2 =>
              intro ρ wr hρ hg hK
              simp [readsOf, slotsOf, Op.operands, Call.operands, tmpOf, List.filterMap_cons, List.filterMap_nil, KnownAll, knownOf, srcOf, depsOf, dstOf, Region.binds, nth, Is] at hK
              obtain ⟨hc, hf, hgl⟩ := hρ
              try simp only [wantedBy, dstOf, boolOf, nth, List.getD_cons_zero, List.getD_cons_succ, List.getElem?_cons_zero, List.getElem?_cons_succ, Option.bind_some, if_true, hK, BEq.rfl]
            case s0x2 => exact ⟨(Gr.alloc _ _).fresh (by rw [HN.out]; exact hg.size), _, rfl, Owns.void _ _ _ _ (by rw [HN.out]; exact hg.size)⟩
            case s3x2 => rw [if_pos (by omega)]; exact ⟨Fresh.refl _, rfl⟩
            case s4x2 =>
              obtain ⟨⟨ad0, e0, o0⟩, e1⟩ := hK
              obtain ⟨v, w2, r1, r2, r3⟩ := append_mt (news := [.string (str k), .string (str v)]) (n := a * 2) (ty := 22) (u := 22) elemP o0 (m := a) (xs := pv (out.take a)) ⟨HN2.out, pv_one _, .inl ⟨_, _, _, rfl, hg.row HRT.out (Nat.le_of_eq HN.out.symm), Try.underlying22⟩⟩ (by omega) (by omega) (by rw [HN.out]; exact hg.size)
              simp only [execOp, resolve, invoke, builtin, Sem.run_bind, Sem.run_pure, Result.andThen_ok, List.map_toArray, List.map_cons, List.map_nil, e0, e1]
              rw [r1]
              exact ⟨r2, r3⟩
            case s8x2 =>
              have z1 := hg.cell c1 hblN
              have z2 := hg.cell c2 hblN
              go_simp
              exact rfl
            case s9x2 => exact ⟨(Gr.alloc _ _).fresh (by rw [HN.out]; exact hg.size), _, _, _, rfl, heap_alloc_new _ _⟩
            case s10x2 =>
              obtain ⟨⟨ad0, cp0, e0, o0⟩, hone⟩ := hK
              obtain ⟨v, w2, r1, r2, r3⟩ := append_made (news := [.string (str k), .string (str v)]) (n := a * 2) (ty := 22) (u := 22) elemP o0 (hone.src rfl (pv_one [(k, v)]) Try.underlying22) rfl m1 m1' (by rw [HN.out]; exact hg.size)
              simp only [execOp, resolve, invoke, builtin, Sem.run_bind, Sem.run_pure, Result.andThen_ok, List.map_toArray, List.map_cons, List.map_nil, e0]
              rw [r1]
              exact ⟨r2, r3⟩
            case s13x2 =>
              have hbo : bo < N := by rw [HN.out]; exact (oW.lt _ rfl).2
              first
                | (rw [if_neg (by omega)]
                   exact ⟨_, _, rfl, by rw [pv_drop]; exact (hg.row rW (Nat.le_of_eq HN.out.symm)).drop _, fun x hx => by cases hx; exact hbo⟩)
                | (refine ⟨_, _, rfl, by rw [List.drop_of_length_le HAE.out]; exact Row.nil _ _, fun x hx => ?_⟩
                   split at hx <;> (cases hx; exact hbo))
            case finx2 =>
              intro w1 val hg hH
              simp only [Holds, Is, Nat.zero_add, Nat.reduceAdd] at hH
              obtain ⟨h0, h1, h2, h3, h4, h5, h6, h7, h8, h9, h10, h11, h12, h13, _⟩ := hH
              simp only [List.take_succ_cons, List.take_zero, List.drop_succ_cons, List.drop_zero, putAll, h1, h2, h3, h5, h6, h7, h8, h11, h12, Nat.zero_add, Nat.reduceAdd]
              obtain ⟨ad10, cp10, e10, o10⟩ := h10
              obtain ⟨ad13, cp13, e13, r13, _⟩ := h13
              have hs9 := hg.size
              have hNw : w.heap.size ≤ N := by rw [HN.out]; exact hN9
              have o10' := o10.base hNw
              have hbs : w.heap.size ≤ w1.heap.size := by omega
              have g10 : Gr w w1 := hg.gr g9 hNw
              have m2 : a + 1 + (out.length - a) ≤ maxLen := by unfold maxLen; omega
              have m2' : (a + 1 + (out.length - a)) * 32 ≤ 140737488355328 := by omega
              have hdl : (pv (out.drop a)).length = (out.length - a) * 2 := by rw [pv_length, List.length_drop]
              have HDL := Lib.hid hdl; clear hdl
              simp only [e10, e13]
              go_simp
              go_wp2_with (at_builtin; go_must (refine wp_append elemP rfl _ _ rfl rfl o10' rfl (⟨HDL.out, pv_one _, .inl ⟨_, _, _, rfl, r13, Try.underlying22⟩⟩ : Src Try.prog 22 w1 2 (.slice ad13 (out.length - a) cp13) (out.length - a) (pv (out.drop a))) m2 m2' hbs ?_); intro ad5 cap5 w5 o5 k5 f5)
              go_roundw
              case rel =>
                have hL : (riseN l (i + 1)).length = a + 1 + (out.length - a) := by rw [HE.out]; simp only [List.length_append, List.length_take, List.length_drop, List.length_cons, List.length_nil]; omega
                refine ⟨i + 1, ad5, cap5, by rw [hL], by go_num, hlt, hlt2, ?_, g10.grown k5 (row_from o10')⟩
                rw [hL, HE.out, pv_append, pv_append]
                exact o5
              case measure => simp [intOf]; omega
    · have hx : l.length ≤ i ∨ (i < l.length ∧ 60 ≤ i) := by omega
      have HM := Lib.hid (show riseF l = riseN l i by unfold riseF; rw [show min l.length 60 = i by omega])
      clear hlt
      rcases hx with hx | ⟨hx, hx2⟩
      · go_wp2
        go_ret
        exact ⟨ado, co, by rw [HM.out]; rfl, by rw [HM.out]; exact ho, hg⟩
      · go_wp2
        go_ret
        exact ⟨ado, co, by rw [HM.out]; rfl, by rw [HM.out]; exact ho, hg⟩
end Go.Proofs.Ytnbinodhdgnjlaa
