/- Layer 3 (varint): VarintBack answers true. -/
import Derived.Test.YtmbjihjcblklmaaVarintFolds
import Derived.Test.YtmbjihjcblklmaaApp
namespace Go.Proofs.Ytmbjihjcblklmaa
set_option linter.unusedVariables false
set_option linter.unusedSimpArgs false
open Go.RowKit Varint
/-- a number as a signed one -/
def sgn (n : Nat) : Int := if n < 9223372036854775808 then n else (n : Int) - 18446744073709551616
def bothF (n : Nat) : List UInt8 := putF n ++ putF (foldF (sgn n))
def catF (l : List Nat) : List UInt8 := l.flatMap bothF
theorem catF_succ (l : List Nat) (j : Nat) (h : j < l.length) : catF (l.take (j + 1)) = catF (l.take j) ++ putF l[j] ++ putF (foldF (sgn l[j])) := by
  unfold catF
  rw [List.take_add_one, List.getElem?_eq_getElem h, List.flatMap_append]
  simp [bothF]
theorem catF_drop (l : List Nat) (j m : Nat) (h : j < l.length) (hm : j < m) : catF ((l.take m).drop j) = putF l[j] ++ (putF (foldF (sgn l[j])) ++ catF ((l.take m).drop (j + 1))) := by
  have h1 : j < (l.take m).length := by simp; omega
  rw [List.drop_eq_getElem_cons h1]
  simp [catF, bothF]
theorem catF_len (l : List Nat) : (catF l).length ≤ 20 * l.length := by
  induction l with
  | nil => simp [catF]
  | cons n r ih =>
    have h1 : (putF n).length ≤ 10 := (putN_len 9 n).1
    have h2 : (putF (foldF (sgn n))).length ≤ 10 := (putN_len 9 _).1
    simp only [catF, List.flatMap_cons, List.length_append, List.length_cons, bothF] at ih ⊢
    omega
theorem sgn_bounds (n : Nat) (h : n < 18446744073709551616) : -9223372036854775808 ≤ sgn n ∧ sgn n ≤ 9223372036854775807 := by unfold sgn; split <;> omega
theorem wrap_sgn (n : Nat) (h : n < 18446744073709551616) : IntKind.i64.wrap (n : Int) = sgn n := by
  rw [IntKind.wrap_i64]; unfold sgn; split <;> omega
set_option maxRecDepth 100000 in
set_option maxHeartbeats 4000000 in
theorem VarintBack_any (adl : Option Addr) (capl : Nat) (l : List Nat) (ad0 : Option Addr) (cap0 : Nat) (b : List UInt8) (w : World) (hc : l.length ≤ capl) (hm : capl ≤ maxLen) (hr : Row w adl (l.map fun (n : Nat) => Value.int .u64 (n : Int))) (hq : ∀ n ∈ l, n < 18446744073709551616)
    (hbl : b.length ≤ cap0) (hbm : cap0 ≤ maxLen) (hb : Bytes w ad0 b) :
    Calls Try.prog 6 #[.slice adl l.length capl, .slice ad0 b.length cap0] w fun e w' => e = .returned (.bool true) ∧ Gr w w' := by
  have hmx : maxLen ≤ 9223372036854775807 := by decide
  have HB := Lib.hid hb
  have HQ := Lib.hid (fun i (h : i < l.length) => hq _ (List.getElem_mem h))
  have HR := Lib.hid (fun i (h : i < l.length) => hr i (.int .u64 ((l[i] : Nat) : Int)) (by simp [h]))
  clear hq hr hb
  go_enter Try.func6, Try.ntmps6
  go_wp2_with (go_at_call 12; refine (counts_any _).mono ?_; rintro e w0 ⟨rfl, g0⟩)
  go_loopw [5, 6, 7, 8, 9, 10, 11] (fun v i _ _ _ _ _ wr => ∃ (j : Nat) (ad : Option Addr) (cap : Nat), j ≤ l.length ∧ j ≤ 50 ∧ i = .int .i64 (j : Int) ∧ v = .slice ad (catF (l.take j)).length cap ∧ Owns wr w.heap.size 5 1 ad cap (catF (l.take j)).length (bv (catF (l.take j))) ∧ Gr w wr) (fun _ i _ _ _ _ _ _ => 50 - (intOf i).toNat)
  case atStart => exact ⟨0, none, 0, Nat.zero_le _, by omega, rfl, rfl, Owns.empty _ _ _ _, g0⟩
  case round =>
    obtain ⟨j, ad, cap, hj, hj5, rfl, rfl, ho, hg0⟩ := hrel
    by_cases hlt : j < l.length ∧ j < 50
    · obtain ⟨h1, h2⟩ := hlt
      obtain ⟨bl, off, rfl, hcell⟩ := HR.out j h1
      have hn := HQ.out j h1
      have CS := Lib.hid (catF_succ l j h1)
      have CL := catF_len (l.take j)
      rw [List.length_take] at CL
      have hlen := putN_len 9 l[j]
      have HGB := Lib.hid (get_begin l[j])
      have HW := Lib.hid (wrap_sgn l[j] hn)
      have HS := sgn_bounds l[j] hn
      have PU := Lib.hid (fun w => Put_any l[j] w hn)
      have PS := Lib.hid (fun w => PutSigned_any (sgn l[j]) w HS.1 HS.2)
      have hlen2 := putN_len 9 (foldF (sgn l[j]))
      have cw := hg0.cell hcell
      generalize hnn : l[j] = n at *
      generalize catF (l.take j) = acc at *
      generalize sgn n = z at *
      change (putF n).length ≤ 10 ∧ 1 ≤ (putF n).length at hlen
      change (putF (foldF z)).length ≤ 10 ∧ 1 ≤ (putF (foldF z)).length at hlen2
      generalize putF n = p at *
      generalize putF (foldF z) = q at *
      have HN := Lib.hid hnn; clear hnn
      have b1 : decide ((j : Int) < (l.length : Int)) = true := by simp; omega
      have b2 : decide ((j : Int) < 50) = true := by simp; omega
      have hpm : p.length ≤ maxLen := by unfold maxLen; omega
      have hbase : w.heap.size ≤ wr.heap.size := hg0.size
      go_wp2_with (go_at_call 10; (with_reducible refine (PU.out _).mono ?_); rintro e w1 ⟨ad1, cap1, rfl, o1, g1⟩)
      have hpc : p.length ≤ cap1 := o1.2.1
      have hcm1 : cap1 ≤ maxLen := o1.2.2.1
      go_loop [8, 9, 10, 11] (fun k _ _ _ => ∃ u : Nat, u ≤ p.length ∧ k = .int .i64 (u : Int)) (fun k _ _ _ => p.length - (intOf k).toNat)
      case atStart => exact ⟨0, Nat.zero_le _, rfl⟩
      case round =>
        obtain ⟨u, hu, rfl⟩ := hrel
        by_cases hul : u < p.length
        · have hbk : Bytes w1 ad1 (p.take u) := o1.bytes.take u
          have G := Lib.hid (Get_any ad1 u cap1 (p.take u) w1 (by simp; omega) (by omega) hbk)
          rw [HGB.out u hul] at G
          go_wp2_with (go_at_call 18; refine G.out.mono ?_; rintro e w' ⟨rfl, rfl⟩)
          go_round
          case rel => exact ⟨u + 1, by omega, by go_num⟩
          case measure => simp [intOf]; omega
        · obtain rfl : u = p.length := by omega
          go_wp2
          have ho1 := ho.gr g1
          obtain ⟨row, hrow⟩ : ∃ row, row = ad.map (·.block) := ⟨_, rfl⟩
          have hrlt : ∀ g, row = some g → g < wr.heap.size ∧ w.heap.size ≤ g := by
            intro g hg'
            subst hrow
            cases ad with
            | none => cases hg'
            | some a => cases hg'; exact ⟨(ho.lt a rfl).2, (ho.lt a rfl).1⟩
          obtain ⟨A, hA⟩ : ∃ A : Option Obj, ∀ g, row = some g → A = w1.heap[g]? := ⟨row.bind fun g => w1.heap[g]?, fun g hg' => by rw [hg']; rfl⟩
          obtain ⟨B, hB⟩ : ∃ B : Option Obj, B = if acc.length + p.length ≤ cap then appRow (acc.length * 1) (bv p) A else A := ⟨_, rfl⟩
          have hs1 := g1.size
          have hpne : ∀ a, ad1 = some a → some a.block ≠ row := fun a ha hr => by have := (o1.lt a ha).1; have := (hrlt _ hr.symm).1; omega
          have hlne : some bl ≠ row := fun hr => by have := (hrlt _ hr.symm).2; have := World.block_lt_of_cell? w _ hcell; simp at this; omega
          have HRow := Lib.hid hrow
          have hmA : acc.length + p.length ≤ maxLen := by unfold maxLen; omega
          have hmB : (acc.length + p.length) * 1 ≤ 140737488355328 := by omega
          have hmC : acc.length + p.length + q.length ≤ maxLen := by unfold maxLen; omega
          have hmD : (acc.length + p.length + q.length) * 1 ≤ 140737488355328 := by omega
          have HBB := Lib.hid hB
          have HA := Lib.hid hA
          clear hrow hB hA
          have cw1 := g1.cell cw
          refine region_tail_once row A B 9 _ [Is (.slice ad acc.length cap), Is (.slice ad1 p.length cap1), Apd row B w.heap.size 5 1 (acc.length + p.length) (bv acc ++ bv p), Is (.slice (some ⟨bl, off, none⟩) l.length capl), Is (.int .i64 (j : Int)), Is (.pointer (some ⟨bl, off + j, none⟩)), Is (.int .u64 (n : Int)), Is (.int .i64 z), MadeB w1.heap.size 5 q] (by kernel_rfl) (by kernel_rfl) (by kernel_rfl) (by kernel_rfl) rfl rfl ⟨Is.stable _, Is.stable _, Apd.stable _ _ _ _ _, Is.stable _, Is.stable _, Is.stable _, Is.stable _, Is.stable _, MadeB.stable (fun g hg' => by have := (hrlt g hg').1; omega), trivial⟩ ⟨?s0, ?s1, ?s2, ?s3, ?s4, ?s5, ?s6, ?s7, ?s8, trivial⟩ ?fin
          case' s0 | s1 | s3 | s4 | s5 | s6 | s7 | s8 =>
            intro ρ wr hρ hg hK
            simp [readsOf, slotsOf, Op.operands, Call.operands, tmpOf, List.filterMap_cons, List.filterMap_nil, KnownAll, knownOf, srcOf, depsOf, dstOf, Region.binds, nth, Is] at hK
            obtain ⟨hc, hf, hgl⟩ := hρ
            try simp only [wantedBy, dstOf, boolOf, nth, List.getD_cons_zero, List.getD_cons_succ, List.getElem?_cons_zero, List.getElem?_cons_succ, Option.bind_some, if_true, hK, BEq.rfl]
            try go_simp
            first | exact rfl | (rw [if_pos (by omega)]; exact is_here rfl) | (rw [dif_pos (by omega)]; exact is_here rfl) | exact congrArg (Value.int _) (IntWalk.i64_in _ ⟨by omega, by omega⟩) | skip
          case' s2 =>
            intro ρ wr hρ hg hK
            simp [readsOf, slotsOf, Op.operands, Call.operands, tmpOf, List.filterMap_cons, List.filterMap_nil, KnownAll, knownOf, srcOf, depsOf, dstOf, Region.binds, nth, Is] at hK
            obtain ⟨hc, hf, hgl⟩ := hρ
            try simp only [wantedBy, dstOf, boolOf, nth, List.getD_cons_zero, List.getD_cons_succ, List.getElem?_cons_zero, List.getElem?_cons_succ, Option.bind_some, if_true, hK, BEq.rfl]
          case s2 =>
            obtain ⟨v, w2, r1, r2, r3⟩ := append_once (ty := 23) (u := 23) elemB ho1 HRow.out HA.out HBB.out hg (Src.bytes (hg.bytes o1.bytes hpne) rfl Try.underlying23) hmA hmB (by omega)
            simp only [execOp, resolve, invoke, builtin, Sem.run_bind, Sem.run_pure, Result.andThen_ok, List.map_toArray, List.map_cons, List.map_nil, hK]
            rw [r1]
            exact ⟨r2, r3⟩
          case s6 => have := hg.cell cw1 hlne; go_simp; exact rfl
          case s7 => exact congrArg (Value.int _) HW.out
          case s8 => exact (PS.out _).mono fun e w2 ⟨ad2, cap2, he, o2, g2⟩ => ⟨_, he, g2.once (fun g hg' => by have := (hrlt g hg').1; have := hg.size; omega), ad2, cap2, rfl, o2.base hg.size⟩
          case fin =>
            intro w1 val hg hH
            simp only [Holds, Is, Nat.zero_add, Nat.reduceAdd] at hH
            obtain ⟨h0, h1, h2, h3, h4, h5, h6, h7, h8, _⟩ := hH
            simp only [List.take_succ_cons, List.take_zero, List.drop_succ_cons, List.drop_zero, putAll, h0, h1, h3, h4, h5, h6, h7, Nat.zero_add, Nat.reduceAdd]
            obtain ⟨ad3, cap3, h2, o3, _⟩ := h2
            obtain ⟨ad4, cap4, h8, o4⟩ := h8
            simp only [h2, h8]
            go_simp
            have hs2 := hg.size
            have hbase3 : w.heap.size ≤ w1.heap.size := by omega
            go_wp2_with (at_builtin; go_must (refine wp_append elemB rfl _ _ rfl rfl o3 rfl (Src.bytes o4.bytes rfl Try.underlying23) hmC hmD hbase3 ?_); intro ad5 cap5 w5 o5 k5 f5)
            go_roundw
            case rel =>
              have hl5 : (catF (List.take (j + 1) l)).length = acc.length + p.length + q.length := by rw [CS.out]; simp; omega
              refine ⟨j + 1, ad5, cap5, by omega, by omega, by go_num, by rw [hl5], ?_, ?_⟩
              · rw [hl5, CS.out, bv_append, bv_append]; exact o5
              · have hz : w.heap.size ≤ w1.heap.size := hbase3
                refine (((hg0.trans g1).grown hg.1 (fun g hg' => (hrlt g hg').2))).grown k5 (fun g hg' => ?_)
                cases ad3 with
                | none => cases hg'
                | some a => cases hg'; exact (o3.lt a rfl).1
            case measure => simp [intOf]; omega
    · have hmn : ∃ m, m = min l.length 50 ∧ j = m := ⟨_, rfl, by omega⟩
      obtain ⟨m, hmm, rfl⟩ := hmn
      have CL := catF_len (l.take j)
      rw [List.length_take] at CL
      have HCD := Lib.hid (fun t (h : t < l.length) => catF_drop l t j h)
      have hjm : j ≤ l.length ∧ j ≤ 50 := ⟨by omega, by omega⟩
      have HMM := Lib.hid hmm; clear hmm
      have hx : l.length ≤ j ∨ (j < l.length ∧ 50 ≤ j) := by omega
      have HLT := Lib.hid hlt; clear hlt
      rcases hx with hx1 | ⟨hx1, hx2⟩
      · go_wp2
        go_loop [5, 12, 13, 14, 15, 16, 17, 18] (fun v i _ _ _ _ _ _ => ∃ (t : Nat) (ad : Option Addr) (cap : Nat), t ≤ j ∧ i = .int .i64 (t : Int) ∧ v = .slice ad (catF ((l.take j).drop t)).length cap ∧ (catF ((l.take j).drop t)).length ≤ cap ∧ cap ≤ maxLen ∧ Bytes wr ad (catF ((l.take j).drop t))) (fun _ i _ _ _ _ _ _ => j - (intOf i).toNat)
        case atStart => exact ⟨0, ad, cap, Nat.zero_le _, rfl, rfl, ho.2.1, ho.2.2.1, ho.bytes⟩
        case round =>
          clear ho
          obtain ⟨t, ad3, cap3, ht, rfl, rfl, hc3, hm3, hb3⟩ := hrel
          by_cases htl : t < j
          · have ht1 : t < l.length := by omega
            obtain ⟨bl, off, rfl, hcell⟩ := HR.out t ht1
            have cw := hg0.cell hcell
            have hn := HQ.out t ht1
            have hcd := HCD.out t ht1 htl
            have HW := Lib.hid (wrap_sgn l[t] hn)
            have HGP := Lib.hid (get_put l[t] (putF (foldF (sgn l[t])) ++ catF ((l.take j).drop (t + 1))) hn)
            have HS := sgn_bounds l[t] hn
            have HGS := Lib.hid (get_put (foldF (sgn l[t])) (catF ((l.take j).drop (t + 1))) (foldF_lt _ HS.1 HS.2))
            have HU := Lib.hid (unfold_fold (sgn l[t]))
            have hlen := putN_len 9 l[t]
            have hlen2 := putN_len 9 (foldF (sgn l[t]))
            change (putF l[t]).length ≤ 10 ∧ 1 ≤ (putF l[t]).length at hlen
            change (putF (foldF (sgn l[t]))).length ≤ 10 ∧ 1 ≤ (putF (foldF (sgn l[t]))).length at hlen2
            rw [hcd] at hc3 hb3
            rw [hcd]
            generalize l[t] = n at *
            generalize sgn n = z at *
            generalize putF n = p at *
            generalize putF (foldF z) = q at *
            generalize hrr : catF ((l.take j).drop (t + 1)) = r at *
            have HRR := Lib.hid hrr; clear hrr
            clear hcd
            obtain ⟨L, hL⟩ : ∃ L, L = p ++ (q ++ r) := ⟨_, rfl⟩
            rw [← hL] at hc3 hb3 HGP
            rw [← hL]
            have hLl : L.length = p.length + (q.length + r.length) := by rw [hL]; simp
            have hLd : L.drop p.length = q ++ r := by rw [hL, List.drop_left]
            have hr4 : (q ++ r).drop q.length = r := List.drop_left
            have HL := Lib.hid hL
            have HLL := Lib.hid hLl
            obtain ⟨bg, og, rfl⟩ : ∃ bg og, ad3 = some ⟨bg, og, .none⟩ := let ⟨x, y, e, _⟩ := hb3 0 (by omega); ⟨x, y, e⟩
            have hb4 := hb3.drop p.length
            rw [hLd] at hb4
            have hb5 := hb4.drop q.length
            rw [hr4] at hb5
            have b1 : decide ((t : Int) < (l.length : Int)) = true := by simp; omega
            have b2 : decide ((t : Int) < 50) = true := by simp; omega
            have b6 : p.length < cap3 := by omega
            have b3 : p.length ≤ L.length := by omega
            have b4 : L.length ≤ 9223372036854775807 := by omega
            have b5 : t < 50 := by omega
            clear hL hLl hLd hr4
            have HL4 := Lib.hid (show (q ++ r).length = L.length - p.length by have := HLL.out; simp; omega)
            generalize hnp : p.length = np at *
            generalize hnq : q.length = nq at *
            generalize hnr : r.length = nr at *
            have hq1 : L.length - np = nq + nr := by have := HLL.out; omega
            have GS := Lib.hid (fun lenx (hx : (q ++ r).length = lenx) => GetSigned_any (some ⟨bg, og + np, .none⟩) lenx (cap3 - np) (q ++ r) wr hx (by have := HL4.out; omega) hb4)
            rw [HGS.out, HU.out] at GS
            have HQ1 := Lib.hid hq1; clear hq1
            have G := Lib.hid (Get_any (some ⟨bg, og, .none⟩) L.length cap3 L wr rfl (by omega) hb3)
            rw [HGP.out] at G
            have b7 : np + nq ≤ L.length := by have := HLL.out; omega
            have hw := HW.out
            rcases Nat.lt_or_ge (np + nq) cap3 with b8 | b8
            · go_wp2_with (first | (go_at_call 18; (with_reducible refine G.out.mono ?_); rintro e w' ⟨rfl, rfl⟩) | (go_at_call 19; refine (GS.out _ HL4.out).mono ?_; rintro e w' ⟨rfl, rfl⟩))
              go_round
              case rel =>
                have hr6 : L.length - (np + nq) = (catF ((l.take j).drop (t + 1))).length := by have := HLL.out; rw [HRR.out]; omega
                exact ⟨t + 1, _, _, by omega, by go_num, by rw [hr6], by omega, by omega, by rw [HRR.out]; have := hb5; rwa [Nat.add_assoc] at this⟩
              case measure => simp [intOf]; omega
            · have HR0 := Lib.hid (show r = [] from List.eq_nil_of_length_eq_zero (by have := HLL.out; omega))
              go_wp2_with (first | (go_at_call 18; (with_reducible refine G.out.mono ?_); rintro e w' ⟨rfl, rfl⟩) | (go_at_call 19; refine (GS.out _ HL4.out).mono ?_; rintro e w' ⟨rfl, rfl⟩))
              go_round
              case rel =>
                have hz : (catF ((l.take j).drop (t + 1))).length = 0 := by rw [HRR.out, HR0.out]; rfl
                refine ⟨t + 1, _, cap3 - (np + nq), by omega, by go_num, congrArg (fun x => Value.slice _ x _) ?_, by rw [hz]; exact Nat.zero_le _, ?_, by rw [HRR.out, HR0.out]; exact fun i hi => absurd hi (by simp)⟩
                · rw [hz, show L.length - (np + nq) = 0 by omega]
                · omega
              case measure => simp [intOf]; omega
          · obtain rfl : t = j := by omega
            have hz : (catF ((l.take t).drop t)).length = 0 := by
              rw [List.drop_of_length_le (by simp; omega)]; rfl
            simp only [hz]
            clear hc3 hb3 HCD
            have HG := Lib.hid (Get_any ad0 b.length cap0 b wr rfl (by omega) (HB.out.gr hg0))
            have hlt2 := getF_lt b
            generalize hp : getF b = F at *
            obtain ⟨n, k, e⟩ := F
            dsimp only at hlt2 HG
            by_cases he : e = 0
            · subst he
              obtain ⟨hk, hpk⟩ := put_got hp
              have HPK := Lib.hid hpk
              have HPN := Lib.hid hp
              clear hp hpk
              go_wp2_with (go_at_call 18; (with_reducible refine HG.out.mono ?_); rintro e w' ⟨rfl, rfl⟩)
              refine region_any_gr _ [Is (.slice ad3 0 cap3), Is (.int .i64 0), Is (.bool true), Is (.bool true), Is (.int .i64 0), Is (.bool false), Is (.bool false), Is (.int .i64 (k : Int)), Is (.slice ad0 b.length cap0), Is (.int .i64 (b.length : Int)), Is (.bool true), Is (.bool true), Is (.int .u64 (n : Int)), ReadsB (putF n), Is (.string (str (b.take k))), Is (.slice ad0 b.length cap0), Is (.int .i64 (k : Int)), Is (.slice ad0 k cap0), Is (.string (str (b.take k))), Is (.bool true), Is (.bool true), Is (.bool true), Is (.bool true), Is (.bool true)] (by kernel_rfl) (by kernel_rfl) (by kernel_rfl) rfl rfl ⟨Is.stable _, Is.stable _, Is.stable _, Is.stable _, Is.stable _, Is.stable _, Is.stable _, Is.stable _, Is.stable _, Is.stable _, Is.stable _, Is.stable _, Is.stable _, ReadsB.stable _, Is.stable _, Is.stable _, Is.stable _, Is.stable _, Is.stable _, Is.stable _, Is.stable _, Is.stable _, Is.stable _, Is.stable _, trivial⟩ ⟨?s0x1, ?s1x1, ?s2x1, ?s3x1, ?s4x1, ?s5x1, ?s6x1, ?s7x1, ?s8x1, ?s9x1, ?s10x1, ?s11x1, ?s12x1, ?s13x1, ?s14x1, ?s15x1, ?s16x1, ?s17x1, ?s18x1, ?s19x1, ?s20x1, ?s21x1, ?s22x1, ?s23x1, trivial⟩ ?finx1
              case' s0x1 | s1x1 | s2x1 | s3x1 | s4x1 | s5x1 | s6x1 | s7x1 | s8x1 | s9x1 | s10x1 | s11x1 | s12x1 | s13x1 | s14x1 | s15x1 | s16x1 | s17x1 | s18x1 | s19x1 | s20x1 | s21x1 | s22x1 | s23x1 =>
                intro ρ wr hρ hg hK
                simp [readsOf, slotsOf, Op.operands, Call.operands, tmpOf, List.filterMap_cons, List.filterMap_nil, KnownAll, knownOf, srcOf, depsOf, dstOf, Region.binds, nth, Is] at hK
                obtain ⟨hc, hf, hgl⟩ := hρ
                try simp only [wantedBy, dstOf, boolOf, nth, List.getD_cons_zero, List.getD_cons_succ, List.getElem?_cons_zero, List.getElem?_cons_succ, Option.bind_some, if_true, hK, BEq.rfl]
                try go_simp
                first | exact rfl | (rw [if_pos (by omega)]; exact is_here rfl) | (rw [dif_pos (by omega)]; exact is_here rfl) | exact congrArg (Value.int _) (IntWalk.i64_in _ ⟨by omega, by omega⟩) | skip
              case s13x1 => exact any_bytes (Put_any n _ hlt2)
              case s14x1 =>
                rw [HPK.out] at hK
                exact any_str Try.underlying23 Try.underlying5 Try.underlying9 hK.1
              case s18x1 =>
                have hs := run_string (P := Try.prog) Try.underlying23 Try.underlying5 Try.underlying9 (cap := cap0) (len := k) (l := b.take k) (by simp; omega) (((HB.out.gr hg0).gr hg).take k)
                go_simp
                exact rfl
              case finx1 =>
                intro w1 val hg hH
                simp only [Holds, Is, Nat.zero_add, Nat.reduceAdd] at hH
                obtain ⟨h0, h1, h2, h3, h4, h5, h6, h7, h8, h9, h10, h11, h12, ⟨ad13, cap13, h13, hb13⟩, h14, h15, h16, h17, h18, h19, h20, h21, h22, h23, _⟩ := hH
                simp only [List.take_succ_cons, List.take_zero, List.drop_succ_cons, List.drop_zero, putAll, h0, h1, h2, h3, h4, h5, h6, h7, h8, h9, h10, h11, h12, h13, h14, h15, h16, h17, h18, h19, h20, h21, h22, h23, Nat.zero_add, Nat.reduceAdd]
                go_simp
                go_wp2
                go_ret
                exact ⟨rfl, hg0.trans hg⟩
            · have HPN := Lib.hid hp
              clear hp
              have hne : ((e : Int) != 0) = true := by rw [bne_iff_ne]; omega
              go_wp2_with (go_at_call 18; (with_reducible refine HG.out.mono ?_); rintro e w' ⟨rfl, rfl⟩)
              refine region_any_gr _ [Is (.slice ad3 0 cap3), Is (.int .i64 0), Is (.bool true), Is (.bool true), Is (.int .i64 (e : Int)), Is (.bool true), Is (.bool true), Is (undef), Is (undef), Is (undef), Is (undef), Is (undef), Is (undef), Is (undef), Is (undef), Is (undef), Is (undef), Is (undef), Is (undef), Is (undef), Is (undef), Is (.bool true), Is (.bool true), Is (.bool true)] (by kernel_rfl) (by kernel_rfl) (by kernel_rfl) rfl rfl ⟨Is.stable _, Is.stable _, Is.stable _, Is.stable _, Is.stable _, Is.stable _, Is.stable _, Is.stable _, Is.stable _, Is.stable _, Is.stable _, Is.stable _, Is.stable _, Is.stable _, Is.stable _, Is.stable _, Is.stable _, Is.stable _, Is.stable _, Is.stable _, Is.stable _, Is.stable _, Is.stable _, Is.stable _, trivial⟩ ⟨?s0x2, ?s1x2, ?s2x2, ?s3x2, ?s4x2, ?s5x2, ?s6x2, ?s7x2, ?s8x2, ?s9x2, ?s10x2, ?s11x2, ?s12x2, ?s13x2, ?s14x2, ?s15x2, ?s16x2, ?s17x2, ?s18x2, ?s19x2, ?s20x2, ?s21x2, ?s22x2, ?s23x2, trivial⟩ ?finx2
              case' s0x2 | s1x2 | s2x2 | s3x2 | s4x2 | s5x2 | s6x2 | s7x2 | s8x2 | s9x2 | s10x2 | s11x2 | s12x2 | s13x2 | s14x2 | s15x2 | s16x2 | s17x2 | s18x2 | s19x2 | s20x2 | s21x2 | s22x2 | s23x2 =>
                intro ρ wr hρ hg hK
                simp [readsOf, slotsOf, Op.operands, Call.operands, tmpOf, List.filterMap_cons, List.filterMap_nil, KnownAll, knownOf, srcOf, depsOf, dstOf, Region.binds, nth, Is] at hK
                obtain ⟨hc, hf, hgl⟩ := hρ
                try simp only [wantedBy, dstOf, boolOf, nth, List.getD_cons_zero, List.getD_cons_succ, List.getElem?_cons_zero, List.getElem?_cons_succ, Option.bind_some, if_true, hK, BEq.rfl]
                try go_simp
                first | exact rfl | (rw [if_pos (by omega)]; exact is_here rfl) | (rw [dif_pos (by omega)]; exact is_here rfl) | exact congrArg (Value.int _) (IntWalk.i64_in _ ⟨by omega, by omega⟩) | skip
              case finx2 =>
                intro w1 val hg hH
                simp only [Holds, Is, Nat.zero_add, Nat.reduceAdd] at hH
                obtain ⟨h0, h1, h2, h3, h4, h5, h6, h7, h8, h9, h10, h11, h12, h13, h14, h15, h16, h17, h18, h19, h20, h21, h22, h23, _⟩ := hH
                simp only [List.take_succ_cons, List.take_zero, List.drop_succ_cons, List.drop_zero, putAll, h0, h1, h2, h3, h4, h5, h6, h7, h8, h9, h10, h11, h12, h13, h14, h15, h16, h17, h18, h19, h20, h21, h22, h23, Nat.zero_add, Nat.reduceAdd]
                go_simp
                go_wp2
                go_ret
                exact ⟨rfl, hg0.trans hg⟩
      · go_wp2
        go_loop [5, 12, 13, 14, 15, 16, 17, 18] (fun v i _ _ _ _ _ _ => ∃ (t : Nat) (ad : Option Addr) (cap : Nat), t ≤ j ∧ i = .int .i64 (t : Int) ∧ v = .slice ad (catF ((l.take j).drop t)).length cap ∧ (catF ((l.take j).drop t)).length ≤ cap ∧ cap ≤ maxLen ∧ Bytes wr ad (catF ((l.take j).drop t))) (fun _ i _ _ _ _ _ _ => j - (intOf i).toNat)
        case atStart => exact ⟨0, ad, cap, Nat.zero_le _, rfl, rfl, ho.2.1, ho.2.2.1, ho.bytes⟩
        case round =>
          clear ho
          obtain ⟨t, ad3, cap3, ht, rfl, rfl, hc3, hm3, hb3⟩ := hrel
          by_cases htl : t < j
          · have ht1 : t < l.length := by omega
            obtain ⟨bl, off, rfl, hcell⟩ := HR.out t ht1
            have cw := hg0.cell hcell
            have hn := HQ.out t ht1
            have hcd := HCD.out t ht1 htl
            have HW := Lib.hid (wrap_sgn l[t] hn)
            have HGP := Lib.hid (get_put l[t] (putF (foldF (sgn l[t])) ++ catF ((l.take j).drop (t + 1))) hn)
            have HS := sgn_bounds l[t] hn
            have HGS := Lib.hid (get_put (foldF (sgn l[t])) (catF ((l.take j).drop (t + 1))) (foldF_lt _ HS.1 HS.2))
            have HU := Lib.hid (unfold_fold (sgn l[t]))
            have hlen := putN_len 9 l[t]
            have hlen2 := putN_len 9 (foldF (sgn l[t]))
            change (putF l[t]).length ≤ 10 ∧ 1 ≤ (putF l[t]).length at hlen
            change (putF (foldF (sgn l[t]))).length ≤ 10 ∧ 1 ≤ (putF (foldF (sgn l[t]))).length at hlen2
            rw [hcd] at hc3 hb3
            rw [hcd]
            generalize l[t] = n at *
            generalize sgn n = z at *
            generalize putF n = p at *
            generalize putF (foldF z) = q at *
            generalize hrr : catF ((l.take j).drop (t + 1)) = r at *
            have HRR := Lib.hid hrr; clear hrr
            clear hcd
            obtain ⟨L, hL⟩ : ∃ L, L = p ++ (q ++ r) := ⟨_, rfl⟩
            rw [← hL] at hc3 hb3 HGP
            rw [← hL]
            have hLl : L.length = p.length + (q.length + r.length) := by rw [hL]; simp
            have hLd : L.drop p.length = q ++ r := by rw [hL, List.drop_left]
            have hr4 : (q ++ r).drop q.length = r := List.drop_left
            have HL := Lib.hid hL
            have HLL := Lib.hid hLl
            obtain ⟨bg, og, rfl⟩ : ∃ bg og, ad3 = some ⟨bg, og, .none⟩ := let ⟨x, y, e, _⟩ := hb3 0 (by omega); ⟨x, y, e⟩
            have hb4 := hb3.drop p.length
            rw [hLd] at hb4
            have hb5 := hb4.drop q.length
            rw [hr4] at hb5
            have b1 : decide ((t : Int) < (l.length : Int)) = true := by simp; omega
            have b2 : decide ((t : Int) < 50) = true := by simp; omega
            have b6 : p.length < cap3 := by omega
            have b3 : p.length ≤ L.length := by omega
            have b4 : L.length ≤ 9223372036854775807 := by omega
            have b5 : t < 50 := by omega
            clear hL hLl hLd hr4
            have HL4 := Lib.hid (show (q ++ r).length = L.length - p.length by have := HLL.out; simp; omega)
            generalize hnp : p.length = np at *
            generalize hnq : q.length = nq at *
            generalize hnr : r.length = nr at *
            have hq1 : L.length - np = nq + nr := by have := HLL.out; omega
            have GS := Lib.hid (fun lenx (hx : (q ++ r).length = lenx) => GetSigned_any (some ⟨bg, og + np, .none⟩) lenx (cap3 - np) (q ++ r) wr hx (by have := HL4.out; omega) hb4)
            rw [HGS.out, HU.out] at GS
            have HQ1 := Lib.hid hq1; clear hq1
            have G := Lib.hid (Get_any (some ⟨bg, og, .none⟩) L.length cap3 L wr rfl (by omega) hb3)
            rw [HGP.out] at G
            have b7 : np + nq ≤ L.length := by have := HLL.out; omega
            have hw := HW.out
            rcases Nat.lt_or_ge (np + nq) cap3 with b8 | b8
            · go_wp2_with (first | (go_at_call 18; (with_reducible refine G.out.mono ?_); rintro e w' ⟨rfl, rfl⟩) | (go_at_call 19; refine (GS.out _ HL4.out).mono ?_; rintro e w' ⟨rfl, rfl⟩))
              go_round
              case rel =>
                have hr6 : L.length - (np + nq) = (catF ((l.take j).drop (t + 1))).length := by have := HLL.out; rw [HRR.out]; omega
                exact ⟨t + 1, _, _, by omega, by go_num, by rw [hr6], by omega, by omega, by rw [HRR.out]; have := hb5; rwa [Nat.add_assoc] at this⟩
              case measure => simp [intOf]; omega
            · have HR0 := Lib.hid (show r = [] from List.eq_nil_of_length_eq_zero (by have := HLL.out; omega))
              go_wp2_with (first | (go_at_call 18; (with_reducible refine G.out.mono ?_); rintro e w' ⟨rfl, rfl⟩) | (go_at_call 19; refine (GS.out _ HL4.out).mono ?_; rintro e w' ⟨rfl, rfl⟩))
              go_round
              case rel =>
                have hz : (catF ((l.take j).drop (t + 1))).length = 0 := by rw [HRR.out, HR0.out]; rfl
                refine ⟨t + 1, _, cap3 - (np + nq), by omega, by go_num, congrArg (fun x => Value.slice _ x _) ?_, by rw [hz]; exact Nat.zero_le _, ?_, by rw [HRR.out, HR0.out]; exact fun i hi => absurd hi (by simp)⟩
                · rw [hz, show L.length - (np + nq) = 0 by omega]
                · omega
              case measure => simp [intOf]; omega
          · obtain rfl : t = j := by omega
            have hz : (catF ((l.take t).drop t)).length = 0 := by
              rw [List.drop_of_length_le (by simp; omega)]; rfl
            simp only [hz]
            clear hc3 hb3 HCD
            have HG := Lib.hid (Get_any ad0 b.length cap0 b wr rfl (by omega) (HB.out.gr hg0))
            have hlt2 := getF_lt b
            generalize hp : getF b = F at *
            obtain ⟨n, k, e⟩ := F
            dsimp only at hlt2 HG
            by_cases he : e = 0
            · subst he
              obtain ⟨hk, hpk⟩ := put_got hp
              have HPK := Lib.hid hpk
              have HPN := Lib.hid hp
              clear hp hpk
              go_wp2_with (go_at_call 18; (with_reducible refine HG.out.mono ?_); rintro e w' ⟨rfl, rfl⟩)
              refine region_any_gr _ [Is (.slice ad3 0 cap3), Is (.int .i64 0), Is (.bool true), Is (.bool true), Is (.int .i64 0), Is (.bool false), Is (.bool false), Is (.int .i64 (k : Int)), Is (.slice ad0 b.length cap0), Is (.int .i64 (b.length : Int)), Is (.bool true), Is (.bool true), Is (.int .u64 (n : Int)), ReadsB (putF n), Is (.string (str (b.take k))), Is (.slice ad0 b.length cap0), Is (.int .i64 (k : Int)), Is (.slice ad0 k cap0), Is (.string (str (b.take k))), Is (.bool true), Is (.bool true), Is (.bool true), Is (.bool true), Is (.bool true)] (by kernel_rfl) (by kernel_rfl) (by kernel_rfl) rfl rfl ⟨Is.stable _, Is.stable _, Is.stable _, Is.stable _, Is.stable _, Is.stable _, Is.stable _, Is.stable _, Is.stable _, Is.stable _, Is.stable _, Is.stable _, Is.stable _, ReadsB.stable _, Is.stable _, Is.stable _, Is.stable _, Is.stable _, Is.stable _, Is.stable _, Is.stable _, Is.stable _, Is.stable _, Is.stable _, trivial⟩ ⟨?s0x3, ?s1x3, ?s2x3, ?s3x3, ?s4x3, ?s5x3, ?s6x3, ?s7x3, ?s8x3, ?s9x3, ?s10x3, ?s11x3, ?s12x3, ?s13x3, ?s14x3, ?s15x3, ?s16x3, ?s17x3, ?s18x3, ?s19x3, ?s20x3, ?s21x3, ?s22x3, ?s23x3, trivial⟩ ?finx3
              case' s0x3 | s1x3 | s2x3 | s3x3 | s4x3 | s5x3 | s6x3 | s7x3 | s8x3 | s9x3 | s10x3 | s11x3 | s12x3 | s13x3 | s14x3 | s15x3 | s16x3 | s17x3 | s18x3 | s19x3 | s20x3 | s21x3 | s22x3 | s23x3 =>
                intro ρ wr hρ hg hK
                simp [readsOf, slotsOf, Op.operands, Call.operands, tmpOf, List.filterMap_cons, List.filterMap_nil, KnownAll, knownOf, srcOf, depsOf, dstOf, Region.binds, nth, Is] at hK
                obtain ⟨hc, hf, hgl⟩ := hρ
                try simp only [wantedBy, dstOf, boolOf, nth, List.getD_cons_zero, List.getD_cons_succ, List.getElem?_cons_zero, List.getElem?_cons_succ, Option.bind_some, if_true, hK, BEq.rfl]
                try go_simp
                first | exact rfl | (rw [if_pos (by omega)]; exact is_here rfl) | (rw [dif_pos (by omega)]; exact is_here rfl) | exact congrArg (Value.int _) (IntWalk.i64_in _ ⟨by omega, by omega⟩) | skip
              case s13x3 => exact any_bytes (Put_any n _ hlt2)
              case s14x3 =>
                rw [HPK.out] at hK
                exact any_str Try.underlying23 Try.underlying5 Try.underlying9 hK.1
              case s18x3 =>
                have hs := run_string (P := Try.prog) Try.underlying23 Try.underlying5 Try.underlying9 (cap := cap0) (len := k) (l := b.take k) (by simp; omega) (((HB.out.gr hg0).gr hg).take k)
                go_simp
                exact rfl
              case finx3 =>
                intro w1 val hg hH
                simp only [Holds, Is, Nat.zero_add, Nat.reduceAdd] at hH
                obtain ⟨h0, h1, h2, h3, h4, h5, h6, h7, h8, h9, h10, h11, h12, ⟨ad13, cap13, h13, hb13⟩, h14, h15, h16, h17, h18, h19, h20, h21, h22, h23, _⟩ := hH
                simp only [List.take_succ_cons, List.take_zero, List.drop_succ_cons, List.drop_zero, putAll, h0, h1, h2, h3, h4, h5, h6, h7, h8, h9, h10, h11, h12, h13, h14, h15, h16, h17, h18, h19, h20, h21, h22, h23, Nat.zero_add, Nat.reduceAdd]
                go_simp
                go_wp2
                go_ret
                exact ⟨rfl, hg0.trans hg⟩
            · have HPN := Lib.hid hp
              clear hp
              have hne : ((e : Int) != 0) = true := by rw [bne_iff_ne]; omega
              go_wp2_with (go_at_call 18; (with_reducible refine HG.out.mono ?_); rintro e w' ⟨rfl, rfl⟩)
              refine region_any_gr _ [Is (.slice ad3 0 cap3), Is (.int .i64 0), Is (.bool true), Is (.bool true), Is (.int .i64 (e : Int)), Is (.bool true), Is (.bool true), Is (undef), Is (undef), Is (undef), Is (undef), Is (undef), Is (undef), Is (undef), Is (undef), Is (undef), Is (undef), Is (undef), Is (undef), Is (undef), Is (undef), Is (.bool true), Is (.bool true), Is (.bool true)] (by kernel_rfl) (by kernel_rfl) (by kernel_rfl) rfl rfl ⟨Is.stable _, Is.stable _, Is.stable _, Is.stable _, Is.stable _, Is.stable _, Is.stable _, Is.stable _, Is.stable _, Is.stable _, Is.stable _, Is.stable _, Is.stable _, Is.stable _, Is.stable _, Is.stable _, Is.stable _, Is.stable _, Is.stable _, Is.stable _, Is.stable _, Is.stable _, Is.stable _, Is.stable _, trivial⟩ ⟨?s0x4, ?s1x4, ?s2x4, ?s3x4, ?s4x4, ?s5x4, ?s6x4, ?s7x4, ?s8x4, ?s9x4, ?s10x4, ?s11x4, ?s12x4, ?s13x4, ?s14x4, ?s15x4, ?s16x4, ?s17x4, ?s18x4, ?s19x4, ?s20x4, ?s21x4, ?s22x4, ?s23x4, trivial⟩ ?finx4
              case' s0x4 | s1x4 | s2x4 | s3x4 | s4x4 | s5x4 | s6x4 | s7x4 | s8x4 | s9x4 | s10x4 | s11x4 | s12x4 | s13x4 | s14x4 | s15x4 | s16x4 | s17x4 | s18x4 | s19x4 | s20x4 | s21x4 | s22x4 | s23x4 =>
                intro ρ wr hρ hg hK
                simp [readsOf, slotsOf, Op.operands, Call.operands, tmpOf, List.filterMap_cons, List.filterMap_nil, KnownAll, knownOf, srcOf, depsOf, dstOf, Region.binds, nth, Is] at hK
                obtain ⟨hc, hf, hgl⟩ := hρ
                try simp only [wantedBy, dstOf, boolOf, nth, List.getD_cons_zero, List.getD_cons_succ, List.getElem?_cons_zero, List.getElem?_cons_succ, Option.bind_some, if_true, hK, BEq.rfl]
                try go_simp
                first | exact rfl | (rw [if_pos (by omega)]; exact is_here rfl) | (rw [dif_pos (by omega)]; exact is_here rfl) | exact congrArg (Value.int _) (IntWalk.i64_in _ ⟨by omega, by omega⟩) | skip
              case finx4 =>
                intro w1 val hg hH
                simp only [Holds, Is, Nat.zero_add, Nat.reduceAdd] at hH
                obtain ⟨h0, h1, h2, h3, h4, h5, h6, h7, h8, h9, h10, h11, h12, h13, h14, h15, h16, h17, h18, h19, h20, h21, h22, h23, _⟩ := hH
                simp only [List.take_succ_cons, List.take_zero, List.drop_succ_cons, List.drop_zero, putAll, h0, h1, h2, h3, h4, h5, h6, h7, h8, h9, h10, h11, h12, h13, h14, h15, h16, h17, h18, h19, h20, h21, h22, h23, Nat.zero_add, Nat.reduceAdd]
                go_simp
                go_wp2
                go_ret
                exact ⟨rfl, hg0.trans hg⟩
theorem VarintBack_len (l : List Nat) (adl : Option Addr) (capl lenl : Nat) (ad0 : Option Addr) (cap0 len0 : Nat) (b : List UInt8) (w : World) (hll : l.length = lenl) (hc : lenl ≤ capl) (hm : capl ≤ maxLen) (hr : Row w adl (l.map fun (n : Nat) => Value.int .u64 (n : Int))) (hq : ∀ n ∈ l, n < 18446744073709551616)
    (hlb : b.length = len0) (hbl : len0 ≤ cap0) (hbm : cap0 ≤ maxLen) (hb : Bytes w ad0 b) :
    Calls Try.prog 6 #[.slice adl lenl capl, .slice ad0 len0 cap0] w fun e w' => e = .returned (.bool true) ∧ Gr w w' := by
  subst hll; subst hlb
  exact VarintBack_any adl capl l ad0 cap0 b w hc hm hr hq hbl hbm hb
end Go.Proofs.Ytmbjihjcblklmaa
