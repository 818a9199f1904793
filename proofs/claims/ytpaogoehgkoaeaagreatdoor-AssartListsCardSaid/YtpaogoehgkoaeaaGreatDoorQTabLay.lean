/- Layer 14 (table): lay walked. -/
import Derived.Test.YtpaogoehgkoaeaaGreatDoorQTabKeys
import Derived.Test.YtpaogoehgkoaeaaGreatDoorQBunB2
import Derived.Test.YtpaogoehgkoaeaaGreatDoorQBunB0
import Derived.Test.YtpaogoehgkoaeaaGreatDoorQBunB3
import Derived.Deep.DeepCutAuto
import Derived.Outline
namespace Go.Proofs.YtpaogoehgkoaeaaGreatDoor
set_option linter.unusedVariables false
set_option linter.unusedSimpArgs false
open Go.RowKit Tab
theorem body_snoc {L : List (List Ci)} {i : Nat} (hi : i < L.length) : bodyF (L.take (i + 1)) = bodyF (L.take i) ++ partB (runB L[i]) := by
  have h : ∀ (A : List (List Ci)) (r : List Ci), bodyF (A ++ [r]) = bodyF A ++ partB (runB r) := by
    intro A r
    induction A with
    | nil => simp [bodyF]
    | cons a A ih => rw [List.cons_append, bodyF, bodyF, ih, List.append_assoc]
  rw [List.take_add_one, List.getElem?_eq_getElem hi]
  exact h _ _
theorem body_le (L : List (List Ci)) (i : Nat) : (bodyF (L.take i)).length ≤ (bodyF L).length := by
  have h : ∀ (A B : List (List Ci)), bodyF (A ++ B) = bodyF A ++ bodyF B := by
    intro A B
    induction A with
    | nil => rfl
    | cons a A ih => rw [List.cons_append, bodyF, bodyF, ih, List.append_assoc]
  have e := h (L.take i) (L.drop i)
  rw [List.take_append_drop] at e
  rw [e, List.length_append]
  omega
theorem getD_get {α : Type} {L : List α} {i : Nat} (d : α) (hi : i < L.length) : L.getD i d = L[i] := by rw [List.getD_eq_getElem?_getD, List.getElem?_eq_getElem hi]; rfl
/-- a slice of one pair, made since -/
def OneG (K V : List UInt8) : Value → World → Prop := fun v w => ∃ g, v = .slice (some ⟨g, 0, none⟩) 1 1 ∧ Row w (some ⟨g, 0, none⟩) [.string (str K), .string (str V)]
theorem OneG.stable (K V : List UInt8) : Stable Gr (OneG K V) := fun _ _ _ ⟨g, e, h⟩ k => ⟨g, e, h.gr k⟩
theorem OneG.src {u e' : TypeId} {K V : List UInt8} {v : Value} {w : World} (h : OneG K V v w) (hu : Tryz.prog.underlying u = some (.slice e')) : Src Tryz.prog u w 2 v 1 [.string (str K), .string (str V)] := by
  obtain ⟨g, rfl, hr⟩ := h
  refine ⟨rfl, fun v hv => ?_, .inl ⟨_, _, e', rfl, hr, hu⟩⟩
  simp only [List.mem_cons, List.not_mem_nil, or_false] at hv
  rcases hv with h | h <;> rw [h] <;> rfl
set_option maxRecDepth 100000 in
theorem field_pair0 (K V : List UInt8) (w : World) : (Instr.field 105 (.agg #[.string (str K), .string (str V)]) 0).run Tryz.prog w = .ok (.string (str K)) w := by kernel_rfl
theorem wp_field {w : World} {ops : Array Oper} {rest : List Oper} {o : Oper} {a : Act} {Q : Exit → Act → World → Prop} (hg : o.guard = none) (T : TypeId) (x : Operand) (i : Nat) (ho : o.op = .field T x i) {u v : Value} (hx : a.eval x = u) (hv : (Instr.field T u i).run Tryz.prog w = .ok v w)
    (h : wpList Tryz.prog ops Q rest (a.put o.dst v) w) : wpList Tryz.prog ops Q (o :: rest) a w := by
  refine wpList_plain hg fun K hK => ?_
  unfold Oper.wp
  simp only [execOp, ho, hx, Sem.run_bind, Sem.run_pure, hv, Result.andThen_ok]
  exact hK _ _ h
theorem one_srcg {u e' : TypeId} (w : World) (K V : List UInt8) (e : TypeId) (hu : Tryz.prog.underlying u = some (.slice e')) (gb : Nat) (hgb : gb = w.heap.size) : Src Tryz.prog u (w.alloc (.cells #[.string (str K), .string (str V)] e)) 2 (.slice (some ⟨gb, 0, none⟩) 1 1) 1 [.string (str K), .string (str V)] := by
  subst hgb
  refine ⟨rfl, fun v hv => ?_, .inl ⟨_, _, e', rfl, ?_, hu⟩⟩
  · simp only [List.mem_cons, List.not_mem_nil, or_false] at hv
    rcases hv with h | h <;> rw [h] <;> rfl
  · exact Row.alloc w #[.string (str K), .string (str V)] e (0, 0) _ rfl
/-- while the blocks are laid -/
structure LyI (w : World) (L : List (List Ci)) (i : Nat) (adb : Option Addr) (cb : Nat) (adx : Option Addr) (cx : Nat) (wr : World) : Prop where
  gr : Gr w wr
  b : Owns wr w.heap.size 5 1 adb cb (bodyF (L.take i)).length (bv (bodyF (L.take i)))
  x : Owns wr w.heap.size 105 2 adx cx i (pv ((List.range i).map (idxAt L)))
def footN (N : List Nat) (j : Nat) : List UInt8 := (N.take j).flatMap (Varint.bytesN 4)
theorem footN_succ {N : List Nat} {j : Nat} (h : j < N.length) : footN N (j + 1) = footN N j ++ Varint.bytesN 4 N[j] := by
  unfold footN
  rw [List.take_add_one, List.getElem?_eq_getElem h, List.flatMap_append]
  simp
theorem footN_len (N : List Nat) : ∀ j, (footN N j).length ≤ 4 * j
  | 0 => by simp [footN]
  | j + 1 => by
    by_cases h : j < N.length
    · rw [footN_succ h, List.length_append, Varint.bytesN_len]
      have := footN_len N j
      omega
    · have e : footN N (j + 1) = footN N j := by unfold footN; rw [List.take_of_length_le (by omega), List.take_of_length_le (by omega)]
      rw [e]
      have := footN_len N j
      omega
theorem lay_foot (L : List (List Ci)) (f : List UInt8) : bodyF L ++ partB f ++ partB (idxB L) ++ footN [(bodyF L).length, f.length, (bodyF L).length + (partB f).length, (idxB L).length, L.flatten.length, 2055969965] 6 = layF L f := by
  unfold layF footF footN
  simp
/-- while the foot is laid -/
structure FtI (w : World) (D : List UInt8) (N : List Nat) (bz j : Nat) (ad : Option Addr) (c : Nat) (Y : List UInt8) (wr : World) : Prop where
  eq : Y = D ++ footN N j
  gr : Gr w wr
  b : Owns wr w.heap.size 5 1 ad c Y.length (bv Y)
  z : Blk wr bz 3 (N.map fun (n : Nat) => .int .i64 (n : Int))
set_option maxRecDepth 100000 in
set_option maxHeartbeats 4000000 in
theorem lay_any (ad : Option Addr) (cap : Nat) (L : List (List Ci)) (vs : List Value) (adf : Option Addr) (cf : Nat) (f : List UInt8) (w : World) (hr : Row w ad vs) (hs : SlsOf L vs w) (hne : ∀ r ∈ L, r ≠ []) (hlen : ∀ r ∈ L, r.length ≤ 5000) (hL : L.length ≤ 5000) (hfl : L.flatten.length ≤ 5000)
    (hk : ∀ r ∈ L, ∀ c ∈ r, (pairC c).1.length ≤ 1000) (hf : Bytes w adf f) (hsz : (layF L f).length ≤ 1000000000) :
    Calls Tryz.prog 44 #[.slice ad L.length cap, .slice adf f.length cf] w (RetB 5 w (layF L f)) := by
  have hbl : (bodyF L).length ≤ 1000000000 := by
    unfold layF at hsz
    rw [List.length_append] at hsz
    omega
  have HR := Lib.hid hr; have HS := Lib.hid hs; have HNE := Lib.hid hne; have HLN := Lib.hid hlen; have HKL := Lib.hid hk; have HF := Lib.hid hf; have HSZ := Lib.hid hsz; have HFL := Lib.hid hfl
  have HI0 := Lib.hid (show LyI w L 0 none 0 none 0 w from ⟨Gr.refl _, Owns.empty _ _ _ _, Owns.empty _ _ _ _⟩)
  clear hr hs hne hlen hk hf hsz hfl
  go_enter Tryz.func44, Tryz.ntmps44
  go_wp2
  go_loopw [5, 6, 7, 24] (fun vb vx vc vi wr => ∃ (i : Nat) (adb : Option Addr) (cb : Nat) (adx : Option Addr) (cx : Nat), vi = .int .i64 (i : Int) ∧ vb = .slice adb (bodyF (L.take i)).length cb ∧ vx = .slice adx i cx ∧ (∃ cnt : Nat, vc = .int .i64 (cnt : Int) ∧ cnt = (L.take i).flatten.length) ∧ i ≤ L.length ∧ LyI w L i adb cb adx cx wr) (fun _ _ _ vi _ => L.length - (intOf vi).toNat)
  case atStart => exact ⟨0, none, 0, none, 0, rfl, rfl, rfl, ⟨0, rfl, rfl⟩, Nat.zero_le _, HI0.out⟩
  case round =>
    clear HI0
    obtain ⟨i, adb, cb, adx, cx, rfl, rfl, rfl, ⟨cnt, rfl, hcnt⟩, hi, hI⟩ := hrel
    by_cases hlt : i < L.length
    · skip
      --<<loop
      obtain ⟨v, hv, adr, capr, rfl, hrc, hrr⟩ := HS.out.2 i hlt
      obtain ⟨bB, oB, hadB, zB⟩ := (HR.out.gr hI.gr) i _ hv
      subst hadB
      have hmem : L[i] ∈ L := List.getElem_mem hlt
      have hrl := HLN.out _ hmem
      have hrn := HNE.out _ hmem
      have hrk := HKL.out _ hmem
      have HRr := Lib.hid hrr; have HRk := Lib.hid hrk
      have HBs := Lib.hid (body_snoc hlt)
      have hble := body_le L i
      have hble2 := body_le L (i + 1)
      have HFt := Lib.hid (show (L.take (i + 1)).flatten.length = cnt + L[i].length by rw [hcnt]; rw [List.take_add_one, List.getElem?_eq_getElem hlt, List.flatten_append]; simp)
      have hfle : (L.take (i + 1)).flatten.length ≤ L.flatten.length := by
        have e := congrArg (fun x => x.flatten.length) (List.take_append_drop (i + 1) L)
        simp only [List.flatten_append, List.length_append] at e
        omega
      have hcnt9 : cnt ≤ 5000 := by
        have h1 := HFt.out; have h2 := HFL.out
        omega
      have HGD := Lib.hid (getD_get (L := L) [] hlt)
      have HIx := Lib.hid (show (List.range (i + 1)).map (idxAt L) = (List.range i).map (idxAt L) ++ [idxAt L i] by rw [List.range_succ, List.map_append]; rfl)
      have HIA := Lib.hid (show idxAt L i = (if i + 1 < L.length then Ikey.partF (lastK (L.getD i [])) (headK (L.getD (i + 1) [])) else lastK (L.getD i []), Varint.putF (bodyF (L.take i)).length ++ Varint.putF (runB (L.getD i [])).length) from rfl)
      rw [HGD.out] at HIA
      have HI := Lib.hid hI
      clear hI hv hrr hrk hcnt hfle
      generalize hrr0 : L[i] = r at *
      have HL0 := Lib.hid hrr0
      clear hrr0 hmem
      go_wp2
      obtain ⟨W0, hW0⟩ : ∃ x, x = wr := ⟨_, rfl⟩
      subst hW0
      go_loopw [10, 31] (fun vl vk wk => ∃ (k : Nat) (adl : Option Addr) (cl : Nat), vk = .int .i64 (k : Int) ∧ vl = .slice adl k cl ∧ k ≤ r.length ∧ Gr W0 wk ∧ Owns wk W0.heap.size 105 2 adl cl k (pv ((r.take k).map pairC))) (fun _ vk _ => r.length - (intOf vk).toNat)
      case atStart => exact ⟨0, none, 0, rfl, rfl, Nat.zero_le _, Gr.refl _, Owns.empty _ _ _ _⟩
      case round =>
        obtain ⟨k, adl, cl, rfl, rfl, hk, hG, hO⟩ := hrel
        by_cases hkl : k < r.length
        · obtain ⟨bc, oc, hade, e0, e1, e2, e3⟩ := ((HRr.out.gr HI.out.gr).gr hG).ci k hkl
          subst hade
          have HT := Lib.hid (show pv ((r.take (k + 1)).map pairC) = pv ((r.take k).map pairC) ++ [.string (str (pairC r[k]).1), .string (str r[k].val)] by rw [List.take_add_one, List.getElem?_eq_getElem hkl, List.map_append, pv_append]; rfl)
          have HPr := Lib.hid (fun w' => pair_any r[k] w')
          generalize (pairC r[k]).1 = K at HT HPr
          generalize r[k] = c at *
          obtain ⟨ck, cs, cd, cval⟩ := c
          simp only at e0 e1 e2 e3 HT HPr
          have hgs := hG.size
          have HG := Lib.hid hG; have HO := Lib.hid hO
          have m1 : k + 1 ≤ maxLen := by unfold maxLen; omega
          have m2 : (k + 1) * 32 ≤ 140737488355328 := by omega
          clear hG hO
          go_wp2_with (first
            | (go_at_call 93; refine (HPr.out _).mono ?_; rintro e w2 ⟨rfl, g2⟩
               have G3 := Lib.hid (((Gr.alloc wr (.cells #[.string (str ck), .int .i64 cs, .int .i64 cd, .string (str cval)] 56)).trans g2).trans (Gr.alloc _ (.cells #[.string (str K), .string (str cval)] 105))))
            | (at_builtin; go_must (refine wp_append elemP rfl _ _ rfl rfl (HO.out.gr G3.out) rfl (one_srcg _ K cval _ Tryz.underlying79 _ (by simp)) m1 m2 (Nat.le_trans hgs G3.out.size) ?_); intro ad5 c5 w5 o5 k5 f5
               have HO5 := Lib.hid o5; have HK5 := Lib.hid k5
               clear o5 k5 f5)
            | fail)
          go_roundw
          case rel =>
            have G5 := (HG.out.trans G3.out).grown HK5.out (fun k hk => by
              obtain ⟨y, hy, e⟩ := Option.map_eq_some_iff.1 hk
              exact e ▸ (HO.out.lt y hy).1)
            exact ⟨k + 1, ad5, c5, by go_num, rfl, hkl, G5, by rw [HT.out]; exact HO5.out⟩
          case measure => simp [intOf]; omega
        · obtain rfl : k = r.length := by omega
          rw [List.take_length] at hO
          have hrn1 : 1 ≤ r.length := by cases r with | nil => exact absurd rfl hrn | cons => simp
          have hlast : r.length - 1 < (r.map pairC).length := by rw [List.length_map]; omega
          obtain ⟨bl, ol, hadl, q0, _⟩ := hO.row.pair (r.length - 1) hlast
          have hoo : ol = 0 := by
            obtain ⟨b2, e2, _⟩ := hO.at (by exact (pv_get (r.map pairC) 0 (by rw [List.length_map]; omega)).1)
            rw [hadl] at e2; cases e2; rfl
          subst hadl
          have hKl : ((r.map pairC)[r.length - 1]'hlast).1 = lastK r := by
            unfold lastK
            rw [List.getElem_map, List.getLastD_eq_getLast?, List.getLast?_eq_getElem?, List.getElem?_eq_getElem (by omega)]
            rfl
          rw [hKl] at q0
          have HBd := Lib.hid (Build_any (some ⟨bl, ol, none⟩) cl (r.map pairC) 4 wr hO.row (by rw [List.length_map]; omega))
          rw [List.length_map] at HBd
          have hrB : (if Bk.chkF (r.map pairC) 4 = 0 then Bk.buildF (4 : Int).toNat (r.map pairC) else []) = runB r := rfl
          rw [hrB] at HBd
          have HIb := Lib.hid (LyI.mk (L := L) (i := i) (w := w) (HI.out.gr.trans hG) (HI.out.b.gr hG) (HI.out.x.gr hG))
          have HGw := Lib.hid hG
          subst hoo
          rw [Nat.zero_add] at q0
          clear hO hG hKl hrB HRr HI
          generalize Bk.chkF (r.map pairC) 4 = eB at HBd
          have hrBl : (runB r).length + (bodyF (L.take i)).length + 4 ≤ 1000000000 := by
            have := HBs.out
            rw [this] at hble2
            rw [List.length_append, partB_len] at hble2
            omega
          have hi2 : ((r.length : Int) - 1) = ((r.length - 1 : Nat) : Int) := by omega
          go_upto_if 57 with (first
            | (go_at_call 94; go_must (refine HBd.out.mono ?_); rintro e w3 ⟨ads, cs, rfl, o3, g3⟩
               have q1 := g3.cell q0)
            | fail)
          clear q0 q1
          have HIc := Lib.hid (LyI.mk (L := L) (i := i) (w := w) (HIb.out.gr.trans g3) (HIb.out.b.gr g3) (HIb.out.x.gr g3))
          have HOs := Lib.hid o3
          have hfar : ∀ a, ads = some a → some a.block ≠ adb.map (·.block) := fun a ha e => by
            obtain ⟨y, hy, e2⟩ := Option.map_eq_some_iff.1 e.symm
            have h1 := (HIb.out.b.lt y hy).2
            have h2 := (o3.lt a ha).1
            omega
          have HFar := Lib.hid hfar
          have hzB : w3.cell? ⟨bB, oB + i, none⟩ = _ := (HGw.out.trans g3).cell zB
          have HGr3 := Lib.hid (HGw.out.trans g3)
          clear hfar o3 HIb HGw g3 HBd hzB
          go_cut [15] (fun s15 wx => s15 = .string (str (idxAt L i).1) ∧ Gr w3 wx)
          case first =>
            by_cases hnx : i + 1 < L.length
            · obtain ⟨v2, hv2, adn, capn, rfl, hnc, hnr⟩ := HS.out.2 (i + 1) hnx
              obtain ⟨bB2, oB2, e2, zB2⟩ := (HR.out.gr HIc.out.gr) (i + 1) _ hv2
              cases e2
              have hmn : L[i + 1] ∈ L := List.getElem_mem hnx
              have hnn := HNE.out _ hmn
              have hn1 : 0 < L[i + 1].length := by
                cases hc : L[i + 1] with
                | nil => exact absurd hc hnn
                | cons => simp
              obtain ⟨bn, on, hadn, e0, e1, e2, e3⟩ := (hnr.gr HIc.out.gr).ci 0 hn1
              subst hadn
              have HPr := Lib.hid (fun w' => pair_any (L[i + 1][0]) w')
              have HPt := Lib.hid (fun w' => Part_any (lastK r) (pairC (L[i + 1][0])).1 w' (by
                have := HRk.out (r.getLastD zeroC) (by
                  rw [List.getLastD_eq_getLast?, List.getLast?_eq_getElem?, List.getElem?_eq_getElem (by omega)]
                  exact List.getElem_mem _)
                unfold lastK; omega))
              have HK1 := Lib.hid (show (idxAt L i).1 = Ikey.partF (lastK r) (pairC (L[i + 1][0])).1 by
                rw [HIA.out, if_pos hnx, getD_get [] hnx]
                unfold headK
                rw [List.headD_eq_head?_getD, List.head?_eq_getElem?, List.getElem?_eq_getElem hn1]
                rfl)
              rw [Nat.zero_mul, Nat.add_zero] at e0 e1 e2 e3
              generalize (pairC (L[i + 1][0])).1 = K2 at HPr HPt HK1
              generalize L[i + 1][0] = c at *
              obtain ⟨ck, cs2, cd, cval⟩ := c
              simp only at e0 e1 e2 e3 HPr
              generalize L[i + 1].length = nl at *
              clear hnr hv2 hnn hmn hnc
              as_aux_lemma =>
                go_wp2_with (first
                  | (go_at_call 93; refine (HPr.out _).mono ?_; rintro e w4 ⟨rfl, g4⟩)
                  | ((with_reducible show Go.wpList _ _ _ (Oper.mk _ (Op.field _ _ _) _ _ _ _ :: _) _ _); go_must (refine wp_field rfl _ _ _ rfl rfl (field_pair0 K2 cval _) ?_))
                  | (go_at_call 95; go_must (refine (HPt.out _).mono ?_); rintro e w5 ⟨rfl, g5⟩)
                  | fail)
                go_meet
                exact ⟨by rw [HK1.out], g4.trans g5⟩
            · have HK1 := Lib.hid (show (idxAt L i).1 = lastK r by rw [HIA.out, if_neg hnx])
              as_aux_lemma =>
                go_wp2
                go_meet
                exact ⟨by rw [HK1.out], Gr.refl _⟩
          case rest =>
            obtain ⟨rfl, hgc⟩ := hcut
            have HBd := Lib.hid (HIc.out.b.gr hgc)
            have HXd := Lib.hid (HIc.out.x.gr hgc)
            have HGd := Lib.hid (HIc.out.gr.trans hgc)
            have HSd := Lib.hid (HOs.out.gr hgc)
            have HIB := Lib.hid (show (idxAt L i).2 = Varint.putF (bodyF (L.take i)).length ++ Varint.putF (runB r).length by rw [HIA.out])
            have HIP := Lib.hid (show pv [idxAt L i] = [.string (str (idxAt L i).1), .string (str (idxAt L i).2)] from rfl)
            obtain ⟨K, hK⟩ : ∃ K, K = (idxAt L i).1 := ⟨_, rfl⟩
            rw [← hK] at HIP ⊢
            rw [HIB.out] at HIP
            have hws := HGd.out.size
            clear hK HIA HIB HIc HOs hgc HGr3 zB HRk HGD HL0 HS HNE HLN HKL
            generalize bodyF (L.take i) = B at *
            generalize runB r = s at *
            obtain ⟨bl, hbl2⟩ : ∃ bl, bl = B.length := ⟨_, rfl⟩
            obtain ⟨sl, hsl2⟩ : ∃ sl, sl = s.length := ⟨_, rfl⟩
            have hble3 : bl ≤ 1000000000 := by omega
            have hsle3 : sl ≤ 1000000000 := by omega
            have e1 : IntKind.u64.wrap (bl : Int) = (bl : Int) := by rw [IntKind.wrap_u64]; omega
            have e2 : IntKind.u64.wrap (sl : Int) = (sl : Int) := by rw [IntKind.wrap_u64]; omega
            have HP1 := Lib.hid (fun w' => Put_any bl w' (by omega))
            have HP2 := Lib.hid (fun w' => Put_any sl w' (by omega))
            have l1 := (Varint.putN_len 9 bl).1
            have l2 := (Varint.putN_len 9 sl).1
            rw [← hbl2, ← hsl2] at HIP ⊢
            have HBl := Lib.hid hbl2; have HSl := Lib.hid hsl2
            have h1 : (Varint.putF bl).length ≤ 10 := l1
            have h2 : (Varint.putF sl).length ≤ 10 := l2
            have m1 : i + 1 ≤ maxLen := by unfold maxLen; omega
            have m2 : (i + 1) * 32 ≤ 140737488355328 := by omega
            clear hbl2 hsl2 l1 l2
            generalize hp1 : Varint.putF bl = P1 at *
            generalize hp2 : Varint.putF sl = P2 at *
            clear hp1 hp2
            go_upto_region 17 with (fail)
            refine region_tail_gr 15 _ [Is (.slice adx i cx), Is (.string (str K)), Is ?r2, Is (.int .i64 (bl : Int)), Is (.int .u64 (bl : Int)), ReadsB (P1), Is (.string (str P1)), Is ?r7, Is (.int .i64 (sl : Int)), Is (.int .u64 (sl : Int)), ReadsB (P2), Is (.string (str P2)), Is (.string (str (P1 ++ P2))), Is (.agg #[.string (str K), .string (str (P1 ++ P2))]), OneG K (P1 ++ P2)] (by kernel_rfl) (by kernel_rfl) (by kernel_rfl) (by kernel_rfl) rfl rfl ⟨Is.stable _, Is.stable _, Is.stable _, Is.stable _, Is.stable _, ReadsB.stable _, Is.stable _, Is.stable _, Is.stable _, Is.stable _, ReadsB.stable _, Is.stable _, Is.stable _, Is.stable _, OneG.stable _ _, trivial⟩ ⟨?s0, ?s1, ?s2, ?s3, ?s4, ?s5, ?s6, ?s7, ?s8, ?s9, ?s10, ?s11, ?s12, ?s13, ?s14, trivial⟩ ?fin
            case' s0 | s1 | s2 | s3 | s4 | s5 | s6 | s7 | s8 | s9 | s10 | s11 | s12 | s13 | s14 =>
              intro ρ wr hρ hg hK
              simp [readsOf, slotsOf, Op.operands, Call.operands, tmpOf, List.filterMap_cons, List.filterMap_nil, KnownAll, knownOf, srcOf, depsOf, dstOf, Region.binds, nth, Is] at hK
              obtain ⟨hc, hf, hgl⟩ := hρ
              try simp only [wantedBy, dstOf, boolOf, nth, List.getD_cons_zero, List.getD_cons_succ, List.getElem?_cons_zero, List.getElem?_cons_succ, Option.bind_some, if_true, hK, BEq.rfl]
              try go_simp
              first | exact rfl | (rw [if_pos (by omega)]; exact is_here rfl) | (rw [dif_pos (by omega)]; exact is_here rfl) | exact congrArg (Value.int _) (IntWalk.i64_in _ ⟨by omega, by omega⟩) | skip
            case s5 => exact any_bytes (HP1.out wr)
            case s10 => exact any_bytes (HP2.out wr)
            case s6 => exact any_str Tryz.underlying31 Tryz.underlying5 Tryz.underlying9 hK
            case s11 => exact any_str Tryz.underlying31 Tryz.underlying5 Tryz.underlying9 hK
            case s12 =>
              rw [if_neg (by omega)]
              exact is_here rfl
            case s14 =>
              go_simp
              exact ⟨Gr.alloc _ _, _, rfl, Row.alloc wr #[.string (str K), .string (str (P1 ++ P2))] 105 (0, 0) _ rfl⟩
            case fin =>
              intro w1 val hg hH
              simp only [Holds, Is, Nat.zero_add, Nat.reduceAdd] at hH
              obtain ⟨h0, h1, h2, h3, h4, ⟨ad5, cap5, h5, hb5⟩, h6, h7, h8, h9, ⟨ad10, cap10, h10, hb10⟩, h11, h12, h13, h14, _⟩ := hH
              simp only [List.take_succ_cons, List.take_zero, List.drop_succ_cons, List.drop_zero, putAll, h0, h1, h2, h3, h4, h5, h6, h7, h8, h9, h10, h11, h12, h13, Nat.zero_add, Nat.reduceAdd]
              have HBe := Lib.hid (HBd.out.gr hg)
              have HXe := Lib.hid (HXd.out.gr hg)
              have HSe := Lib.hid (HSd.out.gr hg)
              have HGe := Lib.hid (HGd.out.trans hg)
              have hws2 := HGe.out.size
              have HOn := Lib.hid (h14.src Tryz.underlying79)
              clear hg h5 h10 hb5 hb10 HBd HXd HSd HGd HP1 HP2 h14
              rw [HBl.out, HSl.out]
              go_simp
              go_upto_region 19 with (first
                | (at_builtin; go_must (refine wp_append elemP rfl _ _ rfl rfl HXe.out rfl HOn.out m1 m2 hws2 ?_); intro ad5 c5 w5 o5 k5 f5
                   have HB5 := Lib.hid (HBe.out.grown k5 (fun x hx e => by
                     obtain ⟨y, hy, e2⟩ := Option.map_eq_some_iff.1 e.symm
                     exact HBe.out.ne HXe.out (by decide) x y hx hy e2.symm))
                   have HS5 := Lib.hid (HSe.out.grown k5 (fun x hx e => by
                     obtain ⟨y, hy, e2⟩ := Option.map_eq_some_iff.1 e.symm
                     exact HSe.out.ne HXe.out (by decide) x y hx hy e2.symm))
                   have HG5 := Lib.hid (HGe.out.grown k5 (fun k hk => by
                     obtain ⟨y, hy, e⟩ := Option.map_eq_some_iff.1 hk
                     exact e ▸ (HXe.out.lt y hy).1))
                   have HO5 := Lib.hid o5
                   clear o5 k5 f5)
                | (go_at_call 96; go_must (refine (part_any w.heap.size adb cb B ads cs s _ HB5.out HG5.out.size (by omega) (by omega) HS5.out.bytes (fun _ a ha => HFar.out a ha)).mono ?_); rintro e w6 ⟨ad6, c6, rfl, o6, T6⟩)
                | fail)
              have hbx : Owns w6 w.heap.size 105 2 ad5 c5 (i + 1) (pv ((List.range (i + 1)).map (idxAt L))) := by
                rw [HIx.out, pv_append, HIP.out]
                exact HO5.out.grown T6.1 (fun x hx e => by
                  obtain ⟨y, hy, e2⟩ := Option.map_eq_some_iff.1 e.symm
                  exact HO5.out.ne HB5.out (by decide) x y hx hy e2.symm)
              have hgx : Gr w w6 := HG5.out.grown T6.1 (fun k hk => by
                obtain ⟨y, hy, e⟩ := Option.map_eq_some_iff.1 hk
                exact e ▸ (HB5.out.lt y hy).1)
              have HN := Lib.hid (show LyI w L (i + 1) ad6 c6 ad5 c5 w6 from ⟨hgx, by rw [HBs.out]; exact o6, hbx⟩)
              clear hbx hgx o6 T6 HBe HXe HSe HGe HB5 HS5 HG5 HO5
              go_wp2
              go_roundw
              case rel => exact ⟨i + 1, ad6, c6, ad5, c5, by go_num, by rw [HBs.out]; simp, rfl, ⟨cnt + r.length, by go_num, HFt.out.symm⟩, hlt, HN.out⟩
              case measure => simp [intOf]; omega
      -->>loop
    · obtain rfl : i = L.length := by omega
      have hB := hI.b
      rw [List.take_length] at hB hcnt ⊢
      have hxl : (idxF L).length = L.length := by unfold idxF; rw [List.length_map, List.length_range]
      have hx := hI.x
      have HBx := Lib.hid (Build_any adx cx (idxF L) 1 wr hx.row (by omega))
      rw [hxl] at HBx
      rw [show (if Bk.chkF (idxF L) 1 = 0 then Bk.buildF (1 : Int).toNat (idxF L) else []) = idxB L from rfl] at HBx
      have HLF := Lib.hid (lay_foot L f)
      have hszs := HSZ.out
      rw [← HLF.out] at hszs
      simp only [List.length_append, partB_len] at hszs
      have HB := Lib.hid hB
      have HG := Lib.hid hI.gr
      have hcl : cnt ≤ 5000 := by have := HFL.out; omega
      rw [← hcnt] at HLF
      clear hI hx hxl HR HS HNE HLN HKL HSZ HFL hcnt hB
      generalize Bk.chkF (idxF L) 1 = eX at HBx
      generalize bodyF L = B at *
      generalize idxB L = X at *
      have hwg := HG.out.size
      have hf9 : f.length ≤ 1000000000 := by omega
      have hX9 : X.length ≤ 1000000000 := by omega
      obtain ⟨bl, hbl2⟩ : ∃ bl, bl = B.length := ⟨_, rfl⟩
      obtain ⟨e1, he1⟩ : ∃ e1, e1 = B.length + (partB f).length := ⟨_, rfl⟩
      have hpf := partB_len f
      have hpx := partB_len X
      obtain ⟨BF, hBF⟩ : ∃ BF, BF = B ++ partB f := ⟨_, rfl⟩
      have hBFl : BF.length = e1 := by rw [hBF, List.length_append, he1]
      obtain ⟨D, hD⟩ : ∃ D, D = BF ++ partB X := ⟨_, rfl⟩
      have hDl : D.length ≤ 5000000000 := by rw [hD, List.length_append]; omega
      rw [← he1, ← hbl2, ← hBF, ← hD] at HLF
      have HN6 := Lib.hid (show ∀ n ∈ [bl, f.length, e1, X.length, cnt, 2055969965], n < 4294967296 from fun n hn => by
        simp only [List.mem_cons, List.not_mem_nil, or_false] at hn
        rcases hn with h | h | h | h | h | h <;> omega)
      have HP1 := Lib.hid (fun ad c ads cs w' (ho : Owns w' w.heap.size 5 1 ad c B.length (bv B)) (h : w.heap.size ≤ w'.heap.size) (hb : Bytes w' ads f) hfar => part_any w.heap.size ad c B ads cs f w' ho h (by omega) (by omega) hb hfar)
      have HP2 := Lib.hid (fun ad c ads cs w' (ho : Owns w' w.heap.size 5 1 ad c BF.length (bv BF)) (h : w.heap.size ≤ w'.heap.size) (hb : Bytes w' ads X) hfar => part_any w.heap.size ad c BF ads cs X w' ho h (by omega) (by omega) hb hfar)
      rw [← hBF] at HP1
      rw [← hD] at HP2
      have HBl := Lib.hid hbl2
      have HEe := Lib.hid hBFl
      have T1 : RowKit.Hid True := trivial
      clear hszs hD hBF hBFl he1 hbl2 hpf hpx
      rw [HBl.out.symm] at HB HP1 ⊢
      go_upto_region 26 with (first
        | (go_at_call 94; go_must (refine HBx.out.mono ?_); rintro e w3 ⟨ads, cs, rfl, o3, g3⟩
           have HB3 := HB.out.gr g3
           have hf3 := HF.out.gr (HG.out.trans g3)
           have hff : 0 < f.length → ∀ a, adf = some a → some a.block ≠ adb.map (·.block) := fun h0 a ha e => by
             obtain ⟨b0, o0, e0, z0⟩ := HF.out 0 h0
             rw [ha] at e0
             have hlt0 := World.block_lt_of_cell? w _ z0
             obtain ⟨y, hy, e2⟩ := Option.map_eq_some_iff.1 e.symm
             have h1 := (HB.out.lt y hy).1
             have h2 : a.block = b0 := by cases e0; rfl
             simp only at hlt0
             omega)
        | (go_at_call 96; clear T1; go_must (refine (HP1.out _ _ _ _ _ HB3 (Nat.le_trans hwg g3.size) hf3 hff).mono ?_); rintro e w4 ⟨ad4, c4, rfl, o4, T4⟩
           have hxf : 0 < X.length → ∀ a, ads = some a → some a.block ≠ adb.map (·.block) := fun _ a ha e => by
             obtain ⟨y, hy, e2⟩ := Option.map_eq_some_iff.1 e.symm
             have h1 := (HB.out.lt y hy).2
             have h2 := (o3.lt a ha).1
             omega
           have hxb := T4.bytes o3.bytes hxf
           have hxf2 : 0 < X.length → ∀ a, ads = some a → some a.block ≠ ad4.map (·.block) := fun h0 a ha e => by
             obtain ⟨y, hy, e2⟩ := Option.map_eq_some_iff.1 e.symm
             rcases T4.2 y hy with h1 | h1
             · exact hxf h0 a ha (by rw [h1]; exact congrArg some e2.symm)
             · have h2 := (o3.lt a ha).2
               omega)
        | (go_at_call 96; go_must (refine (HP2.out _ _ _ _ _ o4 (Nat.le_trans hwg (Nat.le_trans g3.size T4.1.size)) hxb hxf2).mono ?_); rintro e w5 ⟨ad5, c5, rfl, o5, T5⟩)
        | fail)
      have hg5 : Gr w w5 := ((HG.out.trans g3).grown T4.1 (fun k hk => by
        obtain ⟨y, hy, e⟩ := Option.map_eq_some_iff.1 hk
        exact e ▸ (HB.out.lt y hy).1)).grown T5.1 (fun k hk => by
        obtain ⟨y, hy, e⟩ := Option.map_eq_some_iff.1 hk
        exact e ▸ (o4.lt y hy).1)
      rw [HEe.out]
      have HO5 := Lib.hid o5
      have HG5 := Lib.hid hg5
      clear o3 g3 HB3 hf3 hff o4 T4 hxf hxb hxf2 o5 T5 hg5 HP1 HP2 HBx HB HG
      go_wp2
      have HZ := Lib.hid (Blk.new w5 3 #[.int .i64 (bl : Int), .int .i64 (f.length : Int), .int .i64 (e1 : Int), .int .i64 (X.length : Int), .int .i64 (cnt : Int), .int .i64 2055969965])
      obtain ⟨N, hN⟩ : ∃ N, N = [bl, f.length, e1, X.length, cnt, 2055969965] := ⟨_, rfl⟩
      have hNl : N.length = 6 := by rw [hN]; rfl
      have hNv : (N.map fun (n : Nat) => Value.int .i64 (n : Int)) = #[Value.int .i64 (bl : Int), .int .i64 (f.length : Int), .int .i64 (e1 : Int), .int .i64 (X.length : Int), .int .i64 (cnt : Int), .int .i64 2055969965].toList := by rw [hN]; rfl
      have HFt := Lib.hid (show FtI w D N w5.heap.size 0 ad5 c5 D (w5.alloc (.cells #[.int .i64 (bl : Int), .int .i64 (f.length : Int), .int .i64 (e1 : Int), .int .i64 (X.length : Int), .int .i64 (cnt : Int), .int .i64 2055969965] 3)) from
        ⟨by simp [footN], HG5.out.trans (Gr.alloc _ _), HO5.out.gr (Gr.alloc _ _), by rw [hNv]; exact HZ.out⟩)
      rw [← hN] at HLF HN6
      have HNl := Lib.hid hNl
      have hDl2 := hDl
      clear hN hNv hNl HZ HO5 HG5
      generalize w5.heap.size = bz at *
      go_loopw [5, 117] (fun vb vj wk => ∃ (j : Nat) (Y : List UInt8) (ad : Option Addr) (c : Nat), vj = .int .i64 (j : Int) ∧ vb = .slice ad Y.length c ∧ j ≤ 6 ∧ FtI w D N bz j ad c Y wk) (fun _ vj _ => 6 - (intOf vj).toNat)
      case atStart => exact ⟨0, D, ad5, c5, rfl, rfl, by omega, HFt.out⟩
      case round =>
        clear HFt
        obtain ⟨j, Y, ad6, c6, rfl, rfl, hj, hI⟩ := hrel
        by_cases hj6 : j < 6
        · have hjN : j < N.length := by rw [HNl.out]; exact hj6
          have z := hI.z.cell (i := j) (v := .int .i64 ((N[j] : Nat) : Int)) (by rw [List.getElem?_map, List.getElem?_eq_getElem hjN]; rfl)
          have hYl : Y.length ≤ 70368744177664 := by
            rw [hI.eq, List.length_append]
            have := footN_len N j
            omega
          have HF2 := Lib.hid (tfixed_any w.heap.size ad6 c6 Y (N[j] : Nat) N[j] wr rfl hI.b hI.gr.size (HN6.out _ (List.getElem_mem hjN)) hYl)
          have hYe : Y ++ Varint.bytesN 4 N[j] = D ++ footN N (j + 1) := by rw [hI.eq, footN_succ hjN, List.append_assoc]
          obtain ⟨Y2, hY2⟩ : ∃ Y2, Y2 = Y ++ Varint.bytesN 4 N[j] := ⟨_, rfl⟩
          rw [← hY2] at HF2 hYe
          have HYe := Lib.hid hYe
          have HI := Lib.hid hI
          generalize N[j] = nj at *
          clear hYe hY2 hI
          go_wp2_with (first
            | (go_at_call 97; go_must (refine HF2.out.mono ?_); rintro e w6 ⟨ad7, c7, rfl, o7, T7⟩)
            | fail)
          go_roundw
          case rel =>
            exact ⟨j + 1, Y2, ad7, c7, by go_num, rfl, hj6, ⟨HYe.out, HI.out.gr.grown T7.1 (fun k hk => by
              obtain ⟨y, hy, e⟩ := Option.map_eq_some_iff.1 hk
              exact e ▸ (HI.out.b.lt y hy).1), o7, HI.out.z.grown T7.1 (fun e => by
              obtain ⟨y, hy, e2⟩ := Option.map_eq_some_iff.1 e.symm
              exact HI.out.z.owns_ne HI.out.b (by decide) y hy e2)⟩⟩
          case measure => simp [intOf]; omega
        · obtain rfl : j = 6 := by omega
          have hY : Y = layF L f := by rw [hI.eq]; exact HLF.out
          subst hY
          have HI := Lib.hid hI
          clear hI
          go_wp2
          go_ret
          exact ⟨ad6, c6, rfl, HI.out.b, HI.out.gr⟩
end Go.Proofs.YtpaogoehgkoaeaaGreatDoor
