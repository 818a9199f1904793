/- Layer 1 (region): the reference's Alloc walked. -/
import Derived.Test.YtfnimpgphagnfaaTillFree
import Derived.Test.YtfnimpgphagnfaaTillFrom
import Derived.Deep.DeepCutAuto
import Derived.Outline
namespace Go.Proofs.Ytfnimpgphagnfaa
set_option linter.unusedVariables false
set_option linter.unusedSimpArgs false
open Go.RowKit
theorem QX.done {w W2 W3 : World} {S S2 : Nat → Prop} {g gh : Nat} {p : PoolF} {O : List Int} {ads adt : Option Addr} {cs ct : Nat} {A : Nat → Option Addr} {C : Nat → Nat} (hx : QX W2 S2 g p O ads cs adt ct A C) (hc : Chg S w W2) (hsub : ∀ j, S2 j → S j ∨ w.heap.size ≤ j) (hg : ∀ j, S2 j → j ≠ gh) (hw : w.heap.size ≤ gh) (k : W2.grownBy W3 (some gh)) : RMoved S g p w W3 S2 :=
  ⟨⟨k.os.trans hc.os, k.tape.trans hc.tape, k.output.trans hc.output, Nat.le_trans hc.size k.size, fun j hj hn => (k.block j (Nat.lt_of_lt_of_le hj hc.size) (fun e => by have := Option.some.inj e; omega)).trans (hc.block j hj hn)⟩, hsub, O, ads, cs, adt, ct, A, C, hx.same (fun j hj => k.block j (hx.lt j hj) (fun e => hg j hj (Option.some.inj e))) k.size⟩
theorem setc4_same {w : World} {g : Nat} {t : TypeId} {a b c d a' b' c' d' : Value} (h : Blk w g t [a, b, c, d]) : Blk ((((w.setCell ⟨g, 0, none⟩ a').setCell ⟨g, 1, none⟩ b').setCell ⟨g, 2, none⟩ c').setCell ⟨g, 3, none⟩ d') g t [a', b', c', d'] :=
  (((h.set_ 0 a').set_ 1 b').set_ 2 c').set_ 3 d'
set_option maxRecDepth 100000 in
set_option maxHeartbeats 4000000 in
theorem rAlloc_bad (w : World) (S : Nat → Prop) (g : Nat) (p : PoolF) (r n a : Int) (h : RPool w S g p) (hp : PoolOk p) (hb : landF p r = none ∨ n < 1 ∨ n > (p.size : Int) ∨ alignOk a = false) :
    Calls Try.prog 26 #[.pointer (some ⟨g, 0, none⟩), .int .i64 r, .int .i64 n, .int .i64 a] w fun e w' => e = .returned (.tuple #[hdv noHd, .int .i64 ((allocF p r n a).2.1 : Int)]) ∧ (allocF p r n a).1 = noHd ∧ (allocF p r n a).2.2 = p ∧ Gr w w' := by
  have HT := Lib.hid (fun w' (k : Gr w w') => there_any w' S g p r (h.gr k))
  have HA := Lib.hid (fun w' => aligned_any a w')
  have GB := Lib.hid (Gr.alloc w (.cells #[.int .i64 0, .int .i64 0, .int .i64 0, .int .i64 0] 61))
  have HB := Lib.hid (Blk.new w 61 #[.int .i64 0, .int .i64 0, .int .i64 0, .int .i64 0])
  unfold hdv noHd
  simp only
  cases hl : landF p r with
  | none =>
    rw [hl] at HT
    have HE := Lib.hid (show allocF p r n a = (noHd, 7, p) by unfold allocF; rw [hl])
    obtain ⟨en, hen⟩ : ∃ en : Int, en = 7 := ⟨_, rfl⟩
    clear h hp hl hb
    go_enter Try.func26, Try.ntmps26
    go_wp2_with (first
      | (go_at_call 39; refine (HT.out _ GB.out).mono ?_; rintro e w1 ⟨rfl, rfl⟩)
      | fail)
    have HEN := Lib.hid hen
    obtain ⟨d0, d1, d2, d3, _⟩ := Blk.four HB.out
    refine bodyPost_ret (v := .tuple #[.agg #[.int .i64 0, .int .i64 0, .int .i64 0, .int .i64 0], .int .i64 en]) (by rw [HEN.out]; simp [results, Try.results26, go_sem, d0, d1, d2, d3]) rfl ?_
    rw [HE.out, HEN.out]
    exact ⟨rfl, rfl, rfl, GB.out⟩
  | some i =>
    rw [hl] at HT
    have hb2 : n < 1 ∨ n > (p.size : Int) ∨ alignOk a = false := by
      rcases hb with h1 | h1
      · rw [hl] at h1; cases h1
      · exact h1
    have HE := Lib.hid (show allocF p r n a = (noHd, 1, p) by unfold allocF; rw [hl]; simp only; rw [if_pos hb2])
    obtain ⟨O, ads, cs, adt, ct, A, C, hx⟩ := h
    obtain ⟨c0, _, _⟩ := (hx.gr GB.out).head
    have hs2 := hp.s2
    obtain ⟨z, hz⟩ : ∃ z, z = p.size := ⟨_, rfl⟩
    rw [← hz] at hs2 c0 hb2
    clear hp hl hx hb hz
    obtain ⟨en, hen⟩ : ∃ en : Int, en = 1 := ⟨_, rfl⟩
    by_cases h1 : n < 1
    · clear hb2
      go_enter Try.func26, Try.ntmps26
      go_wp2_with (first
        | (go_at_call 39; refine (HT.out _ GB.out).mono ?_; rintro e w1 ⟨rfl, rfl⟩)
        | (go_at_call 40; refine (HA.out _).mono ?_; rintro e w1 ⟨rfl, rfl⟩)
        | fail)
      have HEN := Lib.hid hen
      obtain ⟨d0, d1, d2, d3, _⟩ := Blk.four HB.out
      refine bodyPost_ret (v := .tuple #[.agg #[.int .i64 0, .int .i64 0, .int .i64 0, .int .i64 0], .int .i64 en]) (by rw [HEN.out]; simp [results, Try.results26, go_sem, d0, d1, d2, d3]) rfl ?_
      rw [HE.out, HEN.out]
      exact ⟨rfl, rfl, rfl, GB.out⟩
    · by_cases h2 : n > (z : Int)
      · clear hb2
        go_enter Try.func26, Try.ntmps26
        go_wp2_with (first
          | (go_at_call 39; refine (HT.out _ GB.out).mono ?_; rintro e w1 ⟨rfl, rfl⟩)
          | (go_at_call 40; refine (HA.out _).mono ?_; rintro e w1 ⟨rfl, rfl⟩)
          | fail)
        have HEN := Lib.hid hen
        obtain ⟨d0, d1, d2, d3, _⟩ := Blk.four HB.out
        refine bodyPost_ret (v := .tuple #[.agg #[.int .i64 0, .int .i64 0, .int .i64 0, .int .i64 0], .int .i64 en]) (by rw [HEN.out]; simp [results, Try.results26, go_sem, d0, d1, d2, d3]) rfl ?_
        rw [HE.out, HEN.out]
        exact ⟨rfl, rfl, rfl, GB.out⟩
      · have h3 : alignOk a = false := by
          rcases hb2 with h | h | h
          · exact absurd h h1
          · exact absurd h h2
          · exact h
        rw [h3] at HA
        clear hb2 h3
        go_enter Try.func26, Try.ntmps26
        go_wp2_with (first
          | (go_at_call 39; refine (HT.out _ GB.out).mono ?_; rintro e w1 ⟨rfl, rfl⟩)
          | (go_at_call 40; refine (HA.out _).mono ?_; rintro e w1 ⟨rfl, rfl⟩)
          | fail)
        have HEN := Lib.hid hen
        obtain ⟨d0, d1, d2, d3, _⟩ := Blk.four HB.out
        refine bodyPost_ret (v := .tuple #[.agg #[.int .i64 0, .int .i64 0, .int .i64 0, .int .i64 0], .int .i64 en]) (by rw [HEN.out]; simp [results, Try.results26, go_sem, d0, d1, d2, d3]) rfl ?_
        rw [HE.out, HEN.out]
        exact ⟨rfl, rfl, rfl, GB.out⟩
set_option maxRecDepth 100000 in
set_option maxHeartbeats 4000000 in
theorem rAlloc_good (w : World) (S : Nat → Prop) (g : Nat) (p : PoolF) (i nn al : Nat) (h : RPool w S g p) (hp : PoolOk p) (hl : landF p (i : Int) = some i) (hi : i < 256) (h1 : 1 ≤ nn) (h2 : nn ≤ p.size) (ha : alignOk (al : Int) = true) :
    Calls Try.prog 26 #[.pointer (some ⟨g, 0, none⟩), .int .i64 (i : Int), .int .i64 (nn : Int), .int .i64 (al : Int)] w fun e w' => e = .returned (.tuple #[hdv (allocF p i nn al).1, .int .i64 ((allocF p i nn al).2.1 : Int)]) ∧ ∃ S', RMoved S g (allocF p i nn al).2.2 w w' S' := by
  have HT := Lib.hid (fun w' (k : Gr w w') => there_any w' S g p i (h.gr k))
  rw [hl] at HT
  have HA := Lib.hid (fun w' => aligned_any al w')
  rw [ha] at HA
  have GB := Lib.hid (Gr.alloc w (.cells #[.int .i64 0, .int .i64 0, .int .i64 0, .int .i64 0] 61))
  have HB := Lib.hid (Blk.new w 61 #[.int .i64 0, .int .i64 0, .int .i64 0, .int .i64 0])
  have har := alignOk_range ha
  have ha1 : 1 ≤ al := by omega
  have ha2 : al ≤ 64 := by omega
  obtain ⟨T, t1, t2, t3, t4, t50⟩ := from_end hp hi ha1
  have t5 := t50 nn h1
  clear t50
  have hae : allocF p i nn al = if (landAt p i).slabs.length * p.size ≤ T ∨ p.size < T % p.size + nn then (match idleF p with
        | none => (noHd, 5, p)
        | some s => (⟨(i : Int), ((landAt p i).gen : Int), (((landAt p i).slabs.length * p.size : Nat) : Int), (nn : Int)⟩, 0, fillAt (growAt p i s) i ((landAt p i).slabs.length * p.size + nn)))
      else (⟨(i : Int), ((landAt p i).gen : Int), (T : Int), (nn : Int)⟩, 0, fillAt p i (T + nn)) := by
    unfold allocF
    rw [hl]
    simp only
    rw [if_neg (by rw [ha]; simp; omega)]
    simp only [Int.toNat_natCast]
    by_cases hc : (landAt p i).slabs.length * p.size ≤ T ∨ p.size < T % p.size + nn
    · rw [if_pos (t5.1.2 hc), if_pos hc]
      cases idleF p <;> rfl
    · rw [if_neg (fun e => hc (t5.1.1 e)), if_neg hc, t5.2 hc]
  have HAE := Lib.hid hae
  have HT2 := Lib.hid t2
  have HT3 := Lib.hid t3
  have hcap := (hp.ld i hi).cap hp
  have hs1 := hp.s1
  have hs2 := hp.s2
  have hlen := Nat.le_trans (hp.ld i hi).len hp.n2
  have HOK := Lib.hid hp
  have HPO := Lib.hid h
  obtain ⟨O, ads, cs, adt, ct, A, C, hx⟩ := h
  have HX := Lib.hid (hx.gr GB.out)
  obtain ⟨z, hz⟩ : ∃ z, z = p.size := ⟨_, rfl⟩
  obtain ⟨F, hF⟩ : ∃ F, F = (landAt p i).fill := ⟨_, rfl⟩
  obtain ⟨m, hm⟩ : ∃ m, m = (landAt p i).slabs.length * p.size := ⟨_, rfl⟩
  obtain ⟨ln, hln⟩ : ∃ ln, ln = (landAt p i).slabs.length := ⟨_, rfl⟩
  have hmi : (ln : Int) * (z : Int) = (m : Int) := by rw [hm, hln, hz]; simp
  rw [← hm] at hcap t4
  rw [← hz] at hs1 hs2 h2
  rw [← hF] at t1
  rw [← hln] at hlen
  obtain ⟨c0, _, _⟩ := HX.out.head
  obtain ⟨_, l1, l2, l3⟩ := HX.out.lcell hi
  rw [← hz] at c0
  rw [← hF] at l3
  rw [← hln] at l2
  rw [← hz, ← hF] at HT2
  rw [← hz] at HT3
  have HZ := Lib.hid hz
  have HM := Lib.hid hm
  have HLN := Lib.hid hln
  clear hx hp hl ha t2 t3 t5 hae hz hF hm hln har
  have hT9 : T ≤ 268435456 := by omega
  have hiI : (i : Int) < 256 := by omega
  go_enter Try.func26, Try.ntmps26
  go_wp2_with (first
    | (go_at_call 39; refine (HT.out _ GB.out).mono ?_; rintro e w1 ⟨rfl, rfl⟩)
    | (go_at_call 40; refine (HA.out _).mono ?_; rintro e w1 ⟨rfl, rfl⟩)
    | fail)
  obtain ⟨gh, hgh⟩ : ∃ gh, gh = w.heap.size := ⟨_, rfl⟩
  obtain ⟨W0, hW0⟩ : ∃ W0, W0 = w.alloc (.cells #[.int .i64 0, .int .i64 0, .int .i64 0, .int .i64 0] 61) := ⟨_, rfl⟩
  rw [← hW0] at c0 l1 l2 l3 HX HB GB ⊢
  rw [← hgh] at HB ⊢
  have hghw : w.heap.size ≤ gh := by omega
  clear hW0
  have HSh := Lib.hid (show ∀ j, S j → j ≠ gh from fun j hj e => by have := HPO.out.lt j hj; omega)
  clear hgh
  go_loopw [11] (fun v wr => ∃ y : Nat, F ≤ y ∧ y ≤ T ∧ v = .int .i64 (y : Int) ∧ wr = W0) (fun v _ => T - (intOf v).toNat)
  case atStart => exact ⟨F, Nat.le_refl _, t1, rfl, rfl⟩
  case round =>
    obtain ⟨y, hy1, hy2, rfl, rfl⟩ := hrel
    obtain ⟨ym, hym⟩ : ∃ ym, ym = y % z := ⟨_, rfl⟩
    have e1 : (y : Int).tmod (z : Int) = (ym : Int) := by rw [hym]; rfl
    obtain ⟨yk, hyk⟩ : ∃ yk, yk = ym % al := ⟨_, rfl⟩
    have e2 : (ym : Int).tmod (al : Int) = (yk : Int) := by rw [hyk]; rfl
    have hym9 : ym ≤ 65536 := by rw [hym]; have := Nat.mod_lt y (show 0 < z by omega); omega
    have hyk9 : yk ≤ 64 := by rw [hyk]; have := Nat.mod_lt ym (show 0 < al by omega); omega
    by_cases hyT : y < T
    · have hne : yk ≠ 0 := by rw [hyk, hym]; exact HT2.out y hy1 hyT
      have hneb : ((yk : Int) != 0) = true := by rw [bne_iff_ne]; omega
      clear hym hyk hne
      go_wp2
      go_roundw
      case rel => exact ⟨y + 1, by omega, hyT, by go_num, by first | rfl | trivial⟩
      case measure => simp [intOf]; omega
    · obtain rfl : y = T := by omega
      have heq : yk = 0 := by rw [hyk, hym]; exact HT3.out
      subst heq
      clear hyk
      have HYM := Lib.hid hym
      clear hym HT2 HT3 hyT hy1 hy2
      go_wp2
      have hnw : IntKind.i64.wrap ((ym : Int) + (nn : Int)) = (ym : Int) + (nn : Int) := by rw [IntKind.wrap_i64]; omega
      by_cases hG : m ≤ y
      · have d1 : decide ((m : Int) ≤ (y : Int)) = true := decide_eq_true (by omega)
        have hae := HAE.out
        rw [← HM.out, ← HZ.out, ← HYM.out, if_pos (by omega)] at hae
        cases hid : idleF p with
        | none =>
          rw [hid] at hae
          simp only at hae
          have HAE := Lib.hid hae
          have HII := Lib.hid (show idleI p = -1 by unfold idleI; rw [hid])
          clear hae hid
          go_quiet (fail)
          have X1 := HX.out.gr (Gr.drewN wr nq)
          have B1 := HB.out.gr (Gr.drewN wr nq)
          have C1 := (GB.out.trans (Gr.drewN wr nq)).chg (S := S)
          have HI := Lib.hid (rIdle_any _ S g p ⟨_, _, _, _, _, _, _, X1⟩ HOK.out)
          rw [HII.out] at HI
          obtain ⟨q0, q1, q2, q3, q4, q5, q6, q7⟩ := Blk.four B1
          have HB3 := Lib.hid (setc4_same (a' := .int .i64 0) (b' := .int .i64 0) (c' := .int .i64 0) (d' := .int .i64 0) B1)
          have k4 := grown_set4b (wr.drewN nq) gh 0 (.int .i64 0) (.int .i64 0) (.int .i64 0) (.int .i64 0)
          simp only [Nat.zero_add] at k4
          have HFIN := Lib.hid (X1.done C1 (fun j hj => .inl hj) HSh.out hghw k4)
          clear X1 B1 C1 k4 c0 l1 l2 l3
          generalize wr.drewN nq = W at *
          go_wp2_with (first
            | (go_at_call 24; refine HI.out.mono ?_; rintro e w1 ⟨rfl, rfl⟩)
            | fail)
          obtain ⟨d0, d1, d2, d3, _⟩ := Blk.four HB3.out
          refine bodyPost_ret (v := .tuple #[.agg #[.int .i64 0, .int .i64 0, .int .i64 0, .int .i64 0], .int .i64 5]) (by simp [results, Try.results26, go_sem, d0, d1, d2, d3]) rfl ?_
          rw [HAE.out]
          exact ⟨rfl, S, HFIN.out⟩
        | some s =>
          rw [hid] at hae
          simp only at hae
          obtain ⟨hst, _, _⟩ := idleF_some hid
          have hsb : s < p.bytes.length := by rw [← HOK.out.tk]; exact hst
          have HAE := Lib.hid hae
          have HII := Lib.hid (show idleI p = (s : Int) by unfold idleI; rw [hid])
          have HSN := Lib.hid (And.intro hst hsb)
          have hs9 : s < 4096 := by have := HOK.out.n2; omega
          clear hae hid hst hsb
          go_quiet (fail)
          have X1 := HX.out.gr (Gr.drewN wr nq)
          have B1 := HB.out.gr (Gr.drewN wr nq)
          have C1 := (GB.out.trans (Gr.drewN wr nq)).chg (S := S)
          have HI := Lib.hid (rIdle_any _ S g p ⟨_, _, _, _, _, _, _, X1⟩ HOK.out)
          rw [HII.out] at HI
          have HX1 := Lib.hid X1
          have HB1 := Lib.hid B1
          have HC1 := Lib.hid C1
          obtain ⟨c0, _, _⟩ := X1.head
          obtain ⟨_, l1, l2, l3⟩ := X1.lcell hi
          rw [← HZ.out] at c0
          rw [← HLN.out] at l2
          clear X1 B1 C1 l1 l3 HX HB GB
          generalize wr.drewN nq = W at *
          go_upto_region 13 with (first
            | (go_at_call 24; refine HI.out.mono ?_; rintro e w1 ⟨rfl, rfl⟩)
            | fail)
          go_quiet (fail)
          have G13 := Lib.hid (Gr.drewN W nq)
          have X3 := HX1.out.gr ((Gr.drewN W nq).trans (Gr.alloc _ (.cells #[.int .i64 (s : Int)] 3)))
          have C3 := HC1.out.trans (S' := S) ((((Gr.drewN W nq).trans (Gr.alloc _ (.cells #[.int .i64 (s : Int)] 3)))).chg (S := S)) (fun j hj => .inl hj)
          have HB3 := Lib.hid (HB1.out.gr ((Gr.drewN W nq).trans (Gr.alloc _ (.cells #[.int .i64 (s : Int)] 3))))
          have HLO := Lib.hid (X3.land i hi)
          rw [← HLN.out] at HLO
          have HX3 := Lib.hid X3
          have HC3 := Lib.hid C3
          have hm1 : ln + 1 ≤ maxLen := by unfold maxLen; omega
          have hm2 : (ln + 1) * 8 ≤ 140737488355328 := by omega
          obtain ⟨_, _, l2, _⟩ := (HX1.out.gr (Gr.drewN W nq)).lcell hi
          rw [← HLN.out] at l2
          clear X3 C3 HI HX1 HB1 HC1 c0
          generalize W.drewN nq = W at *
          go_upto_region 15 with (first
            | (at_builtin; go_must (refine wp_append elemI rfl _ _ rfl rfl HLO.out rfl (src_cell _ (.int .i64 (s : Int)) _ rfl Try.underlying22 _ (by simp)) hm1 hm2 (Nat.zero_le _) ?_); intro ad5 c5 w5 o5 k5 f5
               have b5 : Blk w5 g 74 _ := HX3.out.blk.grown k5 (fun e => by
                 cases hAi : A i with
                 | none => rw [hAi] at e; cases e
                 | some x => rw [hAi] at e; exact HX3.out.blk.owns_ne (HX3.out.land i hi) (by decide) x hAi (Option.some.inj e).symm)
               have z5 := b5.cell (poolV_land (k := 2) hi (by decide))
               have q5 := b5.frozen (3 + i * 4 + 2)
               have hmv := HX3.out.put_slab (s := s) HOK.out.ln hi k5 (by rw [← HLN.out]; simpa [iv] using o5) f5
               rw [← HLN.out] at hmv
               have HB5 := Lib.hid (HB3.out.grown k5 (fun e => by
                 cases hAi : A i with
                 | none => rw [hAi] at e; cases e
                 | some x => rw [hAi] at e; exact HSh.out _ (HX3.out.sland i x hi hAi) (Option.some.inj e).symm))
               have HMV := Lib.hid hmv
               clear b5 hmv o5 k5 f5)
            | fail)
          clear z5 q5 l2
          obtain ⟨S6, hC6, hsub6, hX6⟩ := HMV.out
          have hB6 := HB5.out.grown (grown_set w5 g (3 + i * 4 + 2) (.slice ad5 (ln + 1) c5)) (fun e => HSh.out g HX3.out.sg (Option.some.inj e).symm)
          have hC6 := HC3.out.trans hC6 (fun j hj => .inl hj)
          have HSUB := Lib.hid (show ∀ j, S6 j → S j ∨ w.heap.size ≤ j from fun j hj => (hsub6 j hj).imp id (fun e => Nat.le_trans HC3.out.size e))
          have HSh6 := Lib.hid (show ∀ j, S6 j → j ≠ gh from fun j hj e => by
            rcases hsub6 j hj with h1 | h1
            · exact HSh.out j h1 e
            · have := HB3.out.lt; omega)
          generalize w5.setCell ⟨g, 3 + i * 4 + 2, none⟩ (.slice ad5 (ln + 1) c5) = W6 at *
          clear hsub6 HMV HB5 HX3 HC3 HB3 HLO G13
          obtain ⟨p6, hp6⟩ : ∃ q, q = setLand p i ⟨(landAt p i).there, (landAt p i).gen, (landAt p i).slabs ++ [s], (landAt p i).fill⟩ := ⟨_, rfl⟩
          rw [← hp6] at hX6
          have htk6 : p6.taken = p.taken := by rw [hp6]; rfl
          have hby6 : p6.bytes = p.bytes := by rw [hp6]; rfl
          have hln6 : p6.lands.length = 256 := by rw [hp6]; show (p.lands.set i _).length = 256; rw [List.length_set]; exact HOK.out.ln
          have hsz6 : p6.size = z := by rw [hp6, HZ.out]; rfl
          have hgn6 : (landAt p6 i).gen = (landAt p i).gen := by rw [hp6, show landAt (setLand p i ⟨(landAt p i).there, (landAt p i).gen, (landAt p i).slabs ++ [s], (landAt p i).fill⟩) i = _ from (landAt_set p i i _ (by rw [HOK.out.ln]; exact hi)).trans (if_pos rfl)]
          have hfin6 : fillAt (setBytes (setTaken p6 s true) s (List.replicate z 0)) i (m + nn) = fillAt (growAt p i s) i (m + nn) := by
            rw [hp6, HZ.out]
            unfold fillAt setBytes setTaken growAt setLand landAt
            simp [List.set_set, HOK.out.ln, hi]
          obtain ⟨bt, hbt, _, zt⟩ := hX6.own.at (ov_get O s (by rw [hX6.ok.1, htk6]; exact HSN.out.1))
          have fzt := hX6.own.unfrozen hbt (show s < p6.taken.length * 1 by rw [htk6]; have := HSN.out.1; omega)
          obtain ⟨_, _, c2⟩ := hX6.head
          rw [hbt] at c2
          have hst6 : s < p6.taken.length := by rw [htk6]; exact HSN.out.1
          have HX7 := Lib.hid (hX6.put_own hbt hst6 (i : Int) true (by simp))
          have HC7 := Lib.hid (hC6.trans (Chg.grown (grown_set W6 bt s (.int .i64 (i : Int))) (hX6.sown _ hbt)) HSUB.out)
          have HB7 := Lib.hid (hB6.grown (grown_set W6 bt s (.int .i64 (i : Int))) (fun e => HSh6.out _ (hX6.sown _ hbt) (Option.some.inj e).symm))
          have HFE := Lib.hid hfin6
          have HGE := Lib.hid hgn6
          have HPE := Lib.hid (And.intro hp6 (And.intro htk6 (And.intro hby6 (And.intro hln6 hsz6))))
          clear hC6 hX6 hB6 hfin6 hgn6 hp6 htk6 hby6 hln6 hsz6
          go_upto_region 16 with (fail)
          clear c2 zt fzt
          generalize W6.setCell ⟨bt, s, none⟩ (.int .i64 (i : Int)) = W7 at *
          have hsb7 : s < (setTaken p6 s true).bytes.length := by rw [show (setTaken p6 s true).bytes = p6.bytes from rfl, HPE.out.2.2.1]; exact HSN.out.2
          obtain ⟨bb, hbb, _, _⟩ := HX7.out.row.at (sv_at hsb7)
          have hsz7 : (setTaken p6 s true).size = z := HPE.out.2.2.2.2
          have hln7 : (setTaken p6 s true).lands.length = 256 := HPE.out.2.2.2.1
          have hgn7 : (landAt (setTaken p6 s true) i).gen = (landAt p i).gen := HGE.out
          obtain ⟨p7, hp7⟩ : ∃ q, q = setTaken p6 s true := ⟨_, rfl⟩
          rw [← hp7] at hsb7 hsz7 hln7 hgn7 HX7 HFE
          have HH7 := Lib.hid (fun w' (k : Gr W7 w') => by
            obtain ⟨c0, c1, _⟩ := (HX7.out.gr k).head
            rw [hsz7] at c0
            rw [hbb] at c1
            exact And.intro c0 c1)
          clear HPE HGE hp7
          refine region_tail_gr 12 _ [Is ?r0, Is ?r1, Is ?r2, Is (.slice (some ⟨bb, 0, none⟩) p7.bytes.length cs), Is ?r4, Is ?r5, Is ?r6, Is ?r7, Is (.int .i64 (z : Int)), ReadsB (List.replicate z 0), Is (.string (str (List.replicate z 0))), Is (.pointer (some ⟨bb, s, none⟩))] (by kernel_rfl) (by kernel_rfl) (by kernel_rfl) (by kernel_rfl) rfl rfl ⟨Is.stable _, Is.stable _, Is.stable _, Is.stable _, Is.stable _, Is.stable _, Is.stable _, Is.stable _, Is.stable _, ReadsB.stable _, Is.stable _, Is.stable _, trivial⟩ ⟨?s0, ?s1, ?s2, ?s3, ?s4, ?s5, ?s6, ?s7, ?s8, ?s9, ?s10, ?s11, trivial⟩ ?fin
          case' s0 | s1 | s2 | s3 | s4 | s5 | s6 | s7 | s8 | s9 | s10 | s11 =>
            intro ρ wr hρ hg hK
            simp [readsOf, slotsOf, Op.operands, Call.operands, tmpOf, List.filterMap_cons, List.filterMap_nil, KnownAll, knownOf, srcOf, depsOf, dstOf, Region.binds, nth, Is] at hK
            obtain ⟨hc, hf, hgl⟩ := hρ
            try simp only [wantedBy, dstOf, boolOf, nth, List.getD_cons_zero, List.getD_cons_succ, List.getElem?_cons_zero, List.getElem?_cons_succ, Option.bind_some, if_true, hK, BEq.rfl]
            try go_simp
            first | exact rfl | (rw [if_pos (by omega)]; exact is_here rfl) | (rw [dif_pos (by omega)]; exact is_here rfl) | exact congrArg (Value.int _) (IntWalk.i64_in _ ⟨by omega, by omega⟩) | skip
          case s3 =>
            obtain ⟨q0, q1⟩ := HH7.out _ hg
            go_simp
            exact rfl
          case s8 =>
            obtain ⟨q0, q1⟩ := HH7.out _ hg
            go_simp
            exact rfl
          case s9 =>
            obtain ⟨w9, r1, r2, r3⟩ := make_slab wr z (by omega) .i64 .i64
            rw [r1]
            refine ⟨r2, some ⟨wr.heap.size, 0, none⟩, z, by rw [List.length_replicate], fun m hm => ⟨_, 0, rfl, ?_⟩⟩
            rw [Nat.zero_add]
            exact r3.cell (bv_get _ m hm)
          case s10 => exact any_str Try.underlying23 Try.underlying5 Try.underlying9 hK
          case fin =>
            intro w1 val hg hH
            simp only [Holds, Is, Nat.zero_add, Nat.reduceAdd] at hH
            obtain ⟨h0, h1, h2, h3, h4, h5, h6, h7, h8, ⟨ad9, cap9, h9, hb9⟩, h10, h11, _⟩ := hH
            simp only [List.take_succ_cons, List.take_zero, List.drop_succ_cons, List.drop_zero, putAll, h0, h1, h2, h3, h4, h5, h6, h7, h8, h9, h10, h11, Nat.zero_add, Nat.reduceAdd]
            have X1 := HX7.out.gr hg
            obtain ⟨bb2, hbb2, _, zb⟩ := X1.row.at (sv_at hsb7)
            obtain rfl : bb = bb2 := by rw [hbb] at hbb2; exact congrArg Addr.block (Option.some.inj hbb2)
            have fzb := X1.row.unfrozen hbb (show s < p7.bytes.length * 1 by omega)
            have HX8 := Lib.hid (X1.put_str hbb hsb7 (List.replicate z 0))
            have HC8 := Lib.hid ((HC7.out.trans (S' := S6) hg.chg HSUB.out).trans (Chg.grown (grown_set w1 bb s (.string (str (List.replicate z 0)))) (X1.srow _ hbb)) HSUB.out)
            have HB8 := Lib.hid ((HB7.out.gr hg).grown (grown_set w1 bb s (.string (str (List.replicate z 0)))) (fun e => HSh6.out _ (X1.srow _ hbb) (Option.some.inj e).symm))
            clear X1 HX7 HC7 HB7 HH7 h9 hb9 hg
            go_upto_region 17 with (fail)
            clear zb fzb
            generalize w1.setCell ⟨bb, s, none⟩ (.string (str (List.replicate z 0))) = W8 at *
            have hln8 : (setBytes p7 s (List.replicate z 0)).lands.length = 256 := hln7
            have hgn8 : (landAt (setBytes p7 s (List.replicate z 0)) i).gen = (landAt p i).gen := hgn7
            obtain ⟨f, hf⟩ : ∃ f, f = m + nn := ⟨_, rfl⟩
            have hfi : (m : Int) + (nn : Int) = (f : Int) := by omega
            have hf9 : f ≤ 268500992 := by omega
            rw [← hf] at HAE HFE
            clear hf
            obtain ⟨p8, hp8⟩ : ∃ q, q = setBytes p7 s (List.replicate z 0) := ⟨_, rfl⟩
            rw [← hp8] at HX8 HFE hln8 hgn8
            obtain ⟨_, _, _, l3⟩ := HX8.out.lcell hi
            have f3 := HX8.out.blk.frozen (3 + i * 4 + 3)
            have X2 := HX8.out.put_fill hln8 hi f
            have kf := grown_set W8 g (3 + i * 4 + 3) (.int .i64 (f : Int))
            have B2 := HB8.out.grown kf (fun e => HSh6.out g X2.sg (Option.some.inj e).symm)
            obtain ⟨_, l1, _, _⟩ := X2.lcell hi
            rw [show (landAt (fillAt p8 i f) i).gen = (landAt p i).gen by rw [landAt_fill hln8 hi f i, if_pos rfl]; exact hgn8] at l1
            have HC2 := Lib.hid (Chg.trans HC8.out (Chg.grown (S := S6) kf X2.sg) HSUB.out)
            have HX2 := Lib.hid X2
            have HB3 := Lib.hid (setc4_same (a' := .int .i64 (i : Int)) (b' := .int .i64 ((landAt p i).gen : Int)) (c' := .int .i64 (m : Int)) (d' := .int .i64 (nn : Int)) B2)
            obtain ⟨q0, q1, q2, q3, q4, q5, q6, q7⟩ := Blk.four B2
            have k4 := grown_set4b (W8.setCell ⟨g, 3 + i * 4 + 3, none⟩ (.int .i64 (f : Int))) gh 0 (.int .i64 (i : Int)) (.int .i64 ((landAt p i).gen : Int)) (.int .i64 (m : Int)) (.int .i64 (nn : Int))
            simp only [Nat.zero_add] at k4
            have HFIN := Lib.hid (HX2.out.done HC2.out HSUB.out HSh6.out hghw k4)
            clear X2 B2 kf k4 HX8 HC8 HB8 hmi
            go_wp2
            obtain ⟨d0, d1, d2, d3, _⟩ := Blk.four HB3.out
            refine bodyPost_ret (v := .tuple #[.agg #[.int .i64 (i : Int), .int .i64 ((landAt p i).gen : Int), .int .i64 (m : Int), .int .i64 (nn : Int)], .int .i64 0]) (by simp [results, Try.results26, go_sem, d0, d1, d2, d3]) rfl ?_
            rw [HAE.out]
            refine ⟨rfl, S6, ?_⟩
            have := HFIN.out
            rw [HFE.out] at this
            exact this
      · have d1 : decide ((m : Int) ≤ (y : Int)) = false := decide_eq_false (by omega)
        by_cases hH : z < ym + nn
        · have d2 : decide ((z : Int) < (ym : Int) + (nn : Int)) = true := decide_eq_true (by omega)
          have hae := HAE.out
          rw [← HM.out, ← HZ.out, ← HYM.out, if_pos (by omega)] at hae
          cases hid : idleF p with
          | none =>
            rw [hid] at hae
            simp only at hae
            have HAE := Lib.hid hae
            have HII := Lib.hid (show idleI p = -1 by unfold idleI; rw [hid])
            clear hae hid
            go_quiet (fail)
            have X1 := HX.out.gr (Gr.drewN wr nq)
            have B1 := HB.out.gr (Gr.drewN wr nq)
            have C1 := (GB.out.trans (Gr.drewN wr nq)).chg (S := S)
            have HI := Lib.hid (rIdle_any _ S g p ⟨_, _, _, _, _, _, _, X1⟩ HOK.out)
            rw [HII.out] at HI
            obtain ⟨q0, q1, q2, q3, q4, q5, q6, q7⟩ := Blk.four B1
            have HB3 := Lib.hid (setc4_same (a' := .int .i64 0) (b' := .int .i64 0) (c' := .int .i64 0) (d' := .int .i64 0) B1)
            have k4 := grown_set4b (wr.drewN nq) gh 0 (.int .i64 0) (.int .i64 0) (.int .i64 0) (.int .i64 0)
            simp only [Nat.zero_add] at k4
            have HFIN := Lib.hid (X1.done C1 (fun j hj => .inl hj) HSh.out hghw k4)
            clear X1 B1 C1 k4 c0 l1 l2 l3
            generalize wr.drewN nq = W at *
            go_wp2_with (first
              | (go_at_call 24; refine HI.out.mono ?_; rintro e w1 ⟨rfl, rfl⟩)
              | fail)
            obtain ⟨d0, d1, d2, d3, _⟩ := Blk.four HB3.out
            refine bodyPost_ret (v := .tuple #[.agg #[.int .i64 0, .int .i64 0, .int .i64 0, .int .i64 0], .int .i64 5]) (by simp [results, Try.results26, go_sem, d0, d1, d2, d3]) rfl ?_
            rw [HAE.out]
            exact ⟨rfl, S, HFIN.out⟩
          | some s =>
            rw [hid] at hae
            simp only at hae
            obtain ⟨hst, _, _⟩ := idleF_some hid
            have hsb : s < p.bytes.length := by rw [← HOK.out.tk]; exact hst
            have HAE := Lib.hid hae
            have HII := Lib.hid (show idleI p = (s : Int) by unfold idleI; rw [hid])
            have HSN := Lib.hid (And.intro hst hsb)
            have hs9 : s < 4096 := by have := HOK.out.n2; omega
            clear hae hid hst hsb
            go_quiet (fail)
            have X1 := HX.out.gr (Gr.drewN wr nq)
            have B1 := HB.out.gr (Gr.drewN wr nq)
            have C1 := (GB.out.trans (Gr.drewN wr nq)).chg (S := S)
            have HI := Lib.hid (rIdle_any _ S g p ⟨_, _, _, _, _, _, _, X1⟩ HOK.out)
            rw [HII.out] at HI
            have HX1 := Lib.hid X1
            have HB1 := Lib.hid B1
            have HC1 := Lib.hid C1
            obtain ⟨c0, _, _⟩ := X1.head
            obtain ⟨_, l1, l2, l3⟩ := X1.lcell hi
            rw [← HZ.out] at c0
            rw [← HLN.out] at l2
            clear X1 B1 C1 l1 l3 HX HB GB
            generalize wr.drewN nq = W at *
            go_upto_region 13 with (first
              | (go_at_call 24; refine HI.out.mono ?_; rintro e w1 ⟨rfl, rfl⟩)
              | fail)
            go_quiet (fail)
            have G13 := Lib.hid (Gr.drewN W nq)
            have X3 := HX1.out.gr ((Gr.drewN W nq).trans (Gr.alloc _ (.cells #[.int .i64 (s : Int)] 3)))
            have C3 := HC1.out.trans (S' := S) ((((Gr.drewN W nq).trans (Gr.alloc _ (.cells #[.int .i64 (s : Int)] 3)))).chg (S := S)) (fun j hj => .inl hj)
            have HB3 := Lib.hid (HB1.out.gr ((Gr.drewN W nq).trans (Gr.alloc _ (.cells #[.int .i64 (s : Int)] 3))))
            have HLO := Lib.hid (X3.land i hi)
            rw [← HLN.out] at HLO
            have HX3 := Lib.hid X3
            have HC3 := Lib.hid C3
            have hm1 : ln + 1 ≤ maxLen := by unfold maxLen; omega
            have hm2 : (ln + 1) * 8 ≤ 140737488355328 := by omega
            obtain ⟨_, _, l2, _⟩ := (HX1.out.gr (Gr.drewN W nq)).lcell hi
            rw [← HLN.out] at l2
            clear X3 C3 HI HX1 HB1 HC1 c0
            generalize W.drewN nq = W at *
            go_upto_region 15 with (first
              | (at_builtin; go_must (refine wp_append elemI rfl _ _ rfl rfl HLO.out rfl (src_cell _ (.int .i64 (s : Int)) _ rfl Try.underlying22 _ (by simp)) hm1 hm2 (Nat.zero_le _) ?_); intro ad5 c5 w5 o5 k5 f5
                 have b5 : Blk w5 g 74 _ := HX3.out.blk.grown k5 (fun e => by
                   cases hAi : A i with
                   | none => rw [hAi] at e; cases e
                   | some x => rw [hAi] at e; exact HX3.out.blk.owns_ne (HX3.out.land i hi) (by decide) x hAi (Option.some.inj e).symm)
                 have z5 := b5.cell (poolV_land (k := 2) hi (by decide))
                 have q5 := b5.frozen (3 + i * 4 + 2)
                 have hmv := HX3.out.put_slab (s := s) HOK.out.ln hi k5 (by rw [← HLN.out]; simpa [iv] using o5) f5
                 rw [← HLN.out] at hmv
                 have HB5 := Lib.hid (HB3.out.grown k5 (fun e => by
                   cases hAi : A i with
                   | none => rw [hAi] at e; cases e
                   | some x => rw [hAi] at e; exact HSh.out _ (HX3.out.sland i x hi hAi) (Option.some.inj e).symm))
                 have HMV := Lib.hid hmv
                 clear b5 hmv o5 k5 f5)
              | fail)
            clear z5 q5 l2
            obtain ⟨S6, hC6, hsub6, hX6⟩ := HMV.out
            have hB6 := HB5.out.grown (grown_set w5 g (3 + i * 4 + 2) (.slice ad5 (ln + 1) c5)) (fun e => HSh.out g HX3.out.sg (Option.some.inj e).symm)
            have hC6 := HC3.out.trans hC6 (fun j hj => .inl hj)
            have HSUB := Lib.hid (show ∀ j, S6 j → S j ∨ w.heap.size ≤ j from fun j hj => (hsub6 j hj).imp id (fun e => Nat.le_trans HC3.out.size e))
            have HSh6 := Lib.hid (show ∀ j, S6 j → j ≠ gh from fun j hj e => by
              rcases hsub6 j hj with h1 | h1
              · exact HSh.out j h1 e
              · have := HB3.out.lt; omega)
            generalize w5.setCell ⟨g, 3 + i * 4 + 2, none⟩ (.slice ad5 (ln + 1) c5) = W6 at *
            clear hsub6 HMV HB5 HX3 HC3 HB3 HLO G13
            obtain ⟨p6, hp6⟩ : ∃ q, q = setLand p i ⟨(landAt p i).there, (landAt p i).gen, (landAt p i).slabs ++ [s], (landAt p i).fill⟩ := ⟨_, rfl⟩
            rw [← hp6] at hX6
            have htk6 : p6.taken = p.taken := by rw [hp6]; rfl
            have hby6 : p6.bytes = p.bytes := by rw [hp6]; rfl
            have hln6 : p6.lands.length = 256 := by rw [hp6]; show (p.lands.set i _).length = 256; rw [List.length_set]; exact HOK.out.ln
            have hsz6 : p6.size = z := by rw [hp6, HZ.out]; rfl
            have hgn6 : (landAt p6 i).gen = (landAt p i).gen := by rw [hp6, show landAt (setLand p i ⟨(landAt p i).there, (landAt p i).gen, (landAt p i).slabs ++ [s], (landAt p i).fill⟩) i = _ from (landAt_set p i i _ (by rw [HOK.out.ln]; exact hi)).trans (if_pos rfl)]
            have hfin6 : fillAt (setBytes (setTaken p6 s true) s (List.replicate z 0)) i (m + nn) = fillAt (growAt p i s) i (m + nn) := by
              rw [hp6, HZ.out]
              unfold fillAt setBytes setTaken growAt setLand landAt
              simp [List.set_set, HOK.out.ln, hi]
            obtain ⟨bt, hbt, _, zt⟩ := hX6.own.at (ov_get O s (by rw [hX6.ok.1, htk6]; exact HSN.out.1))
            have fzt := hX6.own.unfrozen hbt (show s < p6.taken.length * 1 by rw [htk6]; have := HSN.out.1; omega)
            obtain ⟨_, _, c2⟩ := hX6.head
            rw [hbt] at c2
            have hst6 : s < p6.taken.length := by rw [htk6]; exact HSN.out.1
            have HX7 := Lib.hid (hX6.put_own hbt hst6 (i : Int) true (by simp))
            have HC7 := Lib.hid (hC6.trans (Chg.grown (grown_set W6 bt s (.int .i64 (i : Int))) (hX6.sown _ hbt)) HSUB.out)
            have HB7 := Lib.hid (hB6.grown (grown_set W6 bt s (.int .i64 (i : Int))) (fun e => HSh6.out _ (hX6.sown _ hbt) (Option.some.inj e).symm))
            have HFE := Lib.hid hfin6
            have HGE := Lib.hid hgn6
            have HPE := Lib.hid (And.intro hp6 (And.intro htk6 (And.intro hby6 (And.intro hln6 hsz6))))
            clear hC6 hX6 hB6 hfin6 hgn6 hp6 htk6 hby6 hln6 hsz6
            go_upto_region 16 with (fail)
            clear c2 zt fzt
            generalize W6.setCell ⟨bt, s, none⟩ (.int .i64 (i : Int)) = W7 at *
            have hsb7 : s < (setTaken p6 s true).bytes.length := by rw [show (setTaken p6 s true).bytes = p6.bytes from rfl, HPE.out.2.2.1]; exact HSN.out.2
            obtain ⟨bb, hbb, _, _⟩ := HX7.out.row.at (sv_at hsb7)
            have hsz7 : (setTaken p6 s true).size = z := HPE.out.2.2.2.2
            have hln7 : (setTaken p6 s true).lands.length = 256 := HPE.out.2.2.2.1
            have hgn7 : (landAt (setTaken p6 s true) i).gen = (landAt p i).gen := HGE.out
            obtain ⟨p7, hp7⟩ : ∃ q, q = setTaken p6 s true := ⟨_, rfl⟩
            rw [← hp7] at hsb7 hsz7 hln7 hgn7 HX7 HFE
            have HH7 := Lib.hid (fun w' (k : Gr W7 w') => by
              obtain ⟨c0, c1, _⟩ := (HX7.out.gr k).head
              rw [hsz7] at c0
              rw [hbb] at c1
              exact And.intro c0 c1)
            clear HPE HGE hp7
            refine region_tail_gr 12 _ [Is ?r0x1, Is ?r1x1, Is ?r2x1, Is (.slice (some ⟨bb, 0, none⟩) p7.bytes.length cs), Is ?r4x1, Is ?r5x1, Is ?r6x1, Is ?r7x1, Is (.int .i64 (z : Int)), ReadsB (List.replicate z 0), Is (.string (str (List.replicate z 0))), Is (.pointer (some ⟨bb, s, none⟩))] (by kernel_rfl) (by kernel_rfl) (by kernel_rfl) (by kernel_rfl) rfl rfl ⟨Is.stable _, Is.stable _, Is.stable _, Is.stable _, Is.stable _, Is.stable _, Is.stable _, Is.stable _, Is.stable _, ReadsB.stable _, Is.stable _, Is.stable _, trivial⟩ ⟨?s0x1, ?s1x1, ?s2x1, ?s3x1, ?s4x1, ?s5x1, ?s6x1, ?s7x1, ?s8x1, ?s9x1, ?s10x1, ?s11x1, trivial⟩ ?finx1
            case' s0x1 | s1x1 | s2x1 | s3x1 | s4x1 | s5x1 | s6x1 | s7x1 | s8x1 | s9x1 | s10x1 | s11x1 =>
              intro ρ wr hρ hg hK
              simp [readsOf, slotsOf, Op.operands, Call.operands, tmpOf, List.filterMap_cons, List.filterMap_nil, KnownAll, knownOf, srcOf, depsOf, dstOf, Region.binds, nth, Is] at hK
              obtain ⟨hc, hf, hgl⟩ := hρ
              try simp only [wantedBy, dstOf, boolOf, nth, List.getD_cons_zero, List.getD_cons_succ, List.getElem?_cons_zero, List.getElem?_cons_succ, Option.bind_some, if_true, hK, BEq.rfl]
              try go_simp
              first | exact rfl | (rw [if_pos (by omega)]; exact is_here rfl) | (rw [dif_pos (by omega)]; exact is_here rfl) | exact congrArg (Value.int _) (IntWalk.i64_in _ ⟨by omega, by omega⟩) | skip
            case s3x1 =>
              obtain ⟨q0, q1⟩ := HH7.out _ hg
              go_simp
              exact rfl
            case s8x1 =>
              obtain ⟨q0, q1⟩ := HH7.out _ hg
              go_simp
              exact rfl
            case s9x1 =>
              obtain ⟨w9, r1, r2, r3⟩ := make_slab wr z (by omega) .i64 .i64
              rw [r1]
              refine ⟨r2, some ⟨wr.heap.size, 0, none⟩, z, by rw [List.length_replicate], fun m hm => ⟨_, 0, rfl, ?_⟩⟩
              rw [Nat.zero_add]
              exact r3.cell (bv_get _ m hm)
            case s10x1 => exact any_str Try.underlying23 Try.underlying5 Try.underlying9 hK
            case finx1 =>
              intro w1 val hg hH
              simp only [Holds, Is, Nat.zero_add, Nat.reduceAdd] at hH
              obtain ⟨h0, h1, h2, h3, h4, h5, h6, h7, h8, ⟨ad9, cap9, h9, hb9⟩, h10, h11, _⟩ := hH
              simp only [List.take_succ_cons, List.take_zero, List.drop_succ_cons, List.drop_zero, putAll, h0, h1, h2, h3, h4, h5, h6, h7, h8, h9, h10, h11, Nat.zero_add, Nat.reduceAdd]
              have X1 := HX7.out.gr hg
              obtain ⟨bb2, hbb2, _, zb⟩ := X1.row.at (sv_at hsb7)
              obtain rfl : bb = bb2 := by rw [hbb] at hbb2; exact congrArg Addr.block (Option.some.inj hbb2)
              have fzb := X1.row.unfrozen hbb (show s < p7.bytes.length * 1 by omega)
              have HX8 := Lib.hid (X1.put_str hbb hsb7 (List.replicate z 0))
              have HC8 := Lib.hid ((HC7.out.trans (S' := S6) hg.chg HSUB.out).trans (Chg.grown (grown_set w1 bb s (.string (str (List.replicate z 0)))) (X1.srow _ hbb)) HSUB.out)
              have HB8 := Lib.hid ((HB7.out.gr hg).grown (grown_set w1 bb s (.string (str (List.replicate z 0)))) (fun e => HSh6.out _ (X1.srow _ hbb) (Option.some.inj e).symm))
              clear X1 HX7 HC7 HB7 HH7 h9 hb9 hg
              go_upto_region 17 with (fail)
              clear zb fzb
              generalize w1.setCell ⟨bb, s, none⟩ (.string (str (List.replicate z 0))) = W8 at *
              have hln8 : (setBytes p7 s (List.replicate z 0)).lands.length = 256 := hln7
              have hgn8 : (landAt (setBytes p7 s (List.replicate z 0)) i).gen = (landAt p i).gen := hgn7
              obtain ⟨f, hf⟩ : ∃ f, f = m + nn := ⟨_, rfl⟩
              have hfi : (m : Int) + (nn : Int) = (f : Int) := by omega
              have hf9 : f ≤ 268500992 := by omega
              rw [← hf] at HAE HFE
              clear hf
              obtain ⟨p8, hp8⟩ : ∃ q, q = setBytes p7 s (List.replicate z 0) := ⟨_, rfl⟩
              rw [← hp8] at HX8 HFE hln8 hgn8
              obtain ⟨_, _, _, l3⟩ := HX8.out.lcell hi
              have f3 := HX8.out.blk.frozen (3 + i * 4 + 3)
              have X2 := HX8.out.put_fill hln8 hi f
              have kf := grown_set W8 g (3 + i * 4 + 3) (.int .i64 (f : Int))
              have B2 := HB8.out.grown kf (fun e => HSh6.out g X2.sg (Option.some.inj e).symm)
              obtain ⟨_, l1, _, _⟩ := X2.lcell hi
              rw [show (landAt (fillAt p8 i f) i).gen = (landAt p i).gen by rw [landAt_fill hln8 hi f i, if_pos rfl]; exact hgn8] at l1
              have HC2 := Lib.hid (Chg.trans HC8.out (Chg.grown (S := S6) kf X2.sg) HSUB.out)
              have HX2 := Lib.hid X2
              have HB3 := Lib.hid (setc4_same (a' := .int .i64 (i : Int)) (b' := .int .i64 ((landAt p i).gen : Int)) (c' := .int .i64 (m : Int)) (d' := .int .i64 (nn : Int)) B2)
              obtain ⟨q0, q1, q2, q3, q4, q5, q6, q7⟩ := Blk.four B2
              have k4 := grown_set4b (W8.setCell ⟨g, 3 + i * 4 + 3, none⟩ (.int .i64 (f : Int))) gh 0 (.int .i64 (i : Int)) (.int .i64 ((landAt p i).gen : Int)) (.int .i64 (m : Int)) (.int .i64 (nn : Int))
              simp only [Nat.zero_add] at k4
              have HFIN := Lib.hid (HX2.out.done HC2.out HSUB.out HSh6.out hghw k4)
              clear X2 B2 kf k4 HX8 HC8 HB8 hmi
              go_wp2
              obtain ⟨d0, d1, d2, d3, _⟩ := Blk.four HB3.out
              refine bodyPost_ret (v := .tuple #[.agg #[.int .i64 (i : Int), .int .i64 ((landAt p i).gen : Int), .int .i64 (m : Int), .int .i64 (nn : Int)], .int .i64 0]) (by simp [results, Try.results26, go_sem, d0, d1, d2, d3]) rfl ?_
              rw [HAE.out]
              refine ⟨rfl, S6, ?_⟩
              have := HFIN.out
              rw [HFE.out] at this
              exact this
        · have d2 : decide ((z : Int) < (ym : Int) + (nn : Int)) = false := decide_eq_false (by omega)
          have hae := HAE.out
          rw [← HM.out, ← HZ.out, ← HYM.out, if_neg (by omega)] at hae
          have HAE := Lib.hid hae
          clear hae
          obtain ⟨f, hf⟩ : ∃ f, f = y + nn := ⟨_, rfl⟩
          have hfi : (y : Int) + (nn : Int) = (f : Int) := by omega
          rw [← hf] at HAE
          clear hf
          go_quiet (fail)
          have X1 := HX.out.gr (Gr.drewN wr nq)
          have B1 := HB.out.gr (Gr.drewN wr nq)
          have f3 := X1.blk.frozen (3 + i * 4 + 3)
          obtain ⟨_, _, _, l3'⟩ := X1.lcell hi
          have X2 := X1.put_fill HOK.out.ln hi f
          have kf := grown_set (wr.drewN nq) g (3 + i * 4 + 3) (.int .i64 (f : Int))
          have B2 := B1.grown kf (fun e => HSh.out g X1.sg (Option.some.inj e).symm)
          obtain ⟨_, l1', _, _⟩ := X2.lcell hi
          rw [show (landAt (fillAt p i f) i).gen = (landAt p i).gen by rw [landAt_fill HOK.out.ln hi f i, if_pos rfl]] at l1'
          have HC2 := Lib.hid (Chg.trans (GB.out.trans (Gr.drewN wr nq)).chg (Chg.grown (S := S) kf X1.sg) (fun j hj => .inl hj))
          have HX2 := Lib.hid X2
          have HB3 := Lib.hid (setc4_same (a' := .int .i64 (i : Int)) (b' := .int .i64 ((landAt p i).gen : Int)) (c' := .int .i64 (y : Int)) (d' := .int .i64 (nn : Int)) B2)
          obtain ⟨q0, q1, q2, q3, q4, q5, q6, q7⟩ := Blk.four B2
          have k4 := grown_set4b ((wr.drewN nq).setCell ⟨g, 3 + i * 4 + 3, none⟩ (.int .i64 (f : Int))) gh 0 (.int .i64 (i : Int)) (.int .i64 ((landAt p i).gen : Int)) (.int .i64 (y : Int)) (.int .i64 (nn : Int))
          simp only [Nat.zero_add] at k4
          have HFIN := Lib.hid (HX2.out.done HC2.out (fun j hj => .inl hj) HSh.out hghw k4)
          clear X1 X2 B1 B2 kf k4 c0 l1 l2 l3
          generalize wr.drewN nq = W at *
          go_wp2
          obtain ⟨d0, d1, d2, d3, _⟩ := Blk.four HB3.out
          refine bodyPost_ret (v := .tuple #[.agg #[.int .i64 (i : Int), .int .i64 ((landAt p i).gen : Int), .int .i64 (y : Int), .int .i64 (nn : Int)], .int .i64 0]) (by simp [results, Try.results26, go_sem, d0, d1, d2, d3]) rfl ?_
          rw [HAE.out]
          exact ⟨rfl, S, HFIN.out⟩
end Go.Proofs.Ytfnimpgphagnfaa
