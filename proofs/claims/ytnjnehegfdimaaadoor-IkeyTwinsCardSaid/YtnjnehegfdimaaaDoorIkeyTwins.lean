/- Layer 5 (ikey): IkeyTwins answers true. -/
import Derived.Test.YtnjnehegfdimaaaDoorIkeyOrders
namespace Go.Proofs.YtnjnehegfdimaaaDoor
set_option linter.unusedVariables false
set_option linter.unusedSimpArgs false
open Go.RowKit Ikey Varint
open Go.Op (bytesLess)
theorem run_str_to {P : Program} {T : TypeId} (hT : P.underlying T = some .string) (l : List UInt8) (m : Nat) (h : m ≤ l.length) (w : World) :
    (Instr.slice T (.string (str l)) none (some (.int .i64 (m : Int))) none).run P w = .ok (.string (str (l.take m))) w := by
  rw [run_slice_string_to_if _ _ _ _ _ hT, str_size, if_pos ⟨by omega, by omega⟩]
  simp [str_extract]
theorem Blk.four {w : World} {g : Nat} {t : TypeId} {a b c d : Value} (h : Blk w g t [a, b, c, d]) : w.cell? ⟨g, 0, none⟩ = some a ∧ w.cell? ⟨g, 1, none⟩ = some b ∧ w.cell? ⟨g, 2, none⟩ = some c ∧ w.cell? ⟨g, 3, none⟩ = some d ∧ w.frozen? ⟨g, 0, none⟩ = false ∧ w.frozen? ⟨g, 1, none⟩ = false ∧ w.frozen? ⟨g, 2, none⟩ = false ∧ w.frozen? ⟨g, 3, none⟩ = false :=
  ⟨h.cell rfl, h.cell rfl, h.cell rfl, h.cell rfl, h.frozen _, h.frozen _, h.frozen _, h.frozen _⟩
theorem u64_mod (x : Int) (m : Nat) (hm : 0 < m) (h : m ≤ 4611686018427387904) : ∃ a : Nat, IntKind.i64.wrap ((IntKind.u64.wrap x).tmod (m : Int)) = (a : Int) ∧ a < m := by
  have h0 : 0 ≤ IntKind.u64.wrap x := by rw [IntKind.wrap_u64]; omega
  have h1 : (IntKind.u64.wrap x).tmod (m : Int) = IntKind.u64.wrap x % (m : Int) := Int.tmod_eq_emod_of_nonneg h0
  have h2 := Int.emod_nonneg (IntKind.u64.wrap x) (show (m : Int) ≠ 0 by omega)
  have h3 := Int.emod_lt_of_pos (IntKind.u64.wrap x) (show (0 : Int) < m by omega)
  obtain ⟨a, ha⟩ := Int.eq_ofNat_of_zero_le h2
  refine ⟨a, ?_, by omega⟩
  rw [h1, ha, IntKind.wrap_i64]
  omega
theorem twin_facts (K X : List UInt8) (o t : Nat) (hK : K ≠ []) (hKl : K.length ≤ 31) (hX : X.length ≤ 30) (ho : o < 72057594037927936) (ht : t < 72057594037927936) :
    okV K o 1 = true ∧ okV K t 1 = true ∧ okV K o 0 = true ∧ okV (K ++ X) t 1 = true ∧ lessF K o 1 K t 1 = decide ((t : Int) < (o : Int)) ∧ lessF K o 1 K o 0 = true ∧
    (K ++ X ≠ K → lessF K o 1 (K ++ X) t 1 = true ∧ lessF K o 0 (K ++ X) t 1 = true ∧ lessF (K ++ X) t 1 K o 1 = false) := by
  have hne : K ++ X ≠ [] := fun e => hK (List.append_eq_nil_iff.1 e).1
  have hl : (K ++ X).length ≤ 61 := by rw [List.length_append]; omega
  refine ⟨okV_mk ⟨hK, by omega, by omega, by omega, .inr rfl⟩, okV_mk ⟨hK, by omega, by omega, by omega, .inr rfl⟩, okV_mk ⟨hK, by omega, by omega, by omega, .inl rfl⟩, okV_mk ⟨hne, by omega, by omega, by omega, .inr rfl⟩, ?_, ?_, fun hd => ?_⟩
  · unfold lessF
    rw [if_neg (show ¬ K ≠ K from fun h => h rfl)]
    by_cases e : (o : Int) = (t : Int)
    · rw [if_neg (fun h => h e)]
      have h1 : decide ((t : Int) < (o : Int)) = false := by simp; omega
      rw [h1]; rfl
    · rw [if_pos e]
  · unfold lessF
    rw [if_neg (show ¬ K ≠ K from fun h => h rfl), if_neg (fun h => h rfl)]; rfl
  · have hX : X ≠ [] := fun e => hd (by rw [e, List.append_nil])
    have h1 := bl_prefix K X hX
    have h2 : K ≠ K ++ X := fun e => hd e.symm
    unfold lessF
    rw [if_pos h2, if_pos h2, if_pos hd, h1, bl_self_append]
    exact ⟨rfl, rfl, rfl⟩
/-- the four versions in memory -/
structure TwB (w : World) (n : Nat) (K DK : List UInt8) (o t : Nat) : Prop where
  a : Blk w n 23 [.string (str K), .int .i64 (o : Int), .int .i64 1]
  b : Blk w (n + 1) 23 [.string (str K), .int .i64 (t : Int), .int .i64 1]
  c : Blk w (n + 2) 23 [.string (str K), .int .i64 (o : Int), .int .i64 0]
  d : Blk w (n + 3) 23 [.string (str DK), .int .i64 (t : Int), .int .i64 1]
theorem TwB.gr {w w' : World} {n : Nat} {K DK : List UInt8} {o t : Nat} (h : TwB w n K DK o t) (g : Gr w w') : TwB w' n K DK o t := ⟨h.a.gr g, h.b.gr g, h.c.gr g, h.d.gr g⟩
theorem TwB.made (w : World) (K DK : List UInt8) (o t : Nat) : TwB ((((w.alloc (.cells #[.string (str K), .int .i64 (o : Int), .int .i64 1] 23)).alloc (.cells #[.string (str K), .int .i64 (t : Int), .int .i64 1] 23)).alloc (.cells #[.string (str K), .int .i64 (o : Int), .int .i64 0] 23)).alloc (.cells #[.string (str DK), .int .i64 (t : Int), .int .i64 1] 23)) w.heap.size K DK o t := by
  refine ⟨(((Blk.new w _ _).alloc _).alloc _).alloc _, ?_, ?_, ?_⟩
  · have := ((Blk.new (w.alloc (.cells #[.string (str K), .int .i64 (o : Int), .int .i64 1] 23)) 23 #[.string (str K), .int .i64 (t : Int), .int .i64 1]).alloc (.cells #[.string (str K), .int .i64 (o : Int), .int .i64 0] 23)).alloc (.cells #[.string (str DK), .int .i64 (t : Int), .int .i64 1] 23)
    simpa using this
  · have := (Blk.new ((w.alloc (.cells #[.string (str K), .int .i64 (o : Int), .int .i64 1] 23)).alloc (.cells #[.string (str K), .int .i64 (t : Int), .int .i64 1] 23)) 23 #[.string (str K), .int .i64 (o : Int), .int .i64 0]).alloc (.cells #[.string (str DK), .int .i64 (t : Int), .int .i64 1] 23)
    simpa using this
  · have := Blk.new (((w.alloc (.cells #[.string (str K), .int .i64 (o : Int), .int .i64 1] 23)).alloc (.cells #[.string (str K), .int .i64 (t : Int), .int .i64 1] 23)).alloc (.cells #[.string (str K), .int .i64 (o : Int), .int .i64 0] 23)) 23 #[.string (str DK), .int .i64 (t : Int), .int .i64 1]
    simpa using this
set_option maxRecDepth 100000 in
set_option maxHeartbeats 8000000 in
theorem IkeyTwins_any (key more : List UInt8) (one two : Int) (w : World) (hk : key.length ≤ 9223372036854775807) (hm : more.length ≤ 9223372036854775807) :
    Calls Tryd.prog 4 #[.agg #[.string (str key), .string (str more), .int .i64 one, .int .i64 two]] w fun e w' => e = .returned (.bool true) ∧ Gr w w' := by
  obtain ⟨m1, hm1, hk1, hk2⟩ : ∃ m1 : Nat, min (key.length : Int) 30 = (m1 : Int) ∧ m1 ≤ key.length ∧ m1 ≤ 30 := ⟨min key.length 30, by omega, by omega, by omega⟩
  obtain ⟨m2, hm2, hk3, hk4⟩ : ∃ m2 : Nat, min (more.length : Int) 30 = (m2 : Int) ∧ m2 ≤ more.length ∧ m2 ≤ 30 := ⟨min more.length 30, by omega, by omega, by omega⟩
  have hc1 := run_str_to (P := Tryd.prog) Tryd.underlying9 key m1 hk1
  have hc2 := run_str_to (P := Tryd.prog) Tryd.underlying9 more m2 hk3
  obtain ⟨K, hK⟩ : ∃ K, K = 107 :: key.take m1 := ⟨_, rfl⟩
  obtain ⟨X, hX⟩ : ∃ X, X = more.take m2 := ⟨_, rfl⟩
  have hs1 : (⟨#[107]⟩ : ByteArray) ++ str (key.take m1) = str K := by rw [hK, show (⟨#[107]⟩ : ByteArray) = str [107] from rfl, str_append]; rfl
  obtain ⟨o, e1, ho⟩ := u64_mod one 72057594037927936 (by decide) (by decide)
  obtain ⟨t, e2, ht⟩ := u64_mod two 72057594037927936 (by decide) (by decide)
  have e1 : IntKind.i64.wrap ((IntKind.u64.wrap one).tmod 72057594037927936) = (o : Int) := e1
  have e2 : IntKind.i64.wrap ((IntKind.u64.wrap two).tmod 72057594037927936) = (t : Int) := e2
  obtain ⟨k1, k2, k3, k4, l1, l2, l3⟩ := twin_facts K X o t (by rw [hK]; simp) (by rw [hK]; simp; omega) (by rw [hX, List.length_take]; omega) ho ht
  rw [← hX] at hc2
  have hKl : K.length ≤ 31 := by rw [hK]; simp; omega
  have hXl : X.length ≤ 30 := by rw [hX, List.length_take]; omega
  have hDl : (K ++ X).length ≤ 61 := by rw [List.length_append]; omega
  have HA := Lib.hid (show ∀ w, Calls Tryd.prog 8 #[.agg #[.string (str K), .int .i64 (o : Int), .int .i64 1]] w (RetBI 5 w (sortF K o 1) 0) from fun w => Sortable_yes K o 1 w k1)
  have HB := Lib.hid (show ∀ w, Calls Tryd.prog 8 #[.agg #[.string (str K), .int .i64 (t : Int), .int .i64 1]] w (RetBI 5 w (sortF K t 1) 0) from fun w => Sortable_yes K t 1 w k2)
  have HC := Lib.hid (show ∀ w, Calls Tryd.prog 8 #[.agg #[.string (str K), .int .i64 (o : Int), .int .i64 0]] w (RetBI 5 w (sortF K o 0) 0) from fun w => Sortable_yes K o 0 w k3)
  have HD := Lib.hid (show ∀ w, Calls Tryd.prog 8 #[.agg #[.string (str (K ++ X)), .int .i64 (t : Int), .int .i64 1]] w (RetBI 5 w (sortF (K ++ X) t 1) 0) from fun w => Sortable_yes (K ++ X) t 1 w k4)
  have b1 := (sort_less (s := o) (d := 1) (s' := t) (d' := 1) k1 k2).trans l1
  have b2 := (sort_less (s := o) (d := 1) (s' := o) (d' := 0) k1 k3).trans l2
  have b3 : K ++ X ≠ K → bytesLess (sortF K o 1) (sortF (K ++ X) t 1) = true := fun h => (sort_less (s := o) (d := 1) (s' := t) (d' := 1) k1 k4).trans (l3 h).1
  have b4 : K ++ X ≠ K → bytesLess (sortF K o 0) (sortF (K ++ X) t 1) = true := fun h => (sort_less (s := o) (d := 0) (s' := t) (d' := 1) k3 k4).trans (l3 h).2.1
  have HLs := Lib.hid (fun k k' s d s' d' w => Less_any k k' s d s' d' w)
  generalize sortF K o 1 = A at *
  generalize sortF K t 1 = B at *
  generalize sortF K o 0 = C at *
  generalize sortF (K ++ X) t 1 = D at *
  have HB1 := Lib.hid b1; have HB2 := Lib.hid b2; have HB3 := Lib.hid b3; have HB4 := Lib.hid b4; have HL1 := Lib.hid l1; have HL2 := Lib.hid l2; have HL3 := Lib.hid l3
  generalize hKX : K ++ X = DK at *
  unfold ver at HLs
  clear b1 b2 b3 b4 l1 l2 l3 k1 k2 k3 k4 hK hX
  go_enter Tryd.func4, Tryd.ntmps4
  go_wp2_with (first
    | (go_at_call 7; (with_reducible refine (keyed_any _).mono ?_); rintro e w1 ⟨rfl, g1⟩; obtain ⟨a0, a1, a2, a3, _⟩ := Blk.four (Blk.of1 g1))
    | fail)
  refine region_any_gr _ [Is (.pointer (some ⟨w.heap.size, 2, none⟩)), Is (.int .i64 one), Is (.int .u64 (IntKind.u64.wrap one)), Is (.int .u64 ((IntKind.u64.wrap one).tmod 72057594037927936)), Is (.int .i64 (o : Int)), Is (.pointer (some ⟨w.heap.size, 3, none⟩)), Is (.int .i64 two), Is (.int .u64 (IntKind.u64.wrap two)), Is (.int .u64 ((IntKind.u64.wrap two).tmod 72057594037927936)), Is (.int .i64 (t : Int)), Is (.int .i64 (o : Int)), Is (.int .i64 (t : Int))] (by kernel_rfl) (by kernel_rfl) (by kernel_rfl) rfl rfl ⟨Is.stable _, Is.stable _, Is.stable _, Is.stable _, Is.stable _, Is.stable _, Is.stable _, Is.stable _, Is.stable _, Is.stable _, Is.stable _, Is.stable _, trivial⟩ ⟨?s0, ?s1, ?s2, ?s3, ?s4, ?s5, ?s6, ?s7, ?s8, ?s9, ?s10, ?s11, trivial⟩ ?fin
  case' s0 | s1 | s2 | s3 | s4 | s5 | s6 | s7 | s8 | s9 | s10 | s11 =>
    intro ρ wr hρ hg hK
    simp [readsOf, slotsOf, Op.operands, Call.operands, tmpOf, List.filterMap_cons, List.filterMap_nil, KnownAll, knownOf, srcOf, depsOf, dstOf, Region.binds, nth, Is] at hK
    obtain ⟨hc, hf, hgl⟩ := hρ
    try simp only [wantedBy, dstOf, boolOf, nth, List.getD_cons_zero, List.getD_cons_succ, List.getElem?_cons_zero, List.getElem?_cons_succ, Option.bind_some, if_true, hK, BEq.rfl]
    try go_simp
    first | exact rfl | (rw [if_pos (by omega)]; exact is_here rfl) | (rw [dif_pos (by omega)]; exact is_here rfl) | exact congrArg (Value.int _) (IntWalk.i64_in _ ⟨by omega, by omega⟩) | skip
  case s1 => have := hg.cell a2; go_simp; exact rfl
  case s6 => have := hg.cell a3; go_simp; exact rfl
  case fin =>
    intro w1 val hg hH
    simp only [Holds, Is, Nat.zero_add, Nat.reduceAdd] at hH
    obtain ⟨h0, h1, h2, h3, h4, h5, h6, h7, h8, h9, h10, h11, _⟩ := hH
    simp only [List.take_succ_cons, List.take_zero, List.drop_succ_cons, List.drop_zero, putAll, h0, h1, h2, h3, h4, h5, h6, h7, h8, h9, h10, h11, Nat.zero_add, Nat.reduceAdd]
    have G1 := g1.trans hg
    obtain ⟨u0, u1, u2, u3, _⟩ := Blk.four (Blk.of1 G1)
    have hlt := (Blk.of1 G1).lt
    have u1' := (((Gr.alloc w1 (.cells #[.string (str K), .int .i64 (o : Int), .int .i64 1] 23)).trans (Gr.alloc _ (.cells #[.string (str K), .int .i64 (t : Int), .int .i64 1] 23))).trans (Gr.alloc _ (.cells #[.string (str K), .int .i64 (o : Int), .int .i64 0] 23))).cell u1
    clear a0 a1 a2 a3 hg g1
    have T0 := Lib.hid (TwB.made w1 K DK o t)
    have hE : Gr w1 ((((w1.alloc (.cells #[.string (str K), .int .i64 (o : Int), .int .i64 1] 23)).alloc (.cells #[.string (str K), .int .i64 (t : Int), .int .i64 1] 23)).alloc (.cells #[.string (str K), .int .i64 (o : Int), .int .i64 0] 23)).alloc (.cells #[.string (str DK), .int .i64 (t : Int), .int .i64 1] 23)) := (((Gr.alloc _ _).trans (Gr.alloc _ _)).trans (Gr.alloc _ _)).trans (Gr.alloc _ _)
    have HEE := Lib.hid (((Gr.alloc _ _).trans G1).trans hE)
    have hb1 := HB1.out; have hb2 := HB2.out; have hl1 := HL1.out; have hl2 := HL2.out
    clear hE G1
    by_cases hdk : DK = K
    · have hd1 : (DK == K) = true := by rw [hdk]; simp
      have HX := Lib.hid hdk
      clear hdk
      go_wp2_with (first
        | (go_at_call 8; (with_reducible refine (HA.out _).mono ?_); rintro e' wA ⟨adA, cA, rfl, oA, gA⟩
           have GA := gA
           have TT := T0.out.gr GA
           obtain ⟨x0, x1, x2, _⟩ := TT.a.three; obtain ⟨y0, y1, y2, _⟩ := TT.b.three; obtain ⟨z0, z1, z2, _⟩ := TT.c.three; obtain ⟨v0, v1, v2, _⟩ := TT.d.three)
        | (go_at_call 8; (with_reducible refine (HB.out _).mono ?_); rintro e' wB ⟨adB, cB, rfl, oB, gB⟩
           have GB := GA.trans gB
           have TT := T0.out.gr GB
           obtain ⟨x0, x1, x2, _⟩ := TT.a.three; obtain ⟨y0, y1, y2, _⟩ := TT.b.three; obtain ⟨z0, z1, z2, _⟩ := TT.c.three; obtain ⟨v0, v1, v2, _⟩ := TT.d.three)
        | (go_at_call 8; (with_reducible refine (HC.out _).mono ?_); rintro e' wC ⟨adC, cC, rfl, oC, gC⟩
           have GC := GB.trans gC
           have TT := T0.out.gr GC
           obtain ⟨x0, x1, x2, _⟩ := TT.a.three; obtain ⟨y0, y1, y2, _⟩ := TT.b.three; obtain ⟨z0, z1, z2, _⟩ := TT.c.three; obtain ⟨v0, v1, v2, _⟩ := TT.d.three)
        | (go_at_call 8; (with_reducible refine (HD.out _).mono ?_); rintro e' wD ⟨adD, cD, rfl, oD, gD⟩
           have GL := GC.trans gD
           have BA := (((oA.gr gB).gr gC).gr gD).bytes; have BB := ((oB.gr gC).gr gD).bytes; have BC := (oC.gr gD).bytes; have BD := oD.bytes
           have TT := T0.out.gr GL
           obtain ⟨x0, x1, x2, _⟩ := TT.a.three; obtain ⟨y0, y1, y2, _⟩ := TT.b.three; obtain ⟨z0, z1, z2, _⟩ := TT.c.three; obtain ⟨v0, v1, v2, _⟩ := TT.d.three)
        | (go_at_call 9; (with_reducible refine (HLs.out _ _ _ _ _ _ _).mono ?_); rintro e' wl ⟨rfl, gl⟩
           have GN := GL.trans gl
           have BA2 := BA.gr gl; have BB2 := BB.gr gl; have BC2 := BC.gr gl; have BD2 := BD.gr gl
           clear GL BA BB BC BD
           have GL := GN; have BA := BA2; have BB := BB2; have BC := BC2; have BD := BD2
           clear GN BA2 BB2 BC2 BD2
           have rA := run_string (P := Tryd.prog) (w := wl) (cap := cA) Tryd.underlying25 Tryd.underlying5 Tryd.underlying9 rfl BA
           have rB := run_string (P := Tryd.prog) (w := wl) (cap := cB) Tryd.underlying25 Tryd.underlying5 Tryd.underlying9 rfl BB
           have rC := run_string (P := Tryd.prog) (w := wl) (cap := cC) Tryd.underlying25 Tryd.underlying5 Tryd.underlying9 rfl BC
           have rD := run_string (P := Tryd.prog) (w := wl) (cap := cD) Tryd.underlying25 Tryd.underlying5 Tryd.underlying9 rfl BD
           have TT := T0.out.gr GL
           obtain ⟨x0, x1, x2, _⟩ := TT.a.three; obtain ⟨y0, y1, y2, _⟩ := TT.b.three; obtain ⟨z0, z1, z2, _⟩ := TT.c.three; obtain ⟨v0, v1, v2, _⟩ := TT.d.three)
        | fail)
      go_ret
      exact ⟨rfl, HEE.out.trans GL⟩
    · have hd1 : (DK == K) = false := by rw [beq_eq_false_iff_ne]; exact hdk
      have hb3 := HB3.out hdk; have hb4 := HB4.out hdk
      obtain ⟨hl3, hl4, hl5⟩ := HL3.out hdk
      clear hdk
      go_wp2_with (first
        | (go_at_call 8; (with_reducible refine (HA.out _).mono ?_); rintro e' wA ⟨adA, cA, rfl, oA, gA⟩
           have GA := gA
           have TT := T0.out.gr GA
           obtain ⟨x0, x1, x2, _⟩ := TT.a.three; obtain ⟨y0, y1, y2, _⟩ := TT.b.three; obtain ⟨z0, z1, z2, _⟩ := TT.c.three; obtain ⟨v0, v1, v2, _⟩ := TT.d.three)
        | (go_at_call 8; (with_reducible refine (HB.out _).mono ?_); rintro e' wB ⟨adB, cB, rfl, oB, gB⟩
           have GB := GA.trans gB
           have TT := T0.out.gr GB
           obtain ⟨x0, x1, x2, _⟩ := TT.a.three; obtain ⟨y0, y1, y2, _⟩ := TT.b.three; obtain ⟨z0, z1, z2, _⟩ := TT.c.three; obtain ⟨v0, v1, v2, _⟩ := TT.d.three)
        | (go_at_call 8; (with_reducible refine (HC.out _).mono ?_); rintro e' wC ⟨adC, cC, rfl, oC, gC⟩
           have GC := GB.trans gC
           have TT := T0.out.gr GC
           obtain ⟨x0, x1, x2, _⟩ := TT.a.three; obtain ⟨y0, y1, y2, _⟩ := TT.b.three; obtain ⟨z0, z1, z2, _⟩ := TT.c.three; obtain ⟨v0, v1, v2, _⟩ := TT.d.three)
        | (go_at_call 8; (with_reducible refine (HD.out _).mono ?_); rintro e' wD ⟨adD, cD, rfl, oD, gD⟩
           have GL := GC.trans gD
           have BA := (((oA.gr gB).gr gC).gr gD).bytes; have BB := ((oB.gr gC).gr gD).bytes; have BC := (oC.gr gD).bytes; have BD := oD.bytes
           have TT := T0.out.gr GL
           obtain ⟨x0, x1, x2, _⟩ := TT.a.three; obtain ⟨y0, y1, y2, _⟩ := TT.b.three; obtain ⟨z0, z1, z2, _⟩ := TT.c.three; obtain ⟨v0, v1, v2, _⟩ := TT.d.three)
        | (go_at_call 9; (with_reducible refine (HLs.out _ _ _ _ _ _ _).mono ?_); rintro e' wl ⟨rfl, gl⟩
           have GN := GL.trans gl
           have BA2 := BA.gr gl; have BB2 := BB.gr gl; have BC2 := BC.gr gl; have BD2 := BD.gr gl
           clear GL BA BB BC BD
           have GL := GN; have BA := BA2; have BB := BB2; have BC := BC2; have BD := BD2
           clear GN BA2 BB2 BC2 BD2
           have rA := run_string (P := Tryd.prog) (w := wl) (cap := cA) Tryd.underlying25 Tryd.underlying5 Tryd.underlying9 rfl BA
           have rB := run_string (P := Tryd.prog) (w := wl) (cap := cB) Tryd.underlying25 Tryd.underlying5 Tryd.underlying9 rfl BB
           have rC := run_string (P := Tryd.prog) (w := wl) (cap := cC) Tryd.underlying25 Tryd.underlying5 Tryd.underlying9 rfl BC
           have rD := run_string (P := Tryd.prog) (w := wl) (cap := cD) Tryd.underlying25 Tryd.underlying5 Tryd.underlying9 rfl BD
           have TT := T0.out.gr GL
           obtain ⟨x0, x1, x2, _⟩ := TT.a.three; obtain ⟨y0, y1, y2, _⟩ := TT.b.three; obtain ⟨z0, z1, z2, _⟩ := TT.c.three; obtain ⟨v0, v1, v2, _⟩ := TT.d.three)
        | fail)
      go_ret
      exact ⟨rfl, HEE.out.trans GL⟩
end Go.Proofs.YtnjnehegfdimaaaDoor
