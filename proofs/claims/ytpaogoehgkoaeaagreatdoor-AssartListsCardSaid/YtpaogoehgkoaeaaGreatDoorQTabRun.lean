/- Layer 14 (table): run walked: a block that the index tells of. -/
import Derived.Test.YtpaogoehgkoaeaaGreatDoorQTabBuild
import Derived.Test.YtpaogoehgkoaeaaGreatDoorQBunB2
import Derived.Lib.MinMax
namespace Go.Proofs.YtpaogoehgkoaeaaGreatDoor
set_option linter.unusedVariables false
set_option linter.unusedSimpArgs false
open Go.RowKit Tab
theorem cellsF_snoc (A : List Bk.Pr) (p : Bk.Pr) : cellsF (A ++ [p]) = match cellsF A, cellF p with | some l, some c => some (l ++ [c]) | _, _ => none := by
  induction A with
  | nil =>
    simp only [List.nil_append, cellsF]
    cases cellF p <;> rfl
  | cons a A ih =>
    rw [List.cons_append, cellsF, cellsF, ih]
    cases cellF a <;> cases cellsF A <;> cases cellF p <;> rfl
theorem cellsF_bad {A B : List Bk.Pr} (h : cellsF A = none) : cellsF (A ++ B) = none := by
  induction A with
  | nil => cases h
  | cons a A ih =>
    rw [cellsF] at h
    rw [List.cons_append, cellsF]
    cases ha : cellF a with
    | none => rfl
    | some c =>
      cases hA : cellsF A with
      | none => rw [ih hA]
      | some l => rw [ha, hA] at h; cases h
/-- a run's cells, and whether there are such -/
def RetR (w : World) (o : Option (List Ci)) : Ending → World → Prop := fun x w' => ∃ ad n cap, x = .returned (.tuple #[.slice ad n cap, .bool o.isSome]) ∧ Gr w w' ∧ ∀ r, o = some r → n = r.length ∧ Owns w' w.heap.size 56 4 ad cap n (cv r)
theorem RetR.no {w w' : World} {o : Option (List Ci)} (h : o = none) (k : Gr w w') (ad : Option Addr) (n cap : Nat) : RetR w o (.returned (.tuple #[.slice ad n cap, .bool false])) w' :=
  ⟨ad, n, cap, by rw [h]; rfl, k, fun r hr => by rw [h] at hr; cases hr⟩
theorem src_c4 {u e' : TypeId} (w : World) (c : Ci) (e : TypeId) (hu : Tryz.prog.underlying u = some (.slice e')) (gb : Nat) (hgb : gb = w.heap.size) : Src Tryz.prog u (w.alloc (.cells #[.string (str c.key), .int .i64 c.seq, .int .i64 c.kind, .string (str c.val)] e)) 4 (.slice (some ⟨gb, 0, none⟩) 1 1) 1 (c4 c) := by
  subst hgb
  refine ⟨rfl, fun v hv => ?_, .inl ⟨_, _, e', rfl, ?_, hu⟩⟩
  · simp only [c4, List.mem_cons, List.not_mem_nil, or_false] at hv
    rcases hv with h | h | h | h <;> rw [h] <;> rfl
  · exact Row.alloc w #[.string (str c.key), .int .i64 c.seq, .int .i64 c.kind, .string (str c.val)] e (0, 0) _ rfl
theorem cutF_some {b s : List UInt8} {off n : Nat} (h : cutF b off n = some s) : s = (b.drop off).take n ∧ off + n + 4 ≤ b.length ∧ s.length = n := by
  unfold cutF at h
  split at h
  · cases h
  · split at h
    · have e := Option.some.inj h
      refine ⟨e.symm, by omega, ?_⟩
      rw [← e, List.length_take, List.length_drop]; omega
    · cases h
set_option maxRecDepth 100000 in
set_option maxHeartbeats 4000000 in
theorem run_any (bb o cap : Nat) (b val : List UInt8) (w : World) (hc : b.length ≤ cap) (hm : cap ≤ maxLen) (hl : b.length ≤ 1000000000) (hv : val.length ≤ 1000000000) (hb : Bytes w (some ⟨bb, o, none⟩) b) :
    Calls Tryz.prog 50 #[.slice (some ⟨bb, o, none⟩) b.length cap, .string (str val)] w (RetR w (runF b val)) := by
  obtain ⟨c1, w1, hrun, o1, g1, s1⟩ := bytes_str (P := Tryz.prog) Tryz.underlying9 Tryz.underlying31 Tryz.underlying5 w val (by unfold maxLen; omega)
  have HG1 := Lib.hid (Get_any (some ⟨w.heap.size, 0, none⟩) val.length c1 val w1 rfl (by unfold maxLen; omega) o1.bytes)
  have HGe := Lib.hid g1
  have hgl := Varint.getF_le val
  have hgt := Varint.getF_lt val
  have HRF := Lib.hid (show runF b val = (if (Varint.getF val).2.2 ≠ 0 then none else if (Varint.getF (val.drop (Varint.getF val).2.1)).2.2 ≠ 0 then none else if b.length < (Varint.getF val).1 ∨ b.length < (Varint.getF (val.drop (Varint.getF val).2.1)).1 then none
    else match cutF b (Varint.getF val).1 (Varint.getF (val.drop (Varint.getF val).2.1)).1 with | none => none | some s => if (Bk.pairsF s).2 ≠ 0 ∨ (Bk.pairsF s).1 = [] then none else cellsF (Bk.pairsF s).1) from rfl)
  rcases hgv : Varint.getF val with ⟨off, k, e1⟩
  rw [hgv] at HG1 HRF hgl hgt
  simp only at HG1 HRF hgl hgt
  have hgt2 := Varint.getF_lt (val.drop k)
  obtain ⟨c2, w2, hrun2, o2, g2, s2⟩ := bytes_str (P := Tryz.prog) Tryz.underlying9 Tryz.underlying31 Tryz.underlying5 w1 (val.drop k) (by rw [List.length_drop]; unfold maxLen; omega)
  have HG3 := Lib.hid (Get_any (some ⟨w1.heap.size, 0, none⟩) (val.drop k).length c2 (val.drop k) w2 rfl (by rw [List.length_drop]; unfold maxLen; omega) o2.bytes)
  have HGf := Lib.hid (HGe.out.trans g2)
  rw [List.length_drop] at hrun2 HG3
  rcases hgd : Varint.getF (val.drop k) with ⟨sz, k2, e2⟩
  rw [hgd] at HG3 HRF hgt2
  simp only at HG3 HRF hgt2
  have hsf : (Instr.slice 9 (.string (str val)) (some (.int .i64 (k : Int))) none none).run Tryz.prog w1 = .ok (.string (str (val.drop k))) w1 := by
    rw [run_slice_string_from_if _ _ _ _ _ Tryz.underlying9, str_size, if_pos ⟨by omega, by omega⟩]
    simp [str_extract_to, str_extract]
    rw [List.take_of_length_le (by simp)]
  have HB := Lib.hid hb
  clear hgv hgd o1 g1 hb o2 g2 s1 s2
  have T1 : RowKit.Hid True := trivial
  by_cases h1 : e1 = 0
  · subst h1
    have HRF := Lib.hid (show runF b val = _ from HRF.out.trans (if_neg (by decide)))
    by_cases h2 : e2 = 0
    · subst h2
      have HRF := Lib.hid (show runF b val = _ from HRF.out.trans (if_neg (by decide)))
      by_cases h3 : b.length < off ∨ b.length < sz
      · skip
        --<<big
        have HN := Lib.hid (show runF b val = none by rw [HRF.out, if_pos h3])
        obtain ⟨m, hmx, hmb⟩ : ∃ m : Int, max (off : Int) (sz : Int) = m ∧ (b.length : Int) < m := ⟨_, rfl, by omega⟩
        have e3 : IntKind.u64.wrap (b.length : Int) = (b.length : Int) := by rw [IntKind.wrap_u64]; omega
        clear h3 HRF
        go_enter Tryz.func50, Tryz.ntmps50
        go_wp2_with (first
          | (go_at_call 103; clear T1; go_must (refine HG1.out.mono ?_); rintro e w' ⟨rfl, rfl⟩)
          | (go_at_call 103; go_must (refine HG3.out.mono ?_); rintro e w' ⟨rfl, rfl⟩)
          | fail)
        go_ret2
        exact RetR.no HN.out HGf.out _ _ _
        -->>big
      · have e3 : IntKind.u64.wrap (b.length : Int) = (b.length : Int) := by rw [IntKind.wrap_u64]; omega
        obtain ⟨m, hmx, hmb⟩ : ∃ m : Int, max (off : Int) (sz : Int) = m ∧ ¬ (b.length : Int) < m := ⟨_, rfl, by omega⟩
        have e4 : IntKind.i64.wrap (off : Int) = (off : Int) := by rw [IntKind.wrap_i64]; omega
        have e5 : IntKind.i64.wrap (sz : Int) = (sz : Int) := by rw [IntKind.wrap_i64]; omega
        have HRF := Lib.hid (show runF b val = _ from HRF.out.trans (if_neg h3))
        have hbo := HB.out.gr HGf.out
        cases hct : cutF b off sz with
        | none =>
          --<<cutno
          have HN := Lib.hid (show runF b val = none by rw [HRF.out, hct])
          have HCt := Lib.hid (cut_none bb o cap off sz b w2 hc hl (by omega) (by omega) hbo hct)
          clear h3 HRF hct hbo
          go_enter Tryz.func50, Tryz.ntmps50
          go_wp2_with (first
            | (go_at_call 103; clear T1; go_must (refine HG1.out.mono ?_); rintro e w' ⟨rfl, rfl⟩)
            | (go_at_call 103; go_must (refine HG3.out.mono ?_); rintro e w' ⟨rfl, rfl⟩)
            | (go_at_call 46; go_must (refine HCt.out.mono ?_); rintro e w' ⟨adc, nc, cc, rfl, rfl⟩)
            | fail)
          go_ret2
          exact RetR.no HN.out HGf.out _ _ _
          -->>cutno
        | some s =>
          --<<cutyes
          obtain ⟨hs1, hs2, hs3⟩ := cutF_some hct
          have HCt := Lib.hid (cut_some bb o cap off sz b s w2 hc hl hbo hct)
          have hsb : Bytes w2 (some ⟨bb, o + off, none⟩) s := by rw [hs1]; exact (hbo.drop off).take sz
          have HPs := Lib.hid (Pairs_any (some ⟨bb, o + off, none⟩) (cap - off) s w2 (by omega) (by omega) (by omega) hsb)
          have HRF := Lib.hid (show runF b val = if (Bk.pairsF s).2 ≠ 0 ∨ (Bk.pairsF s).1 = [] then none else cellsF (Bk.pairsF s).1 from by rw [HRF.out, hct])
          have hpe := Bk.pairs_err s
          rcases hps : Bk.pairsF s with ⟨l, e6⟩
          rw [hps] at HPs HRF hpe
          simp only at HPs HRF hpe
          have hkl : ∀ i (h : i < l.length), l[i].1.length ≤ 200 := fun i h => by
            rcases hpe with h6 | h6
            · rw [h6] at hps
              obtain ⟨_, _, _, hch, _⟩ := Bk.pairs_some hps
              have := ((Bk.chkF_ok hch).1 i).1
              rw [getD_get _ h] at this
              exact this
            · have e := (Prod.mk.inj h6).1
              rw [e] at h
              simp at h
          have hll : l.length ≤ 10000 := by
            rcases hpe with h6 | h6
            · rw [h6] at hps
              obtain ⟨_, _, _, hch, _⟩ := Bk.pairs_some hps
              exact (Bk.chkF_ok hch).2.1
            · rw [(Prod.mk.inj h6).1]; simp
          have HKl := Lib.hid hkl
          clear h3 hct hbo hs1 hsb hps hs3 hkl
          go_enter Tryz.func50, Tryz.ntmps50
          go_wp2_with (first
            | (go_at_call 103; clear T1; go_must (refine HG1.out.mono ?_); rintro e w' ⟨rfl, rfl⟩)
            | (go_at_call 103; go_must (refine HG3.out.mono ?_); rintro e w' ⟨rfl, rfl⟩)
            | (go_at_call 46; go_must (refine HCt.out.mono ?_); rintro e w' ⟨rfl, rfl⟩)
            | (go_at_call 48; go_must (refine HPs.out.mono ?_); rintro e w3 ⟨adl, cl, rfl, o3, g3⟩)
            | fail)
          have hlm : l.length ≤ 9223372036854775807 := by
            have h1 := o3.2.1; have h2 := o3.2.2.1
            unfold maxLen at h2; omega
          have HL := Lib.hid o3.row
          have HGg := Lib.hid (HGf.out.trans g3)
          clear o3 g3 HPs HCt HG1 HG3 hrun hrun2 hsf HB
          go_loopw [14, 66] (fun vo vi wr => ∃ (i : Nat) (out : List Ci) (ado : Option Addr) (co : Nat), vi = .int .i64 (i : Int) ∧ vo = .slice ado out.length co ∧ i ≤ l.length ∧ out.length ≤ i ∧ cellsF (l.take i) = some out ∧ Gr w3 wr ∧ Owns wr w3.heap.size 56 4 ado co out.length (cv out)) (fun _ vi _ => l.length - (intOf vi).toNat)
          case atStart => exact ⟨0, [], none, 0, rfl, rfl, Nat.zero_le _, Nat.zero_le _, rfl, Gr.refl _, Owns.empty _ _ _ _⟩
          case round =>
            obtain ⟨i, out, ado, co, rfl, rfl, hi, hol, hce, hG, hO⟩ := hrel
            by_cases hlt : i < l.length
            · obtain ⟨bl, ol, hadl, q0, q1⟩ := (HL.out.gr hG).pair i hlt
              subst hadl
              have hkl := HKl.out i hlt
              have HSn := Lib.hid (show cellsF (l.take (i + 1)) = match some out, cellF l[i] with | some l, some c => some (l ++ [c]) | _, _ => none by
                rw [List.take_add_one, List.getElem?_eq_getElem hlt]
                have := cellsF_snoc (l.take i) l[i]
                rw [hce] at this
                exact this)
              have HCf := Lib.hid (show cellF l[i] = match unsF l[i].1 with | none => none | some (k, s, d) => some ⟨k, (s : Int), (d : Int), l[i].2⟩ from rfl)
              have HAll := Lib.hid (show cellsF (l.take (i + 1)) = none → cellsF l = none from fun h => by
                have := cellsF_bad (B := l.drop (i + 1)) h
                rw [List.take_append_drop] at this
                exact this)
              have HG := Lib.hid hG; have HO := Lib.hid hO
              generalize l[i] = p at *
              obtain ⟨pk, pvl⟩ := p
              simp only at q0 q1 hkl HCf
              obtain ⟨W1, hW1⟩ : ∃ x, x = wr.alloc (.cells #[.string (str pk), .string (str pvl)] 105) := ⟨_, rfl⟩
              obtain ⟨c4_, w4, hrun4, o4, g4, s4⟩ := bytes_str (P := Tryz.prog) Tryz.underlying9 Tryz.underlying31 Tryz.underlying5 W1 pk (by unfold maxLen; omega)
              have HU := Lib.hid (Unsort_all (some ⟨W1.heap.size, 0, none⟩) c4_ pk w4 (by have := o4.2.1; omega) (by omega) o4.bytes)
              have hsz1 : W1.heap.size = wr.heap.size + 1 := by rw [hW1]; simp
              rw [hsz1] at hrun4 HU
              have hGa : Gr wr W1 := by rw [hW1]; exact Gr.alloc _ _
              have HBx := Lib.hid (show Blk w4 wr.heap.size 105 [.string (str pk), .string (str pvl)] from Blk.gr (by rw [hW1]; exact Blk.new _ _ _) g4)
              have HGw := Lib.hid (hGa.trans g4)
              rw [hW1] at hrun4
              clear o4 g4 s4 hsz1 hGa hW1 hce hG hO HL
              cases hun : unsF pk with
              | none =>
                have HN := Lib.hid (show runF b val = none by
                  rw [HRF.out]
                  split
                  · rfl
                  · exact HAll.out (by rw [HSn.out, HCf.out, hun]))
                rw [hun] at HU
                unfold outV ver at HU
                clear hun
                as_aux_lemma =>
                  go_wp2_with (first
                    | (go_at_call 104; go_must (refine HU.out.mono ?_); rintro e w5 ⟨rfl, g5⟩)
                    | fail)
                  go_ret2
                  exact RetR.no HN.out (((HGg.out.trans HG.out).trans (HGw.out.trans g5)).trans (Gr.alloc _ _)) _ _ _
              | some x =>
                obtain ⟨uk, us, ud⟩ := x
                have HSn2 := Lib.hid (show cellsF (l.take (i + 1)) = some (out ++ [⟨uk, (us : Int), (ud : Int), pvl⟩]) by rw [HSn.out, HCf.out, hun])
                rw [hun] at HU
                unfold outV ver at HU
                have m1 : out.length + 1 ≤ maxLen := by unfold maxLen; omega
                have m2 : (out.length + 1) * 48 ≤ 140737488355328 := by omega
                clear hun HSn HCf HAll
                as_aux_lemma =>
                  go_wp2_with (first
                    | (go_at_call 104; go_must (refine HU.out.mono ?_); rintro e w5 ⟨rfl, g5⟩
                       have b5 := (HBx.out.gr g5).gr (Gr.alloc w5 (.cells #[.string (str uk), .int .i64 (us : Int), .int .i64 (ud : Int)] 40))
                       have z1 := b5.cell (i := 1) rfl
                       have G6 := Lib.hid ((((HGw.out.trans g5).trans (Gr.alloc w5 (.cells #[.string (str uk), .int .i64 (us : Int), .int .i64 (ud : Int)] 40)))).trans (Gr.alloc _ (.cells #[.string (str uk), .int .i64 (us : Int), .int .i64 (ud : Int), .string (str pvl)] 56))))
                    | (at_builtin; go_must (refine wp_append elemC rfl _ _ rfl rfl (HO.out.gr G6.out) rfl (src_c4 _ ⟨uk, (us : Int), (ud : Int), pvl⟩ _ Tryz.underlying22 _ (by simp)) m1 m2 (Nat.le_trans HG.out.size G6.out.size) ?_); intro ad7 c7 w7 o7 k7 f7)
                    | fail)
                  go_roundw
                  case rel =>
                    refine ⟨i + 1, out ++ [⟨uk, (us : Int), (ud : Int), pvl⟩], ad7, c7, by go_num, by simp, hlt, by simp; omega, HSn2.out, ?_, ?_⟩
                    · exact (HG.out.trans G6.out).grown k7 (fun k hk => by
                        obtain ⟨y, hy, e⟩ := Option.map_eq_some_iff.1 hk
                        exact e ▸ (HO.out.lt y hy).1)
                    · rw [cv_append, List.length_append]
                      exact o7
                  case measure => simp [intOf]; omega
            · obtain rfl : i = l.length := by omega
              rw [List.take_length] at hce
              have HG := Lib.hid (HGg.out.trans hG)
              have HO := Lib.hid (hO.base HGg.out.size)
              have HCe := Lib.hid hce
              clear hce hG hO HL
              by_cases h6 : e6 = 0
              · subst h6
                by_cases hl0 : l = []
                · have HN := Lib.hid (show runF b val = none by rw [HRF.out, if_pos (.inr hl0)])
                  have hd : decide ((0 : Int) < (l.length : Int)) = false := by rw [hl0]; rfl
                  have hd2 : decide (0 < l.length) = false := by rw [hl0]; rfl
                  clear hl0 hpe
                  as_aux_lemma =>
                    go_wp2
                    go_ret2
                    exact RetR.no HN.out HG.out _ _ _
                · have HN := Lib.hid (show runF b val = some out by rw [HRF.out, if_neg (by rintro (h | h); exact h rfl; exact hl0 h)]; exact HCe.out)
                  have hlp : 0 < l.length := by cases l with | nil => exact absurd rfl hl0 | cons => simp
                  have hd : decide ((0 : Int) < (l.length : Int)) = true := decide_eq_true (by omega)
                  have hd2 : decide (0 < l.length) = true := decide_eq_true hlp
                  clear hl0 hpe hlp
                  as_aux_lemma =>
                    go_wp2
                    go_ret2
                    exact ⟨ado, out.length, co, by rw [HN.out]; rfl, HG.out, fun r hr => by rw [HN.out] at hr; cases hr; exact ⟨rfl, HO.out⟩⟩
              · have HN := Lib.hid (show runF b val = none by rw [HRF.out, if_pos (.inl h6)])
                have hne : ((e6 : Int) == 0) = false := by rw [beq_eq_false_iff_ne]; omega
                clear h6 hpe
                as_aux_lemma =>
                  go_wp2
                  go_ret2
                  exact RetR.no HN.out HG.out _ _ _
          -->>cutyes
    · have HN := Lib.hid (show runF b val = none by rw [HRF.out, if_pos h2])
      have hne : ((e2 : Int) != 0) = true := by rw [bne_iff_ne]; omega
      clear h2 HRF
      --<<e2
      go_enter Tryz.func50, Tryz.ntmps50
      go_wp2_with (first
        | (go_at_call 103; clear T1; go_must (refine HG1.out.mono ?_); rintro e w' ⟨rfl, rfl⟩)
        | (go_at_call 103; go_must (refine HG3.out.mono ?_); rintro e w' ⟨rfl, rfl⟩)
        | fail)
      go_ret2
      exact RetR.no HN.out HGf.out _ _ _
      -->>e2
  · have HN := Lib.hid (show runF b val = none by rw [HRF.out, if_pos h1])
    have hne : ((e1 : Int) != 0) = true := by rw [bne_iff_ne]; omega
    clear h1 HRF hrun2 HG3 hsf
    go_enter Tryz.func50, Tryz.ntmps50
    go_wp2_with (first
      | (go_at_call 103; go_must (refine HG1.out.mono ?_); rintro e w' ⟨rfl, rfl⟩)
      | fail)
    go_ret2
    exact RetR.no HN.out HGe.out _ _ _
end Go.Proofs.YtpaogoehgkoaeaaGreatDoor
