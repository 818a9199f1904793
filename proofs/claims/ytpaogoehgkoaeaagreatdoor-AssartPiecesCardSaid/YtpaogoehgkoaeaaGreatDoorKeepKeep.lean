/- Layer 16 (keep): Keep walked, where all is right. -/
import Derived.Test.YtpaogoehgkoaeaaGreatDoorKeepOne
import Derived.Test.YtpaogoehgkoaeaaGreatDoorKeepRight
import Derived.Test.YtpaogoehgkoaeaaGreatDoorTabFrom
import Derived.Lib.MinMax
namespace Go.Proofs.YtpaogoehgkoaeaaGreatDoor
set_option linter.unusedVariables false
set_option linter.unusedSimpArgs false
open Go.RowKit Tab
theorem trim_len (b : Bool) (l : List Ci) : (trimD b l).length ≤ l.length := by
  unfold trimD
  split
  · rw [List.length_reverse]
    have := (List.dropWhile_sublist (fun c : Ci => decide (c.kind = 0)) (l := l.reverse)).length_le
    rwa [List.length_reverse] at this
  · exact Nat.le_refl _
theorem one_len (looks : List Int) (b : Bool) (l : List Ci) : (oneF looks b l).length ≤ l.length := Nat.le_trans (trim_len _ _) (kept_len _ _ _)
theorem ones_len (looks : List Int) (b : Bool) : ∀ G : List (List Ci), (G.flatMap (oneF looks b)).length ≤ G.flatten.length
  | [] => Nat.le_refl _
  | g :: G => by
    have h1 := ones_len looks b G
    have h2 := one_len looks b g
    rw [List.flatMap_cons, List.flatten_cons, List.length_append, List.length_append]
    omega
theorem looks_len (looks : List Int) : (looksF looks).length = looks.length + 1 := by unfold looksF; simp
theorem looks_rise (looks : List Int) : (looksF looks).Pairwise (· ≤ ·) := by
  unfold looksF
  have h := List.pairwise_mergeSort (le := fun x y : Int => decide (x ≤ y)) (fun a b c h1 h2 => by simp only [decide_eq_true_eq] at *; omega) (fun a b => by simp; omega) (72057594037927935 :: looks.map (min · 72057594037927935))
  exact h.imp (fun h => by simpa using h)
/-- Keep's numbers, as they are laid -/
theorem look_snoc {looks : List Int} {i : Nat} (h : i < looks.length) : 72057594037927935 :: (looks.take (i + 1)).map (min · 72057594037927935) = (72057594037927935 :: (looks.take i).map (min · 72057594037927935)) ++ [min looks[i] 72057594037927935] := by
  rw [List.take_add_one, List.getElem?_eq_getElem h, List.map_append]
  rfl
set_option maxRecDepth 100000 in
set_option maxHeartbeats 4000000 in
theorem Keep_ok (ad adk : Option Addr) (cap capk : Nat) (l : List Ci) (looks : List Int) (bottom : Bool) (w : World) (hr : Row w ad (cv l)) (hk : Row w adk (zv looks)) (hl : l.length ≤ 5000) (hc : l.length ≤ cap) (hl2 : looks.length ≤ 4000) (ho : ordF l = true) :
    Calls Tryz.prog 13 #[.slice ad l.length cap, .slice adk looks.length capk, .bool bottom] w (RetCs w (keepF l looks bottom)) := by
  have HRi := Lib.hid (right_ok ad cap l w hr hl ho)
  have HKy := Lib.hid (fun w' (g : Gr w w') => kkeys_any ad cap l w' (hr.gr g) hl hc)
  have HL := Lib.hid (show ∀ i (h : i < looks.length), ∃ b off, adk = some ⟨b, off, none⟩ ∧ w.cell? ⟨b, off + i, none⟩ = some (.int .i64 looks[i]) from fun i h => hk i _ (zv_get looks i h))
  clear hr hk
  go_enter Tryz.func13, Tryz.ntmps13
  go_wp2_with (first
    | (go_at_call 38; go_must (refine HRi.out.mono ?_); rintro e w1 ⟨rfl, g1⟩)
    | fail)
  have HG1 := Lib.hid (g1.trans (Gr.alloc w1 (.cells #[.int .i64 72057594037927935] 3)))
  have HO1 := Lib.hid (show Owns (w1.alloc (.cells #[.int .i64 72057594037927935] 3)) w.heap.size 3 1 (some ⟨w1.heap.size, 0, none⟩) 1 1 (zv [72057594037927935]) from Owns.made w1 w.heap.size _ 3 (0, 0) 1 1 1 _ g1.size (by decide) (by decide) (by simp) (by simp) rfl)
  clear g1
  go_loopw [8, 20] (fun va vi wr => ∃ (i : Nat) (ada : Option Addr) (ca : Nat), vi = .int .i64 (i : Int) ∧ va = .slice ada (i + 1) ca ∧ i ≤ looks.length ∧ Owns wr w.heap.size 3 1 ada ca (i + 1) (zv (72057594037927935 :: (looks.take i).map (min · 72057594037927935))) ∧ Gr w wr) (fun _ vi _ => looks.length - (intOf vi).toNat)
  case atStart => exact ⟨0, _, 1, rfl, rfl, Nat.zero_le _, HO1.out, HG1.out⟩
  case round =>
    clear HO1 HG1
    obtain ⟨i, ada, ca, rfl, rfl, hi, hO, hG⟩ := hrel
    by_cases hlt : i < looks.length
    · obtain ⟨b, off, hadk, z0⟩ := HL.out i hlt
      subst hadk
      have z0 := hG.cell z0
      have HS := Lib.hid (look_snoc hlt)
      have HO := Lib.hid hO
      have HG := Lib.hid hG
      have hgs := hG.size
      have m1 : i + 1 + 1 ≤ maxLen := by unfold maxLen; omega
      have m2 : (i + 1 + 1) * 8 ≤ 140737488355328 := by omega
      generalize looks[i] = x at *
      clear hO hG HL
      go_wp2_with (first
        | (at_builtin; go_must (refine wp_append elemI rfl _ _ rfl rfl (HO.out.gr (Gr.alloc _ _)) rfl (src_cellg _ (.int .i64 (min x 72057594037927935)) rfl Tryz.underlying23 _ (by simp)) m1 m2 (by simp; omega) ?_); intro ad5 c5 w5 o5 k5 f5
           have HO5 := Lib.hid o5; have HK5 := Lib.hid k5
           clear o5 k5 f5)
        | fail)
      go_roundw
      case rel =>
        have G5 := (HG.out.trans (Gr.alloc _ _)).grown HK5.out (fun k hk => by
          obtain ⟨y, hy, e⟩ := Option.map_eq_some_iff.1 hk
          exact e ▸ (HO.out.lt y hy).1)
        exact ⟨i + 1, ad5, c5, by go_num, rfl, hlt, by rw [HS.out, zv_append]; exact HO5.out, G5⟩
      case measure => simp [intOf]; omega
    · obtain rfl : i = looks.length := by omega
      rw [List.take_length] at hO
      have hAl : (72057594037927935 :: looks.map (min · 72057594037927935) : List Int).length = looks.length + 1 := by simp
      have HSo := Lib.hid (show Calls Tryz.prog 55 #[.slice ada (looks.length + 1) ca] wr fun e w' => e = .returned (.tuple #[]) ∧ Row w' ada (zv (looksF looks)) ∧ wr.grownBy w' (ada.map (·.block)) from by
        have := sortI_any w.heap.size ada ca (72057594037927935 :: looks.map (min · 72057594037927935)) wr (by rw [hAl]; exact hO) (by rw [hAl]; omega) (by rw [hAl]; omega)
        rw [hAl] at this
        exact this)
      have HG := Lib.hid hG
      have HO := Lib.hid hO
      have hSl := looks_len looks
      have HSr := Lib.hid (looks_rise looks)
      clear hO hG hAl HL hi hlt
      have HKF := Lib.hid (show keepF l looks bottom = (groupF l).flatMap (oneF (looksF looks) bottom) from rfl)
      generalize looksF looks = S at *
      have HFl := Lib.hid (groupF_flat l)
      go_wp2_with (first
        | (go_at_call 55; go_must (refine HSo.out.mono ?_); rintro e w2 ⟨rfl, r2, k2⟩
           have HG2 := Lib.hid (HG.out.grown k2 (fun k hk => by
             obtain ⟨y, hy, e⟩ := Option.map_eq_some_iff.1 hk
             exact e ▸ (HO.out.lt y hy).1))
           have HR2 := Lib.hid r2
           clear r2 k2)
        | (go_at_call 39; go_must (refine (HKy.out _ HG2.out).mono ?_); rintro e w3 ⟨adv, cpv, vs, rfl, ov, hv, g3⟩)
        | fail)
      have HG3 := Lib.hid (HG2.out.trans g3)
      have HR3 := Lib.hid (HR2.out.gr g3)
      have HV := Lib.hid hv
      have HOv := Lib.hid ov
      clear g3 hv ov HG2 HR2 HG HO HSo HKy HRi
      have hGl : (groupF l).flatten.length ≤ 5000 := by rw [HFl.out]; exact hl
      have hGc : (groupF l).length ≤ 5000 := Nat.le_trans (grp_count (groupF_grp l).ne) hGl
      clear HFl
      generalize groupF l = G at *
      go_loopw [11, 35] (fun vo vi wr => ∃ (i : Nat) (ado : Option Addr) (co : Nat), vi = .int .i64 (i : Int) ∧ vo = .slice ado ((G.take i).flatMap (oneF S bottom)).length co ∧ i ≤ G.length ∧ Owns wr w3.heap.size 56 4 ado co ((G.take i).flatMap (oneF S bottom)).length (cv ((G.take i).flatMap (oneF S bottom))) ∧ Gr w3 wr) (fun _ vi _ => G.length - (intOf vi).toNat)
      case atStart => exact ⟨0, none, 0, rfl, rfl, Nat.zero_le _, Owns.empty _ _ _ _, Gr.refl _⟩
      case round =>
        obtain ⟨i, ado, co, rfl, rfl, hi, hO, hG⟩ := hrel
        by_cases hlt : i < G.length
        · obtain ⟨v, hvi, adg, cg, rfl, hcg, hrg⟩ := HV.out.2 i hlt
          obtain ⟨b, off, hadv, z0⟩ := HOv.out.row i _ hvi
          subst hadv
          have z0 := hG.cell z0
          have hgl : G[i].length ≤ 5000 := Nat.le_trans (grp_get hlt) hGl
          have HOn := Lib.hid (one_any adg ada cg ca G[i] S bottom wr (hrg.gr hG) (HR3.out.gr hG) hgl (by omega) (by omega) HSr.out)
          rw [hSl] at HOn
          have HT := Lib.hid (show (G.take (i + 1)).flatMap (oneF S bottom) = (G.take i).flatMap (oneF S bottom) ++ oneF S bottom G[i] by rw [List.take_add_one, List.getElem?_eq_getElem hlt, List.flatMap_append]; simp)
          have hb1 : ((G.take (i + 1)).flatMap (oneF S bottom)).length ≤ 5000 := Nat.le_trans (ones_len S bottom _) (Nat.le_trans (flat_take _) hGl)
          rw [HT.out, List.length_append] at hb1
          have HO := Lib.hid hO
          have HG := Lib.hid hG
          have hgs := hG.size
          clear hO hG hrg hvi hgl hcg
          generalize oneF S bottom G[i] = K at *
          generalize (G.take i).flatMap (oneF S bottom) = out at *
          generalize G[i] = gi at *
          have m1 : out.length + K.length ≤ maxLen := by unfold maxLen; omega
          have m2 : (out.length + K.length) * 48 ≤ 140737488355328 := by omega
          go_wp2_with (first
            | (go_at_call 56; go_must (refine HOn.out.mono ?_); rintro e w4 ⟨ad4, c4', rfl, hc4, r4, g4⟩)
            | (at_builtin; go_must (refine wp_append elemC rfl _ _ rfl rfl (HO.out.gr g4) rfl (src_cv r4 rfl Tryz.underlying22) m1 m2 (Nat.le_trans hgs g4.size) ?_); intro ad5 c5 w5 o5 k5 f5
               have HO5 := Lib.hid o5; have HK5 := Lib.hid k5
               clear o5 k5 f5)
            | fail)
          go_roundw
          case rel =>
            have G5 := (HG.out.trans g4).grown HK5.out (fun k hk => by
              obtain ⟨y, hy, e⟩ := Option.map_eq_some_iff.1 hk
              exact e ▸ (HO.out.lt y hy).1)
            exact ⟨i + 1, ad5, c5, by go_num, by rw [HT.out, List.length_append], hlt, by rw [HT.out, List.length_append, cv_append]; exact HO5.out, G5⟩
          case measure => simp [intOf]; omega
        · obtain rfl : i = G.length := by omega
          rw [List.take_length] at hO
          have HO := Lib.hid hO
          have HG := Lib.hid (HG3.out.trans hG)
          clear hO hG
          rw [List.take_length]
          go_wp2
          go_ret2
          rw [HKF.out]
          exact ⟨ado, co, rfl, HO.out.base HG3.out.size, HG.out⟩
end Go.Proofs.YtpaogoehgkoaeaaGreatDoor
