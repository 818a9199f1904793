/- Layer 16 (keep): one walked. -/
import Derived.Test.YtpaogoehgkoaeaaGreatDoorKeepKeys
import Derived.Test.YtpaogoehgkoaeaaGreatDoorKeepLib
import Derived.Test.YtpaogoehgkoaeaaGreatDoorTabRun
namespace Go.Proofs.YtpaogoehgkoaeaaGreatDoor
set_option linter.unusedVariables false
set_option linter.unusedSimpArgs false
open Go.RowKit Tab
/-- a slice that reads as these cells, made or cut -/
def RetW (w : World) (l : List Ci) : Ending → World → Prop := fun x w' => ∃ ad cap, x = .returned (.slice ad l.length cap) ∧ l.length ≤ cap ∧ Row w' ad (cv l) ∧ Gr w w'
theorem kept_yes {looks : List Int} {top : Int} {l : List Ci} {i : Nat} (hi : i < l.length) (h : keptB looks top l[i] = true) : keptG looks top (l.drop i) = l[i] :: keptG looks l[i].seq (l.drop (i + 1)) := by
  rw [List.drop_eq_getElem_cons hi, keptG, if_pos h]
theorem kept_no {looks : List Int} {top : Int} {l : List Ci} {i : Nat} (hi : i < l.length) (h : ¬ keptB looks top l[i] = true) : keptG looks top (l.drop i) = keptG looks l[i].seq (l.drop (i + 1)) := by
  rw [List.drop_eq_getElem_cons hi, keptG, if_neg h]
theorem kept_len (looks : List Int) : ∀ (l : List Ci) (top : Int), (keptG looks top l).length ≤ l.length
  | [], _ => Nat.le_refl _
  | c :: r, top => by
    have h := kept_len looks r c.seq
    rw [keptG]
    split
    · simp only [List.length_cons]; omega
    · simp only [List.length_cons]; omega
theorem trim_nil (b : Bool) : trimD b [] = [] := by unfold trimD; cases b <;> rfl
theorem trim_pop {K : List Ci} {n : Nat} (h : n < K.length) (hk : K[n].kind = 0) : trimD true (K.take (n + 1)) = trimD true (K.take n) := by
  unfold trimD
  rw [if_pos rfl, if_pos rfl, List.take_add_one, List.getElem?_eq_getElem h, Option.toList_some, List.reverse_append, List.reverse_singleton, List.singleton_append, List.dropWhile_cons, if_pos (by rw [decide_eq_true_eq]; exact hk)]
theorem trim_stop {K : List Ci} {n : Nat} (h : n < K.length) (hk : ¬ K[n].kind = 0) : trimD true (K.take (n + 1)) = K.take (n + 1) := by
  unfold trimD
  rw [if_pos rfl, List.take_add_one, List.getElem?_eq_getElem h, Option.toList_some, List.reverse_append, List.reverse_singleton, List.singleton_append, List.dropWhile_cons, if_neg (by rw [decide_eq_true_eq]; exact hk), List.reverse_cons, List.reverse_reverse]
/-- the measure of a slice that is cut -/
def slLen : Value → Nat
  | .slice _ n _ => n
  | _ => 0
set_option maxRecDepth 100000 in
set_option maxHeartbeats 4000000 in
theorem one_any (ad adk : Option Addr) (cap capk : Nat) (l : List Ci) (looks : List Int) (bottom : Bool) (w : World) (hr : Row w ad (cv l)) (hk : Row w adk (zv looks)) (hl : l.length ≤ 5000) (h0 : 0 < looks.length) (hl2 : looks.length ≤ 5000) (hs : looks.Pairwise (· ≤ ·)) :
    Calls Tryz.prog 56 #[.slice ad l.length cap, .slice adk looks.length capk, .bool bottom] w (RetW w (oneF looks bottom l)) := by
  have HR := Lib.hid hr
  have HSe := Lib.hid (fun x w' (g : Gr w w') => searchI_any adk capk looks x w' (hk.gr g) h0 (by omega) hs)
  have HK := Lib.hid (show ∀ i (h : i < looks.length), ∃ b off, adk = some ⟨b, off, none⟩ ∧ w.cell? ⟨b, off + i, none⟩ = some (.int .i64 looks[i]) from fun i h => hk i _ (zv_get looks i h))
  clear hr hk hs
  go_enter Tryz.func56, Tryz.ntmps56
  go_wp2
  go_loopw [7, 8, 15] (fun vo vt vi wr => ∃ (i : Nat) (top : Int) (out : List Ci) (ado : Option Addr) (co : Nat), vi = .int .i64 (i : Int) ∧ vt = .int .i64 top ∧ vo = .slice ado out.length co ∧ i ≤ l.length ∧ out.length ≤ i ∧ Owns wr w.heap.size 56 4 ado co out.length (cv out) ∧ Gr w wr ∧ keptG looks 72057594037927936 l = out ++ keptG looks top (l.drop i)) (fun _ _ vi _ => l.length - (intOf vi).toNat)
  case atStart => exact ⟨0, 72057594037927936, [], none, 0, rfl, rfl, rfl, Nat.zero_le _, Nat.zero_le _, Owns.empty _ _ _ _, Gr.refl _, by simp⟩
  case round =>
    obtain ⟨i, top, out, ado, co, rfl, rfl, rfl, hi, hlo, hO, hG, hE⟩ := hrel
    by_cases hlt : i < l.length
    · obtain ⟨b, off, hade, e0, e1, e2, e3⟩ := (HR.out.gr hG).ci i hlt
      subst hade
      have HY := Lib.hid (kept_yes (looks := looks) (top := top) hlt)
      have HN := Lib.hid (kept_no (looks := looks) (top := top) hlt)
      have HO := Lib.hid hO
      have HG := Lib.hid hG
      have HE := Lib.hid hE
      have hgs := hG.size
      have HSe2 := Lib.hid (HSe.out l[i].seq)
      clear hO hG hE
      generalize l[i] = c at *
      obtain ⟨ck, cs, cd, cval⟩ := c
      simp only at e0 e1 e2 e3 HSe2
      have HB := Lib.hid (Blk.new wr 56 #[.string (str ck), .int .i64 cs, .int .i64 cd, .string (str cval)])
      have GB := Lib.hid (Gr.alloc wr (.cells #[.string (str ck), .int .i64 cs, .int .i64 cd, .string (str cval)] 56))
      have HKb := Lib.hid (show keptB looks top ⟨ck, cs, cd, cval⟩ = decide (looks.countP (· < cs) < looks.length ∧ looks.getD (looks.countP (· < cs)) 0 < top) from rfl)
      have m1 : out.length + 1 ≤ maxLen := by unfold maxLen; omega
      have m2 : (out.length + 1) * 48 ≤ 140737488355328 := by omega
      generalize looks.countP (· < cs) = m at *
      by_cases hm : m < looks.length
      · obtain ⟨bk, ok, hadk, z0⟩ := HK.out m hm
        subst hadk
        have HZ := Lib.hid z0
        have hgd : looks.getD m 0 = looks[m] := by rw [List.getD_eq_getElem?_getD, List.getElem?_eq_getElem hm, Option.getD_some]
        rw [hgd] at HKb
        generalize looks[m] = lm at *
        clear hgd z0
        by_cases hlm : lm < top
        · have HE2 := Lib.hid (show keptG looks 72057594037927936 l = (out ++ [⟨ck, cs, cd, cval⟩]) ++ keptG looks cs (l.drop (i + 1)) by
            rw [HE.out, HY.out (by rw [HKb.out, decide_eq_true_eq]; exact ⟨hm, hlm⟩), List.append_assoc]; rfl)
          clear HY HN HE HKb
          go_wp2_with (first
            | (go_at_call 107; go_must (refine (HSe2.out _ (HG.out.trans GB.out)).mono ?_); rintro e w2 ⟨⟨bb, rfl⟩, g2⟩
               have b2 := HB.out.gr g2
               have y0 := b2.cell (i := 0) rfl
               have y1 := b2.cell (i := 1) rfl
               have y2 := b2.cell (i := 2) rfl
               have y3 := b2.cell (i := 3) rfl
               have y4 := ((HG.out.trans GB.out).trans g2).cell HZ.out
               have HB2 := Lib.hid b2
               have HG2 := Lib.hid (GB.out.trans g2)
               have HG3 := Lib.hid ((GB.out.trans g2).trans (Gr.alloc w2 (.cells #[.string (str ck), .int .i64 cs, .int .i64 cd, .string (str cval)] 56)))
               clear b2 g2)
            | (at_builtin; go_must (refine wp_append elemC rfl _ _ rfl rfl (HO.out.gr HG3.out) rfl (src_c4 _ ⟨ck, cs, cd, cval⟩ _ Tryz.underlying22 _ (by simp)) m1 m2 (Nat.le_trans hgs HG3.out.size) ?_); intro ad5 c5 w5 o5 k5 f5
               have HO5 := Lib.hid o5; have HK5 := Lib.hid k5
               have x1 := ((HB2.out.alloc (.cells #[.string (str ck), .int .i64 cs, .int .i64 cd, .string (str cval)] 56)).grown k5 (fun e => by
                 obtain ⟨y, hy, e9⟩ := Option.map_eq_some_iff.1 e.symm
                 have := (HO.out.lt y hy).2
                 omega)).cell (i := 1) rfl
               clear o5 k5 f5 y0 y1 y2 y3 y4)
            | fail)
          go_roundw
          case rel =>
            have G5 := (HG.out.trans HG3.out).grown HK5.out (fun k hk => by
              obtain ⟨y, hy, e⟩ := Option.map_eq_some_iff.1 hk
              exact e ▸ (HO.out.lt y hy).1)
            exact ⟨i + 1, cs, out ++ [⟨ck, cs, cd, cval⟩], ad5, c5, by go_num, rfl, by simp, hlt, by simp; omega, by rw [List.length_append, cv_append]; exact HO5.out, G5, HE2.out⟩
          case measure => simp [intOf]; omega
        · have HE2 := Lib.hid (show keptG looks 72057594037927936 l = out ++ keptG looks cs (l.drop (i + 1)) by
            rw [HE.out, HN.out (by rw [HKb.out, decide_eq_true_eq]; exact fun k => hlm k.2)])
          clear HY HN HE HKb
          go_wp2_with (first
            | (go_at_call 107; go_must (refine (HSe2.out _ (HG.out.trans GB.out)).mono ?_); rintro e w2 ⟨⟨bb, rfl⟩, g2⟩
               have y1 := (HB.out.gr g2).cell (i := 1) rfl
               have y4 := ((HG.out.trans GB.out).trans g2).cell HZ.out
               have HG3 := Lib.hid (GB.out.trans g2)
               clear g2)
            | fail)
          go_roundw
          case rel => exact ⟨i + 1, cs, out, ado, co, by go_num, rfl, rfl, hlt, by omega, HO.out.gr HG3.out, HG.out.trans HG3.out, HE2.out⟩
          case measure => simp [intOf]; omega
      · have HE2 := Lib.hid (show keptG looks 72057594037927936 l = out ++ keptG looks cs (l.drop (i + 1)) by
          rw [HE.out, HN.out (by rw [HKb.out, decide_eq_true_eq]; exact fun k => hm k.1)])
        have dm : decide (m < looks.length) = false := decide_eq_false hm
        clear HY HN HE HKb
        go_wp2_with (first
          | (go_at_call 107; go_must (refine (HSe2.out _ (HG.out.trans GB.out)).mono ?_); rintro e w2 ⟨⟨bb, rfl⟩, g2⟩
             have y1 := (HB.out.gr g2).cell (i := 1) rfl
             have HG3 := Lib.hid (GB.out.trans g2)
             clear g2)
          | fail)
        go_roundw
        case rel => exact ⟨i + 1, cs, out, ado, co, by go_num, rfl, rfl, hlt, by omega, HO.out.gr HG3.out, HG.out.trans HG3.out, HE2.out⟩
        case measure => simp [intOf]; omega
    · obtain rfl : i = l.length := by omega
      have HK0 := Lib.hid (show oneF looks bottom l = trimD bottom out by unfold oneF; rw [hE, List.drop_length, keptG, List.append_nil])
      have HRo := Lib.hid hO.row
      have hco := hO.2.1
      have HG := Lib.hid hG
      clear hE hO hG HR HK HSe
      cases bottom with
      | false =>
        have HE := Lib.hid (show oneF looks false l = out from HK0.out)
        clear HK0
        go_wp2
        go_loopw [7] (fun v wl => v = .slice ado out.length co ∧ wl = wr) (fun _ _ => 0)
        case atStart => exact ⟨rfl, rfl⟩
        case round =>
          obtain ⟨rfl, rfl⟩ := hrel
          go_wp2
          go_ret
          rw [HE.out]
          exact ⟨ado, co, rfl, hco, HRo.out, HG.out⟩
      | true =>
        go_wp2
        go_loopw [7] (fun v wl => ∃ n : Nat, n ≤ out.length ∧ v = .slice ado n co ∧ wl = wr ∧ trimD true (out.take n) = trimD true out) (fun v _ => slLen v)
        case atStart => exact ⟨out.length, Nat.le_refl _, rfl, rfl, by rw [List.take_length]⟩
        case round =>
          obtain ⟨n, hn, rfl, rfl, ht⟩ := hrel
          have HT := Lib.hid ht
          clear ht
          cases n with
          | zero =>
            have HE := Lib.hid (show oneF looks true l = [] by rw [HK0.out, ← HT.out, List.take_zero, trim_nil])
            clear HK0 HT
            go_wp2
            go_ret
            rw [HE.out]
            exact ⟨ado, co, rfl, Nat.zero_le _, Row.nil _ _, HG.out⟩
          | succ n =>
            have hn1 : n < out.length := by omega
            obtain ⟨b, off, hade, _, _, e2, _⟩ := HRo.out.ci n hn1
            subst hade
            have HP := Lib.hid (fun h => trim_pop (K := out) hn1 h)
            have HS := Lib.hid (fun h => trim_stop (K := out) hn1 h)
            generalize out[n].kind = kd at *
            have hw1 : IntKind.i64.wrap (((n + 1 : Nat) : Int) - 1) = (n : Int) := by rw [IntKind.wrap_i64]; omega
            by_cases hk : kd = 0
            · subst hk
              have HT2 := Lib.hid (show trimD true (out.take n) = trimD true out by rw [← HT.out, HP.out rfl])
              clear HP HS HT HK0
              go_wp2
              go_roundw
              case rel => exact ⟨n, by omega, rfl, trivial, HT2.out⟩
              case measure => simp [slLen]
            · have hk2 : (kd == 0) = false := by rw [beq_eq_false_iff_ne]; exact hk
              have HE := Lib.hid (show oneF looks true l = out.take (n + 1) by rw [HK0.out, ← HT.out, HS.out hk])
              have HRt := Lib.hid (show Row wr (some ⟨b, off, none⟩) (cv (out.take (n + 1))) by rw [cv_take]; exact HRo.out.take_ _)
              clear HP HS HT HK0 hk
              go_wp2
              go_ret
              rw [HE.out]
              exact ⟨some ⟨b, off, none⟩, co, by rw [List.length_take, Nat.min_eq_left hn]; rfl, by rw [List.length_take]; omega, HRt.out, HG.out⟩
end Go.Proofs.YtpaogoehgkoaeaaGreatDoor
