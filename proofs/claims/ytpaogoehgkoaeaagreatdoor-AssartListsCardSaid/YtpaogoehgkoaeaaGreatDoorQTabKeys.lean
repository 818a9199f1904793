/- Layer 14 (table): slices.Compact at strings, keys walked. -/
import Derived.Test.YtpaogoehgkoaeaaGreatDoorQTabRuns
import Derived.Shelf.Slices.CompactS
namespace Go.Proofs.YtpaogoehgkoaeaaGreatDoor
set_option linter.unusedVariables false
set_option linter.unusedSimpArgs false
open Go.RowKit Tab
theorem elemS : Elem Tryz.prog 92 9 (.string ⟨#[]⟩) 1 16 := ⟨by kernel_rfl, by kernel_rfl, rfl, by decide⟩
def renK : Go.Shelf.Ren := ⟨fun x => if x = 194 then 92 else 0, fun t => if t = 3 then 3 else if t = 4 then 4 else if t = 9 then 9 else if t = 31 then 92 else 0, fun x => x⟩
set_option maxRecDepth 1000000 in
theorem laysK : Lays.n194 Tryz.prog renK :=
  ⟨by kernel_rfl, by kernel_rfl, by kernel_rfl, fun w => by kernel_rfl, fun w => by kernel_rfl, fun w => by kernel_rfl, by kernel_rfl, fun w => by kernel_rfl, fun w => by kernel_rfl, fun w => by kernel_rfl, by kernel_rfl, fun w => by kernel_rfl, fun w => by kernel_rfl, fun w => by kernel_rfl, by kernel_rfl, fun w => by kernel_rfl, fun w => by kernel_rfl, fun w => by kernel_rfl, by kernel_rfl, fun w => by kernel_rfl, fun w => by kernel_rfl, fun w => by kernel_rfl⟩
theorem once_snoc (l : List (List UInt8)) (x : List UInt8) : onceF (l ++ [x]) = addK (onceF l) x := by unfold onceF; rw [List.foldl_append]; rfl
theorem once_last (l : List (List UInt8)) : (onceF l).getLast? = l.getLast? := by
  rcases List.eq_nil_or_concat l with rfl | ⟨m, x, rfl⟩
  · rfl
  · rw [List.concat_eq_append, once_snoc]
    unfold addK
    split
    · rename_i h; rw [h]; simp
    · simp
theorem once_len (l : List (List UInt8)) : (onceF l).length ≤ l.length := by
  have h : ∀ (l a : List (List UInt8)), (l.foldl addK a).length ≤ a.length + l.length := by
    intro l
    induction l with
    | nil => intro a; simp
    | cons x l ih =>
      intro a
      have := ih (addK a x)
      rw [List.foldl_cons]
      have h2 : (addK a x).length ≤ a.length + 1 := by
        unfold addK; split
        · omega
        · simp
      simp only [List.length_cons]; omega
  simpa [onceF] using h l []
open Go.Lib in
theorem compact_once (l : List (List UInt8)) : ∀ m, m ≤ l.length → compactUpTo l.toArray m = onceF (l.take m)
  | 0, _ => rfl
  | m + 1, hm => by
    have ih := compact_once l m (by omega)
    have hg : ∀ j, j < l.length → l.toArray[j]! = l[j]! := fun j hj => by simp
    have e1 : compactUpTo l.toArray (m + 1) = compactUpTo l.toArray m ++ (if keeps l.toArray m = true then [l[m]] else []) := by
      unfold compactUpTo
      rw [List.range_succ, List.filter_append, List.map_append]
      congr 1
      rw [List.filter_cons]
      split
      · simp [show m < l.length by omega]
      · rfl
    have e2 : l.take (m + 1) = l.take m ++ [l[m]] := by rw [List.take_add_one, List.getElem?_eq_getElem (by omega)]; rfl
    rw [e1, e2, once_snoc, ih]
    unfold addK
    rw [once_last]
    by_cases h0 : m = 0
    · subst h0
      simp [keeps]
    · have hl : (l.take m).getLast? = some l[m - 1] := by
        rw [List.getLast?_eq_getElem?, List.length_take, show min m l.length - 1 = m - 1 by omega, List.getElem?_take, if_pos (by omega), List.getElem?_eq_getElem (by omega)]
      rw [hl]
      have hk : keeps l.toArray m = true ↔ ¬ some l[m - 1] = some l[m] := by
        unfold keeps
        rw [decide_eq_true_eq]
        have a1 : l.toArray[m]! = l[m] := by simp [show m < l.length by omega]
        have a2 : l.toArray[m - 1]! = l[m - 1] := by simp [show m - 1 < l.length by omega]
        rw [a1, a2]
        constructor
        · rintro (h | h)
          · exact absurd h h0
          · exact fun e => h (Option.some.inj e).symm
        · intro h; exact .inr (fun e => h (by rw [e]))
      by_cases hkm : keeps l.toArray m = true
      · rw [if_pos hkm, if_neg (hk.1 hkm)]
      · rw [if_neg hkm, if_pos (by
          by_cases he : some l[m - 1] = some l[m]
          · exact he
          · exact absurd (hk.2 he) hkm), List.append_nil]
open Go.Lib Go.Sort in
set_option maxRecDepth 100000 in
theorem compact_any (base : Nat) (ad : Option Addr) (cap : Nat) (l : List (List UInt8)) (w : World) (ho : Owns w base 9 1 ad cap l.length (sv l)) (hl : l.length ≤ 9223372036854775807) :
    Calls Tryz.prog 92 #[.slice ad l.length cap] w fun e w' => e = .returned (.slice ad (onceF l).length cap) ∧ Row w' ad (sv (onceF l)) ∧ w.grownBy w' (ad.map (·.block)) := by
  by_cases h0 : l.length = 0
  · obtain rfl := List.eq_nil_of_length_eq_zero h0
    go_enter Tryz.func92, Tryz.ntmps92
    go_wp2
    go_ret
    exact ⟨rfl, Row.nil _ _, (Gr.refl _).far⟩
  · obtain ⟨b, rfl, hb, _⟩ := ho.at (sv_get l 0 (by omega))
    have hH : Go.Sort.Holds encStr w b 0 l.toArray := fun j hj => by
      have hj2 : j < l.length := by simpa using hj
      obtain ⟨b2, e, _, z⟩ := ho.at (sv_get l j hj2)
      cases e
      refine ⟨?_, ?_⟩
      · rw [Nat.zero_add, z]
        simp [hj2, str]
      · rw [Nat.zero_add]
        exact ho.unfrozen rfl (by omega)
    have h := Any.slices_Compact_string_arr laysK b 0 cap l.toArray w hH (by simpa using hl) (by have := ho.2.1; simpa using this)
    have e1 : compactUpTo l.toArray l.toArray.size = onceF l := by rw [List.size_toArray, compact_once l l.length (Nat.le_refl _), List.take_length]
    rw [e1] at h
    have h2 : Calls Tryz.prog 92 #[.slice (some ⟨b, 0, none⟩) l.length cap] w fun e w' => e = .returned (.slice (some ⟨b, 0, none⟩) (onceF l).length cap) ∧ ∃ q, w' = putRow encStr (Sort.ahead w q) b 0 (onceF l ++ List.replicate (l.length - (onceF l).length) []).toArray := by
      have := h
      rw [show renK.f 194 = 92 from rfl] at this
      simpa using this
    refine h2.mono fun e w' ⟨he, q, hw⟩ => ⟨he, ?_, ?_⟩
    · intro i u hu
      have hi : i < (onceF l).length := by
        have := (List.getElem?_eq_some_iff.1 hu).1
        simpa [sv] using this
      refine ⟨b, 0, rfl, ?_⟩
      have hs : ((onceF l ++ List.replicate (l.length - (onceF l).length) []).toArray : Array (List UInt8)).size = l.toArray.size := by
        have := once_len l
        simp; omega
      have hc := cell?_putRow encStr (Sort.ahead w q) b 0 l.toArray _ (holds_ahead encStr w q b 0 _ hH) hs i (by rw [hs]; have := once_len l; simp; omega)
      rw [hw, hc]
      rw [sv_get _ i hi] at hu
      rw [← hu]
      simp [str, List.getElem?_append_left hi, List.getElem?_eq_getElem hi]
    · rw [hw]
      refine ⟨rfl, rfl, rfl, by simp [putRow, mapBlock, Sort.ahead], fun k hk hne => ?_⟩
      have hkb : b ≠ k := fun e => hne (by rw [e]; rfl)
      simp [putRow, mapBlock, Sort.ahead, Array.getElem?_modify, hkb]
set_option maxRecDepth 100000 in
set_option maxHeartbeats 2000000 in
theorem keys_any (ad : Option Addr) (cap : Nat) (l : List Ci) (w : World) (hr : Row w ad (cv l)) (hl : l.length ≤ 1000000) :
    Calls Tryz.prog 43 #[.slice ad l.length cap] w fun e w' => ∃ ad' cap', e = .returned (.slice ad' (keysF l).length cap') ∧ Row w' ad' (sv (keysF l)) ∧ Gr w w' := by
  have HR := Lib.hid hr
  clear hr
  go_enter Tryz.func43, Tryz.ntmps43
  go_wp2
  go_loopw [3, 8] (fun vo vi wr => ∃ (i : Nat) (ado : Option Addr) (co : Nat), vi = .int .i64 (i : Int) ∧ vo = .slice ado i co ∧ i ≤ l.length ∧ Gr w wr ∧ Owns wr w.heap.size 9 1 ado co i (sv ((l.take i).map (·.key)))) (fun _ vi _ => l.length - (intOf vi).toNat)
  case atStart => exact ⟨0, none, 0, rfl, rfl, Nat.zero_le _, Gr.refl _, Owns.empty _ _ _ _⟩
  case round =>
    obtain ⟨i, ado, co, rfl, rfl, hi, hG, hO⟩ := hrel
    by_cases hlt : i < l.length
    · obtain ⟨b, off, hade, e0, e1, e2, e3⟩ := (HR.out.gr hG).ci i hlt
      subst hade
      have HT := Lib.hid (show sv ((l.take (i + 1)).map (·.key)) = sv ((l.take i).map (·.key)) ++ [.string (str l[i].key)] by rw [List.take_add_one, List.getElem?_eq_getElem hlt, List.map_append]; unfold sv; rw [List.map_append]; rfl)
      generalize l[i] = c at *
      obtain ⟨ck, cs, cd, cval⟩ := c
      simp only at e0 e1 e2 e3 HT
      have hgs := hG.size
      have HG := Lib.hid hG; have HO := Lib.hid hO
      have m1 : i + 1 ≤ maxLen := by unfold maxLen; omega
      have m2 : (i + 1) * 16 ≤ 140737488355328 := by omega
      have G3 := Lib.hid ((Gr.alloc wr (.cells #[.string (str ck), .int .i64 cs, .int .i64 cd, .string (str cval)] 56)).trans (Gr.alloc _ (.cells #[.string (str ck)] 9)))
      clear hG hO HR
      go_wp2_with (first
        | (at_builtin; go_must (refine wp_append elemS rfl _ _ rfl rfl (HO.out.gr G3.out) rfl (src_cellg _ (.string (str ck)) rfl Tryz.underlying92 _ (by simp)) m1 m2 (Nat.le_trans hgs G3.out.size) ?_); intro ad5 c5 w5 o5 k5 f5
           have HO5 := Lib.hid o5; have HK5 := Lib.hid k5
           clear o5 k5 f5)
        | fail)
      go_roundw
      case rel =>
        have G5 := (HG.out.trans G3.out).grown HK5.out (fun k hk => by
          obtain ⟨y, hy, e⟩ := Option.map_eq_some_iff.1 hk
          exact e ▸ (HO.out.lt y hy).1)
        exact ⟨i + 1, ad5, c5, by go_num, rfl, hlt, G5, by rw [HT.out]; exact HO5.out⟩
      case measure => simp [intOf]; omega
    · obtain rfl : i = l.length := by omega
      have hO2 : Owns wr w.heap.size 9 1 ado co (l.map (·.key)).length (sv (l.map (·.key))) := by rw [List.length_map]; rw [List.take_length] at hO; exact hO
      have HC := Lib.hid (compact_any w.heap.size ado co (l.map (·.key)) wr hO2 (by rw [List.length_map]; omega))
      rw [List.length_map] at HC
      have HG := Lib.hid hG
      have HO := Lib.hid hO
      have HK := Lib.hid (show keysF l = onceF (l.map (·.key)) from rfl)
      clear hO hG hO2
      go_wp2_with (first
        | (go_at_call 92; go_must (refine HC.out.mono ?_); rintro e w2 ⟨rfl, r2, k2⟩)
        | fail)
      go_ret
      rw [HK.out]
      refine ⟨ado, co, rfl, r2, HG.out.grown k2 (fun k hk => by
        obtain ⟨y, hy, e⟩ := Option.map_eq_some_iff.1 hk
        exact e ▸ (HO.out.lt y hy).1)⟩
end Go.Proofs.YtpaogoehgkoaeaaGreatDoor
