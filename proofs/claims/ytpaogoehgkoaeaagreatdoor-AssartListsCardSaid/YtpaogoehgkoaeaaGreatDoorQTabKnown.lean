/- Layer 14 (table): known walked; bytes.Clone of none. -/
import Derived.Test.YtpaogoehgkoaeaaGreatDoorQTabRun
import Derived.Test.YtpaogoehgkoaeaaGreatDoorQBunB2
namespace Go.Proofs.YtpaogoehgkoaeaaGreatDoor
set_option linter.unusedVariables false
set_option linter.unusedSimpArgs false
open Go.RowKit Tab
theorem knownF_bad {l : List Ci} {f : List UInt8} (h : ∀ j : Nat, j < 64 → (f == (buildF (keysF l) ((j : Int) + 1)).1) = false) : knownF l f = false := by
  unfold knownF
  rw [Bool.eq_false_iff]
  intro ha
  obtain ⟨j, hj, e⟩ := List.any_eq_true.1 ha
  rw [h j (List.mem_range.1 hj)] at e
  cases e
theorem knownF_good {l : List Ci} {f : List UInt8} {j : Nat} (hj : j < 64) (h : (f == (buildF (keysF l) ((j : Int) + 1)).1) = true) : knownF l f = true := by
  unfold knownF
  exact List.any_eq_true.2 ⟨j, List.mem_range.2 hj, h⟩
set_option maxRecDepth 100000 in
set_option maxHeartbeats 2000000 in
theorem known_any (ad : Option Addr) (cap : Nat) (l : List Ci) (adf : Option Addr) (cf : Nat) (f : List UInt8) (w : World) (hr : Row w ad (cv l)) (hl : l.length ≤ 5000) (hsh : Short (keysF l)) (hf : Bytes w adf f) :
    Calls Tryz.prog 51 #[.slice ad l.length cap, .slice adf f.length cf] w fun e w' => e = .returned (.bool (knownF l f)) ∧ Gr w w' := by
  have HKs := Lib.hid (keys_any ad cap l w hr (by omega))
  have hkl := keys_len l
  have HBl := Lib.hid (fun (j : Nat) (hj : j < 64) ad' cap' w' (h : Row w' ad' (sv (keysF l))) => bBuild_any ad' cap' (keysF l) ((j : Int) + 1) w' (by omega) h hsh (by omega) (by omega))
  have HE0 := Lib.hid (fun (j : Nat) (hj : j < 64) => show (buildF (keysF l) ((j : Int) + 1)).2 = 0 by rw [build_filter hl (by omega) (by omega)])
  have HF := Lib.hid hf
  obtain ⟨r, hr0⟩ : ∃ r, r = knownF l f := ⟨_, rfl⟩
  have HR := Lib.hid hr0
  have HBad := Lib.hid (knownF_bad (l := l) (f := f))
  have HGood := Lib.hid (fun j => knownF_good (l := l) (f := f) (j := j))
  rw [← hr0]
  clear hr hf hr0 hsh hkl
  go_enter Tryz.func51, Tryz.ntmps51
  go_wp2_with (first
    | (go_at_call 43; go_must (refine HKs.out.mono ?_); rintro e w2 ⟨adk, ck, rfl, rk, g2⟩)
    | fail)
  have HK := Lib.hid rk
  have HG := Lib.hid g2
  clear rk g2 HKs
  go_loopw [6] (fun v wr => ∃ i : Nat, i ≤ 64 ∧ v = .int .i64 ((i : Int) + 1) ∧ Gr w2 wr ∧ ∀ j, j < i → (f == (buildF (keysF l) ((j : Int) + 1)).1) = false) (fun v _ => 66 - (intOf v).toNat)
  case atStart => exact ⟨0, by omega, rfl, Gr.refl _, fun j hj => by omega⟩
  case round =>
    obtain ⟨i, hi, rfl, hg, hn⟩ := hrel
    have HN := Lib.hid hn
    clear hn
    by_cases h64 : i < 64
    · have HB := Lib.hid (HBl.out i h64 adk ck wr (HK.out.gr hg))
      have he0 := HE0.out i h64
      have HGd := Lib.hid (HGood.out i h64)
      generalize hbv : buildF (keysF l) ((i : Int) + 1) = bv0 at *
      obtain ⟨G, e0⟩ := bv0
      simp only at he0 HB HGd
      subst he0
      have HBv := Lib.hid hbv
      have HEq := Lib.hid (fun ad2 c2 w' (h1 : Bytes w' adf f) (h2 : Bytes w' ad2 G) => equal_any adf ad2 f.length G.length cf c2 f G w' rfl rfl h1 h2)
      have HFw := Lib.hid (HF.out.gr (HG.out.trans hg))
      have HGw := Lib.hid (HG.out.trans hg)
      have HGk := Lib.hid hg
      clear hbv hg
      cases hq : (f == G) with
      | true =>
        have HX := Lib.hid (show r = true by rw [HR.out]; exact HGd.out hq)
        rw [hq] at HEq
        clear hq
        go_wp2_with (first
          | (go_at_call 42; go_must (refine HB.out.mono ?_); rintro e w3 ⟨ad3, c3, rfl, o3, g3⟩)
          | (go_at_call 52; go_must (refine (HEq.out _ _ _ (HFw.out.gr g3) o3.bytes).mono ?_); rintro e w' ⟨rfl, rfl⟩)
          | fail)
        go_ret
        exact ⟨by rw [HX.out]; rfl, HGw.out.trans g3⟩
      | false =>
        have HT := Lib.hid (show ∀ j, j < i + 1 → (f == (buildF (keysF l) ((j : Int) + 1)).1) = false from fun j hj => by
          by_cases hji : j < i
          · exact HN.out j hji
          · have e : j = i := by omega
            rw [e, HBv.out]; exact hq)
        rw [hq] at HEq
        clear hq
        go_wp2_with (first
          | (go_at_call 42; go_must (refine HB.out.mono ?_); rintro e w3 ⟨ad3, c3, rfl, o3, g3⟩)
          | (go_at_call 52; go_must (refine (HEq.out _ _ _ (HFw.out.gr g3) o3.bytes).mono ?_); rintro e w' ⟨rfl, rfl⟩)
          | fail)
        go_roundw
        case rel => exact ⟨i + 1, h64, by go_num, HGk.out.trans g3, HT.out⟩
        case measure => simp [intOf]; omega
    · obtain rfl : i = 64 := by omega
      have HX := Lib.hid (show r = false by rw [HR.out]; exact HBad.out HN.out)
      have HGw := Lib.hid (HG.out.trans hg)
      clear hg
      go_wp2
      go_ret
      exact ⟨by rw [HX.out]; rfl, HGw.out⟩
set_option maxRecDepth 100000 in
theorem clone_some (a : Addr) (cap : Nat) (l : List UInt8) (w : World) (hl : l.length ≤ 1000000000) (hb : Bytes w (some a) l) :
    Calls Tryz.prog 49 #[.slice (some a) l.length cap] w fun e w' => ∃ ad' cap', e = .returned (.slice ad' l.length cap') ∧ Owns w' w.heap.size 5 1 ad' cap' l.length (bv l) ∧ Gr w w' := by
  have HB := Lib.hid hb
  have HE := fun w' => Lib.run_eql_slice_nil (P := Tryz.prog) w' 31 5 (some a) l.length cap 0 0 Tryz.underlying31
  clear hb
  go_enter Tryz.func49, Tryz.ntmps49
  go_wp2_with (first
    | (at_builtin; refine wp_append elemB rfl _ _ rfl rfl (Owns.void w w.heap.size 5 1 (Nat.le_refl _)) rfl (Src.bytes (HB.out.gr (Gr.alloc _ _)) rfl Tryz.underlying31) (by unfold maxLen; omega) (by omega) (by simp) ?_; intro ad7 c7 w7 o7 k7 f7)
    | fail)
  go_ret
  refine ⟨ad7, c7, by simp, ?_, (Gr.alloc _ _).grown k7 (fun g h => by cases h; exact Nat.le_refl _)⟩
  simpa using o7
end Go.Proofs.YtpaogoehgkoaeaaGreatDoor
