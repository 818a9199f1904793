/- Layer 8 (frame): lay, the law's own: records one behind the other. -/
import Derived.Test.YtmjhffohfppnaaaFrameRooms
namespace Go.Proofs.Ytmjhffohfppnaaa
set_option linter.unusedVariables false
set_option linter.unusedSimpArgs false
open Go.RowKit Fr
theorem elemI : Elem Try.prog 37 3 (.int .i64 0) 1 8 := ⟨by kernel_rfl, by kernel_rfl, rfl, by decide⟩
/-- numbers, as Go's values -/
def nv (l : List Nat) : List Value := l.map fun (n : Nat) => Value.int .i64 (n : Int)
theorem nv_append (l m : List Nat) : nv (l ++ m) = nv l ++ nv m := by simp [nv]
theorem str_extract (l : List UInt8) (i j : Nat) : (str l).extract i j = str ((l.drop i).take (j - i)) := by
  apply ByteArray.ext
  apply Array.ext'
  simp [str, ByteArray.data_extract]
theorem nv_length (l : List Nat) : (nv l).length = l.length := by simp [nv]
theorem lays_snoc (rs : List (List UInt8)) (r : List UInt8) : laysF 0 (rs ++ [r]) = laysF 0 rs ++ frameF (laysF 0 rs).length r := by
  rw [lays_append, Nat.zero_add]; simp [laysF]
/-- two slices that lie in blocks of their own -/
def Apart (x y : Option Addr) : Prop := ∀ a b, x = some a → y = some b → a.block ≠ b.block
theorem Apart.symm {x y : Option Addr} (h : Apart x y) : Apart y x := fun a b ha hb e => h b a hb ha e.symm
theorem Apart.none (y : Option Addr) : Apart .none y := fun a b h => by cases h
theorem Apart.step {x x' y : Option Addr} {w w' : World} {r : Option Nat} {B : Nat} {e : TypeId} {cap n : Nat} {xs : List Value} (h : Apart x y) (_ : w.grownBy w' r) (f : ∀ a, x' = some a → x = some a ∨ w.heap.size ≤ a.block) (o : Owns w B e 1 y cap n xs) : Apart x' y := by
  intro a b ha hb
  rcases f a ha with h1 | h1
  · exact h a b h1 hb
  · have := (o.lt b hb).2; omega
theorem Owns.keep {w w' : World} {B : Nat} {e : TypeId} {cap n : Nat} {xs : List Value} {x y : Option Addr} (o : Owns w B e 1 y cap n xs) (g : w.grownBy w' (x.map (·.block))) (h : Apart x y) : Owns w' B e 1 y cap n xs :=
  o.grown g (fun b hb e => by
    cases x with
    | none => cases e
    | some a => exact h a b rfl hb (Option.some.inj e).symm)
/-- what lay hands back -/
def RetLay (w : World) (N : Nat) : Ending → World → Prop := fun x w' =>
  ∃ (rs : List (List UInt8)) (adA adE adH : Option Addr) (cA cE cH : Nat), x = .returned (.tuple #[.slice adA (laysF 0 rs).length cA, .slice adE rs.length cE, .slice adH rs.length cH]) ∧
    Owns w' w.heap.size 5 1 adA cA (laysF 0 rs).length (bv (laysF 0 rs)) ∧ Owns w' w.heap.size 3 1 adE cE rs.length (nv (endsF 0 rs)) ∧ Owns w' w.heap.size 9 1 adH cH rs.length (sv rs) ∧
    Gr w w' ∧ rs.length ≤ N ∧ rs.length ≤ 30 ∧ (laysF 0 rs).length ≤ 20000 ∧ ∀ r ∈ rs, r.length ≤ 800
set_option maxRecDepth 100000 in
set_option maxHeartbeats 4000000 in
theorem lay_any (ad : Option Addr) (cap : Nat) (recs : List (List UInt8)) (w : World) (hc : recs.length ≤ cap) (hm : cap ≤ maxLen) (hr : Row w ad (sv recs)) (hq : ∀ s ∈ recs, s.length ≤ 9223372036854775807) :
    Calls Try.prog 18 #[.slice ad recs.length cap] w (RetLay w recs.length) := by
  have hmx : maxLen ≤ 9223372036854775807 := by decide
  have HR := Lib.hid hr.at
  have HQ := Lib.hid (fun i (h : i < recs.length) => hq _ (List.getElem_mem h))
  clear hr hq
  go_enter Try.func18, Try.ntmps18
  go_wp2
  go_loopw [5, 6, 7, 8, 9, 10, 11] (fun vA vE vH vi _ _ _ wr => ∃ (rs : List (List UInt8)) (adA adE adH : Option Addr) (cA cE cH : Nat), vA = .slice adA (laysF 0 rs).length cA ∧ vE = .slice adE rs.length cE ∧ vH = .slice adH rs.length cH ∧ vi = .int .i64 (rs.length : Int) ∧
    Owns wr w.heap.size 5 1 adA cA (laysF 0 rs).length (bv (laysF 0 rs)) ∧ Owns wr w.heap.size 3 1 adE cE rs.length (nv (endsF 0 rs)) ∧ Owns wr w.heap.size 9 1 adH cH rs.length (sv rs) ∧
    Apart adA adE ∧ Apart adA adH ∧ Apart adE adH ∧ Gr w wr ∧ rs.length ≤ recs.length ∧ rs.length ≤ 30 ∧ (laysF 0 rs).length ≤ 20000 ∧ (∀ r ∈ rs, r.length ≤ 800)) (fun _ _ _ vi _ _ _ _ => 30 - (intOf vi).toNat)
  case atStart => exact ⟨[], none, none, none, 0, 0, 0, rfl, rfl, rfl, rfl, Owns.empty _ _ _ _, Owns.empty _ _ _ _, Owns.empty _ _ _ _, Apart.none _, Apart.none _, Apart.none _, Gr.refl _, Nat.zero_le _, Nat.zero_le _, Nat.zero_le _, fun r h => by cases h⟩
  case round =>
    obtain ⟨rs, adA, adE, adH, cA, cE, cH, rfl, rfl, rfl, rfl, oA, oE, oH, pAE, pAH, pEH, hg, hn, h30, h20, h800⟩ := hrel
    have h4 : recs.length ≤ rs.length ∨ (rs.length < recs.length ∧ 30 ≤ rs.length) ∨ (rs.length < recs.length ∧ rs.length < 30 ∧ 5000 ≤ (laysF 0 rs).length) ∨ (rs.length < recs.length ∧ rs.length < 30 ∧ (laysF 0 rs).length < 5000) := by omega
    have H800 := Lib.hid h800
    have hB := hg.size
    rcases h4 with h4 | ⟨h4, h5⟩ | ⟨h4, h5, h6⟩ | ⟨h4, h5, h6⟩
    · go_wp2
      go_ret3
      exact ⟨rs, adA, adE, adH, cA, cE, cH, rfl, oA, oE, oH, hg, hn, h30, h20, H800.out⟩
    · go_wp2
      go_ret3
      exact ⟨rs, adA, adE, adH, cA, cE, cH, rfl, oA, oE, oH, hg, hn, h30, h20, H800.out⟩
    · go_wp2
      go_ret3
      exact ⟨rs, adA, adE, adH, cA, cE, cH, rfl, oA, oE, oH, hg, hn, h30, h20, H800.out⟩
    · obtain ⟨b, off, rfl, hcell⟩ := HR.out _ h4
      have q := hg.cell hcell
      have hs9 := HQ.out _ h4
      generalize recs[rs.length] = rec0 at *
      obtain ⟨m, hm0⟩ : ∃ m, m = min rec0.length 800 := ⟨_, rfl⟩
      have hmin : min (rec0.length : Int) 800 = (m : Int) := by omega
      have hml : m ≤ rec0.length := by omega
      have hm8 : m ≤ 800 := by omega
      clear hm0
      obtain ⟨r, hr⟩ : ∃ r, r = rec0.take m := ⟨_, rfl⟩
      have hrl : r.length = m := by rw [hr]; simp; omega
      have HLS := Lib.hid (lays_snoc rs r)
      have HES := Lib.hid (endsF_snoc rs r 0)
      rw [HLS.out, Nat.zero_add, List.length_append] at HES
      have hfb := frameF_len (laysF 0 rs).length r
      generalize hAA : laysF 0 rs = A at *
      have HAA := Lib.hid hAA; clear hAA
      generalize hEE : endsF 0 rs = E at *
      have HEE := Lib.hid hEE; clear hEE
      have hr' : rec0.take m = r := hr.symm
      have HRL := Lib.hid hrl
      have HX := Lib.hid (show (str rec0).extract 0 (min ((str rec0).size : Int) 800).toNat = str r by rw [str_size, hmin, Int.toNat_natCast, str_extract, List.drop_zero, Nat.sub_zero, hr'])
      have hrm : r.length ≤ 800 := by omega
      clear hr hrl
      have HF := Lib.hid (fun w' adx capx (h1 : r.length ≤ capx) h2 h3 => Frame_any A.length adx capx r w' (by omega) (by omega) h1 h2 h3)
      generalize hfbb : frameF A.length r = fb at *
      have HFB := Lib.hid hfbb; clear hfbb
      have mA : A.length + fb.length ≤ maxLen := by unfold maxLen; omega
      have mA' : (A.length + fb.length) * 1 ≤ 140737488355328 := by omega
      have mE : rs.length + 1 ≤ maxLen := by unfold maxLen; omega
      have mE' : (rs.length + 1) * 8 ≤ 140737488355328 := by omega
      have mH' : (rs.length + 1) * 16 ≤ 140737488355328 := by omega
      have PAE := Lib.hid pAE; have PAH := Lib.hid pAH; have PEH := Lib.hid pEH
      clear pAE pAH pEH
      go_wp2
      go_quiet (fail)
      simp only [HX.out]
      obtain ⟨capr, w1, hrun, ob, gb, szb⟩ := bytes_str Try.underlying9 Try.underlying22 Try.underlying5 (wr.drewN nq) r (by unfold maxLen; omega)
      go_wp2_with (first
        | (go_at_call 12; refine (HF.out _ _ _ ob.2.1 ob.2.2.1 ob.bytes).mono ?_; rintro e w2 ⟨adb, capb2, rfl, ob2, gb2⟩; have g02 := ((Gr.drewN wr nq).trans gb).trans gb2; have oA2 := oA.gr g02; have oE2 := oE.gr g02; have oH2 := oH.gr g02; have hB2 := Nat.le_trans hB g02.size)
        | (at_builtin; refine wp_append elemB rfl _ _ rfl rfl oA2 rfl (Src.bytes ob2.bytes rfl Try.underlying22) mA mA' hB2 ?_; intro ad3 c3 w3 o3 k3 f3; have oE3 := oE2.keep k3 PAE.out; have oH3 := oH2.keep k3 PAH.out; have p3E := Lib.hid (PAE.out.step k3 f3 oE2); have p3H := Lib.hid (PAH.out.step k3 f3 oH2); have hB3 := Nat.le_trans hB2 k3.size; have G3 := Lib.hid ((hg.trans g02).grown k3 (row_from oA2)); clear oA2 oE2 oH2)
        | (at_builtin; refine wp_append elemI rfl _ _ rfl rfl (oE3.gr (Gr.alloc _ _)) rfl (src_cell _ _ rfl Try.underlying37) mE mE' (Nat.le_trans hB3 (Gr.alloc _ _).size) ?_; intro ad4 c4 w4 o4 k4 f4; have oA4 := (o3.gr (Gr.alloc _ _)).keep k4 p3E.out.symm; have oH4 := (oH3.gr (Gr.alloc _ _)).keep k4 PEH.out; have p4A := Lib.hid (p3E.out.symm.step k4 f4 (o3.gr (Gr.alloc _ _))); have p4H := Lib.hid (PEH.out.step k4 f4 (oH3.gr (Gr.alloc _ _))); have hB4 : w.heap.size ≤ w4.heap.size := (by have := k4.size; simp at this; omega); have G4 := Lib.hid ((G3.out.trans (Gr.alloc _ _)).grown k4 (row_from oE3)); clear oE3 oH3)
        | (at_builtin; go_must (refine wp_append elemS rfl _ _ rfl rfl (oH4.gr (Gr.alloc _ _)) rfl (src_cell _ _ rfl Try.underlying31) mE mH' (Nat.le_trans hB4 (Gr.alloc _ _).size) ?_); intro ad5 c5 w5 o5 k5 f5; have oA5 := (oA4.gr (Gr.alloc _ _)).keep k5 p3H.out.symm; have oE5 := (o4.gr (Gr.alloc _ _)).keep k5 p4H.out.symm; have p5A := Lib.hid (p3H.out.symm.step k5 f5 (oA4.gr (Gr.alloc _ _))); have p5E := Lib.hid (p4H.out.symm.step k5 f5 (o4.gr (Gr.alloc _ _))); have G5 := Lib.hid ((G4.out.trans (Gr.alloc _ _)).grown k5 (row_from oH4))))
      go_roundw
      case rel =>
        have hl1 : (laysF 0 (rs ++ [r])).length = A.length + fb.length := by rw [HLS.out, List.length_append]
        have hl2 : (rs ++ [r]).length = rs.length + 1 := by simp
        refine ⟨rs ++ [r], ad3, ad4, ad5, c3, c4, c5, by rw [hl1], by rw [hl2], by rw [hl2], by rw [hl2]; go_num, ?_, ?_, ?_, p4A.out.symm, p5A.out.symm, p5E.out.symm, G5.out, by omega, by omega, by omega, ?_⟩
        · rw [hl1, HLS.out, bv_append]; exact oA5
        · rw [hl2, HES.out, nv_append]; exact oE5
        · rw [hl2, sv_append]; exact o5
        · intro x hx
          rcases List.mem_append.1 hx with h | h
          · exact H800.out x h
          · rw [List.mem_singleton.1 h]; omega
      case measure => simp [intOf]; omega
end Go.Proofs.Ytmjhffohfppnaaa
