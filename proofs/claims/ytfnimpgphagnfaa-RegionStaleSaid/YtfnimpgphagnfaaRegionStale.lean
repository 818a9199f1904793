/- Layer 1 (region): RegionStale answers true. -/
import Derived.Test.YtfnimpgphagnfaaRegionStaleM
namespace Go.Proofs.Ytfnimpgphagnfaa
set_option linter.unusedVariables false
set_option linter.unusedSimpArgs false
open Go.RowKit
/-- the law's memory -/
structure SM (w wr : World) (S : Nat → Prop) (g : Nat) (p : PoolF) (gL gT : Nat) (adD : Option Addr) (capD : Nat) (L : Nat → Hd) (T : Nat → Bool) (D : List Hd) : Prop where
  pl : Pl w wr S g p
  oL : Out S wr gL
  bL : Blk wr gL 33 (liveV L 4)
  oT : Out S wr gT
  bT : Owns wr gT 4 1 (some ⟨gT, 0, none⟩) 4 4 (goneV T 4)
  oD : ∀ x, adD = some x → ¬ S x.block ∧ x.block ≠ gL
  bD : Owns wr w.heap.size 33 4 adD capD D.length (hv D)
  hL : w.heap.size ≤ gL
  hT : w.heap.size ≤ gT
section
variable {w wr w' : World} {S S' : Nat → Prop} {g : Nat} {p p' : PoolF} {gL gT : Nat} {adD : Option Addr} {capD : Nat} {L : Nat → Hd} {T : Nat → Bool} {D : List Hd}
theorem SM.moved (h : SM w wr S g p gL gT adD capD L T D) (m : Moved S g p' wr w' S') (P' : Pl w w' S' g p') : SM w w' S' g p' gL gT adD capD L T D :=
  ⟨P', h.oL.moved m, m.blk h.bL h.oL, h.oT.moved m, m.chg.owns h.bT (fun x hx => by cases hx; exact h.oT.no), fun x hx => ⟨((Out.mk (h.oD x hx).1 (h.bD.lt x hx).2).moved m).no, (h.oD x hx).2⟩, m.chg.owns h.bD (fun x hx => (h.oD x hx).1), h.hL, h.hT⟩
theorem SM.more (h : SM w wr S g p gL gT adD capD L T D) (k : Gr wr w') : SM w w' S g p gL gT adD capD L T D :=
  ⟨h.pl.more k, h.oL.more k, h.bL.gr k, h.oT.more k, h.bT.gr k, h.oD, h.bD.gr k, h.hL, h.hT⟩
theorem SM.gr0 (h : SM w wr S g p gL gT adD capD L T D) : Gr w wr := h.pl.gr
theorem SM.setT (h : SM w wr S g p gL gT adD capD L T D) {k : Nat} (hk : k < 4) (b : Bool) : SM w (wr.setCell ⟨gT, k, none⟩ (.bool b)) S g p gL gT adD capD L (upd T k b) D := by
  have kk := grown_set wr gT k (.bool b)
  have h1 : gL ≠ gT := fun e => h.bL.owns_ne h.bT (by decide) _ rfl (by rw [e])
  refine ⟨h.pl.grown h.oT.no h.hT kk, h.oL.grown kk.size, h.bL.grown kk (fun e => h1 (Option.some.inj e)), h.oT.grown kk.size, ?_, h.oD, h.bD.grown kk (fun x hx e => h.bD.ne h.bT (by decide) x _ hx rfl (Option.some.inj e)), h.hL, h.hT⟩
  rw [← goneV_set T hk]
  exact h.bT.store rfl hk (.bool b)
theorem SM.setL (h : SM w wr S g p gL gT adD capD L T D) {k : Nat} (hk : k < 4) (x : Hd) :
    SM w ((((wr.setCell ⟨gL, k * 4, none⟩ (.int .i64 x.region)).setCell ⟨gL, k * 4 + 1, none⟩ (.int .i64 x.gen)).setCell ⟨gL, k * 4 + 2, none⟩ (.int .i64 x.off)).setCell ⟨gL, k * 4 + 3, none⟩ (.int .i64 x.len)) S g p gL gT adD capD (upd L k x) T D := by
  have kk := grown_set4b wr gL (k * 4) (.int .i64 x.region) (.int .i64 x.gen) (.int .i64 x.off) (.int .i64 x.len)
  have h1 : gL ≠ gT := fun e => h.bL.owns_ne h.bT (by decide) _ rfl (by rw [e])
  exact ⟨h.pl.grown h.oL.no h.hL kk, h.oL.grown kk.size, h.bL.put_hand hk x, h.oT.grown kk.size, h.bT.grown kk (fun y hy e => by cases hy; exact h1 (Option.some.inj e).symm), h.oD, h.bD.grown kk (fun y hy e => (h.oD y hy).2 (Option.some.inj e)), h.hL, h.hT⟩
theorem SM.app (h : SM w wr S g p gL gT adD capD L T D) {ad' : Option Addr} {cap' : Nat} {x : Hd} (k : wr.grownBy w' (adD.map (·.block))) (o : Owns w' w.heap.size 33 4 ad' cap' (D.length + 1) (hv D ++ hc x)) (f : ∀ a, ad' = some a → adD = some a ∨ wr.heap.size ≤ a.block) :
    SM w w' S g p gL gT ad' cap' L T (D ++ [x]) := by
  have hne : ∀ b, (∀ y, adD = some y → y.block ≠ b) → some b ≠ adD.map (·.block) := fun b hb e => by
    cases adD with
    | none => cases e
    | some y => exact hb y rfl (Option.some.inj e).symm
  refine ⟨h.pl.grownO (fun b hb => ?_) k, h.oL.grown k.size, h.bL.grown k (hne _ fun y hy => (h.oD y hy).2), h.oT.grown k.size, h.bT.grown k (fun y hy => by cases hy; exact hne _ fun z hz => h.bD.ne h.bT (by decide) z _ hz rfl), fun y hy => ?_, ?_, h.hL, h.hT⟩
  · cases adD with
    | none => cases hb
    | some y => cases hb; exact ⟨(h.oD y rfl).1, (h.bD.lt y rfl).1⟩
  · rcases f y hy with h1 | h1
    · exact h.oD y h1
    · exact ⟨fun e => by have := h.pl.pool.lt _ e; omega, fun e => by have := h.oL.lt; omega⟩
  · rw [List.length_append, hv_append]
    have : hv [x] = hc x := by simp [hv]
    rw [this]
    exact o
end
theorem stale_more {p : PoolF} {L : Nat → Hd} {T : Nat → Bool} {D : List Hd} {n : Nat} (h : StaleI p L T D n) : StaleI p L T D (n + 1) := ⟨h.sz, h.bl, h.live, h.inj, h.all, h.dead, fun i hi => Nat.le_succ_of_le (h.gen i hi)⟩
set_option maxRecDepth 100000 in
set_option maxHeartbeats 4000000 in
theorem RegionStale_any (ad : Option Addr) (cap : Nat) (l : List Int) (w : World) (hr : Row w ad (l.map (Value.int .i64))) (hl : l.length ≤ 9223372036854775807) :
    Calls Try.prog 4 #[.slice ad l.length cap] w fun e w' => e = .returned (.bool true) ∧ Gr w w' := by
  have HR := Lib.hid hr
  clear hr
  go_enter Try.func4, Try.ntmps4
  go_wp2_with (first
    | (go_at_call 10; go_must (refine (fertile_any _).mono ?_); rintro e w1 ⟨rfl, g1⟩)
    | (go_at_call 11; go_must (refine (New_pl g1 64 8 (by decide) (by decide) (by decide) (by decide) (by decide) (by decide)).mono ?_); rintro e w2 ⟨g, S1, rfl, k1, hg, P1, b1⟩; have T0 : RowKit.Hid True := trivial)
    | (at_make; clear T0; go_must (refine wp_makeB elemH rfl _ _ rfl 4 rfl rfl rfl rfl (by decide) (by decide) ?_); intro w3 o3 g3 z3)
    | (at_make; go_must (refine wp_make elemBool rfl rfl _ _ rfl 4 4 rfl rfl rfl rfl (Nat.le_refl _) (by decide) (by decide) ?_); intro w4 o4 g4 z4)
    | fail)
  rw [goneV_none] at o4
  rw [made_hands] at o3
  have hsm : SM w w4 S1 g (newF 64 8) w2.heap.size w3.heap.size none 0 (fun _ => noHd) (fun _ => false) [] :=
    ⟨(P1.more g3).more g4, ⟨fun e => Nat.lt_irrefl _ (P1.pool.lt _ e), by have := g4.size; omega⟩, o3.gr g4, ⟨fun e => Nat.lt_irrefl _ ((P1.more g3).pool.lt _ e), by omega⟩, o4, fun x hx => (by cases hx), Owns.empty _ _ _ _, P1.gr.size, (P1.more g3).gr.size⟩
  rw [z3] at hsm
  have HS := Lib.hid hsm
  clear hsm o3 o4 g3 g4 z3 z4 P1 b1 k1 hg g1
  generalize w2.heap.size + 1 = gT at *
  generalize w2.heap.size = gL at *
  go_loopw [7, 8] (fun u v wr => ∃ (i : Nat) (S : Nat → Prop) (p : PoolF) (adD : Option Addr) (capD : Nat) (L : Nat → Hd) (T : Nat → Bool) (D : List Hd), i ≤ l.length ∧ i ≤ 120 ∧ D.length ≤ i ∧ u = .slice adD D.length capD ∧ v = .int .i64 (i : Int) ∧ SM w wr S g p gL gT adD capD L T D ∧ StaleI p L T D i) (fun _ v _ => l.length - (intOf v).toNat)
  case atStart => exact ⟨0, S1, _, none, 0, _, _, [], Nat.zero_le _, by omega, Nat.le_refl _, rfl, rfl, HS.out, StaleI.start⟩
  case round =>
    clear HS
    obtain ⟨i, S, p, adD, capD, L, T, D, hi, hi3, hD, rfl, rfl, hM, hI⟩ := hrel
    by_cases hib : i < l.length
    · by_cases hi2 : i < 120
      · obtain ⟨bl, off, rfl, z⟩ := (HR.out.gr hM.gr0) i (.int .i64 l[i]) (by simp [hib])
        obtain ⟨k, e1, hk⟩ := u64_mod l[i] 4 (by decide) (by decide)
        have e1 : IntKind.i64.wrap ((IntKind.u64.wrap l[i]).tmod 4) = (k : Int) := e1
        obtain ⟨gT', hgT', _, zT⟩ := hM.bT.at (goneV_get T (show k < 4 from hk))
        cases hgT'
        have hfz := hM.bT.unfrozen rfl (show k < 4 * 1 by omega)
        obtain ⟨y0, y1, y2, y3, yf⟩ := hM.bL.hand hk
        have HM := Lib.hid hM
        generalize l[i] = x at *
        cases hT : T k with
        | true =>
          rw [hT] at zT
          obtain ⟨p', f1, f2, hI2⟩ := hI.free hM.pl.ok hk hT
          have HF1 := Lib.hid (Free_pl hM.pl f1)
          have HF2 := Lib.hid (fun w' (h : Pl w w' S g p') => Free_pl h f2)
          have HI2 := Lib.hid hI2
          have m1 : D.length + 1 ≤ maxLen := by unfold maxLen; omega
          have m2 : (D.length + 1) * 32 ≤ 140737488355328 := by omega
          clear hM hI f1 f2 hI2
          have T0 : RowKit.Hid True := trivial
          have HY := Lib.hid (And.intro y0 (And.intro y1 (And.intro y2 y3)))
          go_wp2_with (first
            | (go_at_call 17; clear T0; go_must (refine HF1.out.mono ?_); rintro e w5 ⟨rfl, m5, P5⟩; have T1 : RowKit.Hid True := trivial
               have M5 := HM.out.moved m5 P5
               obtain ⟨q0, q1, q2, q3, _⟩ := M5.bL.hand hk
               clear y0 y1 y2 y3)
            | (go_at_call 17; clear T1; go_must (refine (HF2.out _ P5).mono ?_); rintro e w6 ⟨rfl, m6, P6⟩
               have M6 := M5.moved m6 P6
               have hfz6 := M6.bT.unfrozen rfl (show k < 4 * 1 by omega)
               obtain ⟨gT', hgT', _, zT6⟩ := M6.bT.at (goneV_get T (show k < 4 from hk))
               cases hgT'
               have M7 := M6.setT hk false
               obtain ⟨s0, s1, s2, s3, _⟩ := M7.bL.hand hk
               clear q0 q1 q2 q3)
            | (at_builtin; go_must (refine wp_append elemH rfl _ _ rfl rfl (M7.bD.gr (Gr.alloc _ _)) rfl (src_hand _ (L k) _ Try.underlying29 _ (by simp)) m1 m2 (Nat.le_trans M7.gr0.size (Gr.alloc _ _).size) ?_); intro ad8 cap8 w8 o8 k8 f8
               have M8 := (M7.more (Gr.alloc _ _)).app k8 o8 f8)
            | fail)
          have I8 := stale_more HI2.out
          obtain ⟨D8, hD8e⟩ : ∃ D8, D8 = D ++ [L k] := ⟨_, rfl⟩
          have hlen : D.length + 1 = D8.length := by rw [hD8e]; simp
          have hD8 : D8.length ≤ i + 1 := by omega
          rw [← hD8e] at M8 I8
          rw [hlen]
          generalize upd T k false = T8 at *
          obtain ⟨S8, hS8⟩ : ∃ S8, S8 = S := ⟨_, rfl⟩
          obtain ⟨p8, hp8⟩ : ∃ p8, p8 = p' := ⟨_, rfl⟩
          obtain ⟨L8, hL8⟩ : ∃ L8, L8 = L := ⟨_, rfl⟩
          rw [← hS8, ← hp8, ← hL8] at M8
          rw [← hp8, ← hL8] at I8
          clear hS8 hp8 hL8 hD8e hlen
          have HM8 := Lib.hid M8
          have HI8 := Lib.hid I8
          clear M8 I8
          go_loopw [14] (fun v wr => ∃ j : Nat, j ≤ D8.length ∧ v = .int .i64 (j : Int) ∧ SM w wr S8 g p8 gL gT ad8 cap8 L8 T8 D8) (fun v _ => D8.length - (intOf v).toNat)
          case atStart => exact ⟨0, Nat.zero_le _, rfl, HM8.out⟩
          case round =>
            clear HM8
            obtain ⟨j, hj, rfl, hM⟩ := hrel
            by_cases hjl : j < D8.length
            · have hd := HI8.out.dead _ (List.getElem_mem hjl)
              have HLd := Lib.hid (Load_pl hM.pl hd.load)
              have HSt := Lib.hid (fun w' (h : Pl w w' S8 g p8) => Store_pl (b := []) (ad := none) (cap := 0) (n := 0) h (fun i hi => absurd hi (Nat.not_lt_zero _)) rfl (by decide) (hd.store 0 []))
              obtain ⟨gd, rfl, c0, c1, c2, c3⟩ := hM.bD.hand hjl
              generalize D8[j] = xd at *
              have HM := Lib.hid hM
              clear hM hd
              go_wp2_with (first
                | (go_at_call 16; go_must (refine HLd.out.mono ?_); rintro e w9 ⟨ad9, c9, rfl, o9, k9⟩
                   have M9 := HM.out.more k9
                   have d0 := k9.cell c0; have d1 := k9.cell c1; have d2 := k9.cell c2; have d3 := k9.cell c3
                   clear c0 c1 c2 c3 o9)
                | (go_at_call 14; go_must (refine (HSt.out _ M9.pl).mono ?_); rintro e w10 ⟨rfl, m10, P10⟩; have M10 := M9.moved m10 P10)
                | fail)
              go_roundw
              case rel => exact ⟨j + 1, hjl, by go_num, M10⟩
              case measure => simp [intOf]; omega
            · obtain rfl : j = D8.length := by omega
              have HM8 := Lib.hid hM
              clear hM
              go_wp2
              go_loopw [17] (fun v wr => ∃ j : Nat, j ≤ 4 ∧ v = .int .i64 (j : Int) ∧ SM w wr S8 g p8 gL gT ad8 cap8 L8 T8 D8) (fun v _ => 4 - (intOf v).toNat)
              case atStart => exact ⟨0, Nat.zero_le _, rfl, HM8.out⟩
              case round =>
                clear HM8
                obtain ⟨j, hj, rfl, hM⟩ := hrel
                by_cases hj4 : j < 4
                · obtain ⟨q0, q1, q2, q3, _⟩ := hM.bL.hand hj4
                  rcases hld : loadF p8 (L8 j) with ⟨b, er⟩
                  have HLd := Lib.hid (Load_pl hM.pl hld)
                  have HM := Lib.hid hM
                  have HTg := Lib.hid (goneV_get T8 (show j < 4 from hj4))
                  cases hTj : T8 j with
                  | true =>
                    obtain ⟨i9, l9, r1, _, r3⟩ := HI8.out.live j hj4 hTj
                    have her : er = 0 := by have := r1.load; rw [hld] at this; exact congrArg Prod.snd this
                    rw [hld] at r3
                    simp only at r3
                    subst her
                    rw [hTj] at HTg
                    have HB0 := Lib.hid r3
                    have hbl : 0 < b.length := (List.getElem?_eq_some_iff.1 r3).1
                    have hj2 : ((UInt8.ofNat j).toNat : Int) = (j : Int) := by rw [UInt8.toNat_ofNat']; omega
                    clear hM hld r1 r3 hTj
                    go_wp2_with (first
                      | (go_at_call 16; go_must (refine HLd.out.mono ?_); rintro e w9 ⟨ad9, c9, rfl, o9, k9⟩
                         have M9 := HM.out.more k9
                         obtain ⟨gT', hgT', _, zt⟩ := M9.bT.at HTg.out
                         cases hgT'
                         have hb0 : (bv b)[0]? = some (.int .u8 ((UInt8.ofNat j).toNat : Int)) := by unfold bv; rw [List.getElem?_map, HB0.out]; rfl
                         rw [hj2] at hb0
                         obtain ⟨gb, rfl, _, zb⟩ := o9.at hb0
                         clear hb0 o9)
                      | fail)
                    go_roundw
                    case rel => exact ⟨j + 1, hj4, by go_num, M9⟩
                    case measure => simp [intOf]; omega
                  | false =>
                    rw [hTj] at HTg
                    clear hM hld hTj
                    go_wp2_with (first
                      | (go_at_call 16; go_must (refine HLd.out.mono ?_); rintro e w9 ⟨ad9, c9, rfl, o9, k9⟩
                         have M9 := HM.out.more k9
                         obtain ⟨gT', hgT', _, zt⟩ := M9.bT.at HTg.out
                         cases hgT'
                         clear o9)
                      | fail)
                    go_roundw
                    case rel => exact ⟨j + 1, hj4, by go_num, M9⟩
                    case measure => simp [intOf]; omega
                · obtain rfl : j = 4 := by omega
                  have HM8 := Lib.hid hM
                  clear hM
                  go_wp2
                  go_roundw
                  case rel => exact ⟨i + 1, S8, p8, ad8, cap8, L8, T8, D8, hib, hi2, hD8, rfl, by go_num, HM8.out, HI8.out⟩
                  case measure => simp [intOf]; omega
        | false =>
          rw [hT] at zT
          have hm1 : 1 ≤ 1 + i % 64 := by omega
          have hm2 : 1 + i % 64 ≤ 64 := by omega
          obtain ⟨r, x9, p1, p2, p3, f1, f2, f3, hI2⟩ := hI.make hM.pl.ok hk hT hm1 hm2
          obtain ⟨mm, hmm⟩ : ∃ mm, mm = i % 64 := ⟨_, rfl⟩
          have hmt : (i : Int).tmod 64 = (mm : Int) := by rw [hmm]; rfl
          have hml : mm < 64 := by omega
          have hmc : (((1 + i % 64 : Nat)) : Int) = 1 + (mm : Int) := by omega
          rw [hmc] at f2
          have hk2 : (k : Int) = ((UInt8.ofNat k).toNat : Int) := by rw [UInt8.toNat_ofNat']; omega
          have HK2 := Lib.hid hk2
          have HF1 := Lib.hid (Make_pl hM.pl (fun j hj => Nat.le_trans (hI.gen j hj) (by omega)) f1)
          have HF2 := Lib.hid (fun w' (h : Pl w w' S g p1) => Alloc_pl h f2)
          have HF3 := Lib.hid (fun w' S' ad (h : Pl w w' S' g p2) hb => Store_pl (ad := ad) (n := 1) (cap := 1) (b := [UInt8.ofNat k]) h hb rfl (by decide) f3)
          have I8 := hI2
          clear hM hI f1 f2 f3 hI2 hmm hk2 hmc y0 y1 y2 y3 hm1 hm2
          obtain ⟨xr, xg, xo, xl⟩ := x9
          go_wp2_with (first
            | (go_at_call 12; go_must (refine HF1.out.mono ?_); rintro e w5 ⟨rfl, m5, P5⟩
               have M5 := HM.out.moved m5 P5)
            | (go_at_call 13; go_must (refine (HF2.out _ P5).mono ?_); rintro e w6 ⟨rfl, S6, m6, P6⟩
               have oh := Out.new P6 (.cells #[.int .i64 xr, .int .i64 xg, .int .i64 xo, .int .i64 xl] 33)
               have M6 := (M5.moved m6 P6).more (Gr.alloc w6 (.cells #[.int .i64 xr, .int .i64 xg, .int .i64 xo, .int .i64 xl] 33))
               have bh := Blk.new w6 33 #[.int .i64 xr, .int .i64 xg, .int .i64 xo, .int .i64 xl]
               have hgh : gL < w6.heap.size := (M5.moved m6 P6).oL.lt
               have hgh2 : gT < w6.heap.size := (M5.moved m6 P6).oT.lt)
            | (go_at_call 14
               go_must (refine (HF3.out _ S6 _ (M6.more (Gr.alloc _ _)).pl (bytes_new _ #[.int .u8 (k : Int)] 5 [UInt8.ofNat k] (by unfold bv; rw [HK2.out]; rfl) _ (by simp))).mono ?_)
               rintro e w7 ⟨rfl, m7, P7⟩
               have M7 := (M6.more (Gr.alloc _ (.cells #[.int .u8 (k : Int)] 5))).moved m7 P7
               have bh7 := m7.blk (bh.alloc (.cells #[.int .u8 (k : Int)] 5)) (oh.more (Gr.alloc _ (.cells #[.int .u8 (k : Int)] 5)))
               obtain ⟨h0, h1, h2, h3, _⟩ := Blk.four bh7
               obtain ⟨q0, q1, q2, q3, qf⟩ := M7.bL.hand hk
               have f0 := qf (k * 4); have f1 := qf (k * 4 + 1); have f2 := qf (k * 4 + 2); have f3 := qf (k * 4 + 3)
               have ML := M7.setL hk ⟨xr, xg, xo, xl⟩
               obtain ⟨gT', hgT', _, zT7⟩ := ML.bT.at (goneV_get T (show k < 4 from hk))
               cases hgT'
               have hfz7 := ML.bT.unfrozen rfl (show k < 4 * 1 by omega)
               have M8 := ML.setT hk true)
            | fail)
          have hD8 : D.length ≤ i + 1 := by omega
          generalize upd T k true = T8 at *
          generalize upd L k ⟨xr, xg, xo, xl⟩ = L8 at *
          obtain ⟨S8, hS8⟩ : ∃ S8, S8 = S6 := ⟨_, rfl⟩
          obtain ⟨p8, hp8⟩ : ∃ p8, p8 = p3 := ⟨_, rfl⟩
          obtain ⟨D8, hD8e⟩ : ∃ D8, D8 = D := ⟨_, rfl⟩
          obtain ⟨ad8, had8⟩ : ∃ ad8, ad8 = adD := ⟨_, rfl⟩
          obtain ⟨cap8, hcap8⟩ : ∃ cap8, cap8 = capD := ⟨_, rfl⟩
          rw [← hS8, ← hp8, ← hD8e, ← had8, ← hcap8] at M8
          rw [← hp8, ← hD8e] at I8
          rw [← hD8e] at hD8 ⊢
          rw [← had8, ← hcap8]
          clear hS8 hp8 hD8e had8 hcap8 HK2
          have HM8 := Lib.hid M8
          have HI8 := Lib.hid I8
          clear M8 I8
          go_loopw [14] (fun v wr => ∃ j : Nat, j ≤ D8.length ∧ v = .int .i64 (j : Int) ∧ SM w wr S8 g p8 gL gT ad8 cap8 L8 T8 D8) (fun v _ => D8.length - (intOf v).toNat)
          case atStart => exact ⟨0, Nat.zero_le _, rfl, HM8.out⟩
          case round =>
            clear HM8
            obtain ⟨j, hj, rfl, hM⟩ := hrel
            by_cases hjl : j < D8.length
            · have hd := HI8.out.dead _ (List.getElem_mem hjl)
              have HLd := Lib.hid (Load_pl hM.pl hd.load)
              have HSt := Lib.hid (fun w' (h : Pl w w' S8 g p8) => Store_pl (b := []) (ad := none) (cap := 0) (n := 0) h (fun i hi => absurd hi (Nat.not_lt_zero _)) rfl (by decide) (hd.store 0 []))
              obtain ⟨gd, rfl, c0, c1, c2, c3⟩ := hM.bD.hand hjl
              generalize D8[j] = xd at *
              have HM := Lib.hid hM
              clear hM hd
              go_wp2_with (first
                | (go_at_call 16; go_must (refine HLd.out.mono ?_); rintro e w9 ⟨ad9, c9, rfl, o9, k9⟩
                   have M9 := HM.out.more k9
                   have d0 := k9.cell c0; have d1 := k9.cell c1; have d2 := k9.cell c2; have d3 := k9.cell c3
                   clear c0 c1 c2 c3 o9)
                | (go_at_call 14; go_must (refine (HSt.out _ M9.pl).mono ?_); rintro e w10 ⟨rfl, m10, P10⟩; have M10 := M9.moved m10 P10)
                | fail)
              go_roundw
              case rel => exact ⟨j + 1, hjl, by go_num, M10⟩
              case measure => simp [intOf]; omega
            · obtain rfl : j = D8.length := by omega
              have HM8 := Lib.hid hM
              clear hM
              go_wp2
              go_loopw [17] (fun v wr => ∃ j : Nat, j ≤ 4 ∧ v = .int .i64 (j : Int) ∧ SM w wr S8 g p8 gL gT ad8 cap8 L8 T8 D8) (fun v _ => 4 - (intOf v).toNat)
              case atStart => exact ⟨0, Nat.zero_le _, rfl, HM8.out⟩
              case round =>
                clear HM8
                obtain ⟨j, hj, rfl, hM⟩ := hrel
                by_cases hj4 : j < 4
                · obtain ⟨q0, q1, q2, q3, _⟩ := hM.bL.hand hj4
                  rcases hld : loadF p8 (L8 j) with ⟨b, er⟩
                  have HLd := Lib.hid (Load_pl hM.pl hld)
                  have HM := Lib.hid hM
                  have HTg := Lib.hid (goneV_get T8 (show j < 4 from hj4))
                  cases hTj : T8 j with
                  | true =>
                    obtain ⟨i9, l9, r1, _, r3⟩ := HI8.out.live j hj4 hTj
                    have her : er = 0 := by have := r1.load; rw [hld] at this; exact congrArg Prod.snd this
                    rw [hld] at r3
                    simp only at r3
                    subst her
                    rw [hTj] at HTg
                    have HB0 := Lib.hid r3
                    have hbl : 0 < b.length := (List.getElem?_eq_some_iff.1 r3).1
                    have hj2 : ((UInt8.ofNat j).toNat : Int) = (j : Int) := by rw [UInt8.toNat_ofNat']; omega
                    clear hM hld r1 r3 hTj
                    go_wp2_with (first
                      | (go_at_call 16; go_must (refine HLd.out.mono ?_); rintro e w9 ⟨ad9, c9, rfl, o9, k9⟩
                         have M9 := HM.out.more k9
                         obtain ⟨gT', hgT', _, zt⟩ := M9.bT.at HTg.out
                         cases hgT'
                         have hb0 : (bv b)[0]? = some (.int .u8 ((UInt8.ofNat j).toNat : Int)) := by unfold bv; rw [List.getElem?_map, HB0.out]; rfl
                         rw [hj2] at hb0
                         obtain ⟨gb, rfl, _, zb⟩ := o9.at hb0
                         clear hb0 o9)
                      | fail)
                    go_roundw
                    case rel => exact ⟨j + 1, hj4, by go_num, M9⟩
                    case measure => simp [intOf]; omega
                  | false =>
                    rw [hTj] at HTg
                    clear hM hld hTj
                    go_wp2_with (first
                      | (go_at_call 16; go_must (refine HLd.out.mono ?_); rintro e w9 ⟨ad9, c9, rfl, o9, k9⟩
                         have M9 := HM.out.more k9
                         obtain ⟨gT', hgT', _, zt⟩ := M9.bT.at HTg.out
                         cases hgT'
                         clear o9)
                      | fail)
                    go_roundw
                    case rel => exact ⟨j + 1, hj4, by go_num, M9⟩
                    case measure => simp [intOf]; omega
                · obtain rfl : j = 4 := by omega
                  have HM8 := Lib.hid hM
                  clear hM
                  go_wp2
                  go_roundw
                  case rel => exact ⟨i + 1, S8, p8, ad8, cap8, L8, T8, D8, hib, hi2, hD8, rfl, by go_num, HM8.out, HI8.out⟩
                  case measure => simp [intOf]; omega
      · have HG := Lib.hid hM.gr0
        clear hM hI
        go_wp2
        go_ret
        exact ⟨rfl, HG.out⟩
    · have HG := Lib.hid hM.gr0
      clear hM hI
      go_wp2
      go_ret
      exact ⟨rfl, HG.out⟩
end Go.Proofs.Ytfnimpgphagnfaa
