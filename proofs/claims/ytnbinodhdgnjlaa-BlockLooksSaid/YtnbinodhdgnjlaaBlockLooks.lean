/- Layer 13 (block): BlockLooks answers true. -/
import Derived.Test.YtnbinodhdgnjlaaBlockMeets
import Derived.Test.YtnbinodhdgnjlaaBlockRLook
import Derived.Test.YtnbinodhdgnjlaaOpenT
namespace Go.Proofs.Ytnbinodhdgnjlaa
set_option linter.unusedVariables false
set_option linter.unusedSimpArgs false
open Go.RowKit Bk
open Go.Op (bytesLess)
/-- two looks at one list -/
structure LI (w wr : World) (g gm base p : Nat) (adl : Option Addr) (cpl bl : Nat) (L : List Pr) (A B : Int) : Prop where
  gr : Gr w wr
  lk : ∃ R', LK wr g base p L A R'
  aw : Away wr g gm
  rl : RL wr gm adl cpl L B
  row : Owns wr bl 31 2 adl cpl L.length (pv L)
section
variable {w wr w1 : World} {g gm base p : Nat} {adl : Option Addr} {cpl bl : Nat} {L : List Pr} {A B A' B' R' : Int}
theorem LI.look (h : LI w wr g gm base p adl cpl bl L A B) (hwg : w.heap.size ≤ g) (hne : gm ≠ g) (hal : ∀ x, adl = some x → x.block ≠ g ∧ x.block ≠ gm) (k : Kept g wr w1) (lk : LK w1 g base p L A' R') : LI w w1 g gm base p adl cpl bl L A' B :=
  ⟨Gr.of_far h.gr k.far hwg, ⟨R', lk⟩, k.away gm (Blk.lt h.rl) h.aw, Blk.grown h.rl k.far (fun e => hne (Option.some.inj e)), h.row.grown k.far (fun x hx e => (hal x hx).1 (Option.some.inj e))⟩
theorem LI.rlook (h : LI w wr g gm base p adl cpl bl L A B) (hwg : w.heap.size ≤ gm) (hne : gm ≠ g) (hal : ∀ x, adl = some x → x.block ≠ g ∧ x.block ≠ gm) (k : wr.grownBy w1 (some gm)) (rl : RL w1 gm adl cpl L B') : LI w w1 g gm base p adl cpl bl L A B' := by
  obtain ⟨R', lk⟩ := h.lk
  exact ⟨Gr.of_far h.gr k hwg, ⟨R', KB.away lk h.aw hne k⟩, h.aw.same (k.block g lk.lt.1 (fun e => hne (Option.some.inj e).symm)), rl, h.row.grown k (fun x hx e => (hal x hx).2 (Option.some.inj e))⟩
theorem LI.more (h : LI w wr g gm base p adl cpl bl L A B) (k : Gr wr w1) : LI w w1 g gm base p adl cpl bl L A B := by
  obtain ⟨R', lk⟩ := h.lk
  exact ⟨h.gr.trans k, ⟨R', KB.gr lk k⟩, h.aw.same (k.block g lk.lt.1), Blk.gr h.rl k, h.row.gr k⟩
end
def LIa (w : World) (g gm base p : Nat) (adl : Option Addr) (cpl bl : Nat) (L : List Pr) : World → Prop := fun wr => ∃ A B, LI w wr g gm base p adl cpl bl L A B
def LIb (w : World) (g gm base p : Nat) (adl : Option Addr) (cpl bl : Nat) (L : List Pr) (s : Int) : World → Prop := fun wr => ∃ B, LI w wr g gm base p adl cpl bl L s B
def LIc (w : World) (g gm base p : Nat) (adl : Option Addr) (cpl bl : Nat) (L : List Pr) (s : Int) : World → Prop := fun wr => ∃ A, LI w wr g gm base p adl cpl bl L A s
section
variable {w wr w1 : World} {g gm base p : Nat} {adl : Option Addr} {cpl bl : Nat} {L : List Pr} {A B A' B' R' s : Int}
theorem LI.both (h : LIb w g gm base p adl cpl bl L s wr) (k : LIc w g gm base p adl cpl bl L s wr) : LI w wr g gm base p adl cpl bl L s s := by
  obtain ⟨B, h⟩ := h
  obtain ⟨A, k⟩ := k
  exact ⟨h.gr, h.lk, h.aw, k.rl, h.row⟩
theorem LI.keepGr (k : Gr wr w1) : Keeping (LIa w g gm base p adl cpl bl L) (LIb w g gm base p adl cpl bl L s) (LIc w g gm base p adl cpl bl L s) wr w1 :=
  ⟨fun ⟨A, B, h⟩ => ⟨A, B, h.more k⟩, fun ⟨B, h⟩ => ⟨B, h.more k⟩, fun ⟨A, h⟩ => ⟨A, h.more k⟩⟩
theorem LI.keepLook (hwg : w.heap.size ≤ g) (hne : gm ≠ g) (hal : ∀ x, adl = some x → x.block ≠ g ∧ x.block ≠ gm) (k : Kept g wr w1) (lk : LK w1 g base p L s R') :
    Keeping (LIa w g gm base p adl cpl bl L) (LIb w g gm base p adl cpl bl L s) (LIc w g gm base p adl cpl bl L s) wr w1 :=
  ⟨fun ⟨A, B, h⟩ => ⟨s, B, h.look hwg hne hal k lk⟩, fun ⟨B, h⟩ => ⟨B, h.look hwg hne hal k lk⟩, fun ⟨A, h⟩ => ⟨s, h.look hwg hne hal k lk⟩⟩
theorem LI.keepRef (hwg : w.heap.size ≤ gm) (hne : gm ≠ g) (hal : ∀ x, adl = some x → x.block ≠ g ∧ x.block ≠ gm) (k : wr.grownBy w1 (some gm)) (rl : RL w1 gm adl cpl L s) :
    Keeping (LIa w g gm base p adl cpl bl L) (LIb w g gm base p adl cpl bl L s) (LIc w g gm base p adl cpl bl L s) wr w1 :=
  ⟨fun ⟨A, B, h⟩ => ⟨A, s, h.rlook hwg hne hal k rl⟩, fun ⟨B, h⟩ => ⟨s, h.rlook hwg hne hal k rl⟩, fun ⟨A, h⟩ => ⟨A, h.rlook hwg hne hal k rl⟩⟩
end
theorem pairAt_agg (L : List Pr) (A : Int) : (Value.agg #[.string (str (pairAt L A).1.1), .string (str (pairAt L A).1.2)]) = .agg #[.string (str (pairAt L A).1.1), .string (str (pairAt L A).1.2)] := rfl
set_option maxRecDepth 100000 in
set_option maxHeartbeats 4000000 in
theorem BlockLooks_any (ad : Option Addr) (cap : Nat) (l : List Pr) (x : Int) (ads : Option Addr) (lens caps : Nat) (st : List (Int × List UInt8)) (w : World) (hr : Row w ad (pv l)) (hl : l.length ≤ 9223372036854775807) (hst : st.length = lens) (hsl : lens ≤ 9223372036854775807) (hrs : Row w ads (stv st)) :
    Calls Try.prog 7 #[.slice ad l.length cap, .int .i64 x, .slice ads lens caps] w fun e w' => e = .returned (.bool true) ∧ Gr w w' := by
  subst hst
  have HRI := Lib.hid (fun w hr => rising_any ad cap l w hr hl)
  have HRW := Lib.hid hr
  have HST := Lib.hid hrs
  clear hr hrs
  have hLl := riseF_len l
  have hs0 := rise_sorted l
  generalize riseF l = L at *
  have HS := Lib.hid hs0
  clear hs0
  obtain ⟨j0, e1, hj⟩ := u64_mod x 64 (by decide) (by decide)
  have e1 : IntKind.i64.wrap ((IntKind.u64.wrap x).tmod 64) = (j0 : Int) := e1
  obtain ⟨p, hp⟩ : ∃ p, p = j0 + 1 := ⟨_, rfl⟩
  have e2 : (1 : Int) + (j0 : Int) = (p : Int) := by omega
  have hp1 : 1 ≤ p := by omega
  have hp2 : p ≤ 64 := by omega
  clear hp hj
  have T0 : RowKit.Hid True := trivial
  rcases chk_rise (l := L) (p := (p : Int)) (by omega) (by omega) HS.out with hc | hc
  · have HB1 := Lib.hid (fun w ad cap out hr ho => Build_at ad L.length cap L (p : Int) w 0 out rfl hr (by omega) hc ho)
    have hok := chkF_ok hc
    have hpa := pairs_build hp1 hp2 (by omega) hok.1 hc
    have hpt := parts_build (itv := p) (l := L) hp1 hp2 (by omega)
    have hza : (buildF p L).length ≤ 6 + 2211 * L.length := Nat.le_trans (build_sz (itv := p) hok.1).1 (szN_le hok.1 _)
    have HO1 := Lib.hid (show (if (0 : Nat) = 0 then buildF (p : Int).toNat L else []) = buildF p L from rfl)
    have HOP := Lib.hid (fun ad cap w hc hm hb => Open_ok ad cap (buildF p L) w L _ p L.length hpa hpt (by omega) hc hm hb)
    have HLK := Lib.hid (fun w g base h => open_look (bx := buildF p L) (L := L) (p := p) (w := w) (g := g) (base := base) hp1 rfl h)
    have HPR := Lib.hid (fun w g base A R' h hA hA2 hb => Pair_any w g base p L A R' h hp1 hp2 (by omega) hok.1 hA hA2 hb)
    have HSK := Lib.hid (fun w g base A R' key h => Seek_any w g base p L A R' key h hp1 hp2 (by omega) hok.1 HS.out)
    clear hc hpa hpt hok
    generalize buildF p L = bx at *
    go_enter Try.func7, Try.ntmps7
    go_wp2_with (first
      | (go_at_call 17; refine (none_any _).mono ?_; rintro e w0 ⟨rfl, rfl⟩)
      | (go_at_call 18; clear T0; refine (Pair_none _).mono ?_; rintro e w1 ⟨rfl, g1⟩; have T1 : RowKit.Hid True := trivial)
      | (go_at_call 9; clear T1; refine (blocked_any _).mono ?_; rintro e w2 ⟨rfl, g2⟩; have G2 := (g1.trans (Gr.alloc _ _)).trans g2; have T2 : RowKit.Hid True := trivial)
      | (go_at_call 19; (with_reducible refine (Seek_none _ _).mono ?_); rintro e w3 ⟨rfl, rfl⟩)
      | (go_at_call 20; (with_reducible refine (Prev_none _).mono ?_); rintro e w3 ⟨rfl, rfl⟩)
      | (go_at_call 10; refine (HRI.out _ (HRW.out.gr G2)).mono ?_; rintro e w3 ⟨adl, cpl, rfl, ol, g3⟩)
      | (go_at_call 11; (refine (HB1.out _ _ _ _ ol.row HO1.out).mono ?_); rintro e w4 ⟨ad3, cp3, rfl, o3, g4⟩; have ol3 := ol.gr g4; have hc3 := o3.2.1; have hm3 := o3.2.2.1)
      | (go_at_call 16; (refine (HOP.out _ _ _ hc3 hm3 o3.bytes).mono ?_); rintro e w5 ⟨g, rfl, hg4, g5, kb5⟩; have lk5 := HLK.out _ _ _ kb5)
      | fail)
    have hg : g < w5.heap.size := lk5.lt.1
    have hww := ((G2.trans g3).trans g4).trans g5
    have hwg : w.heap.size ≤ g := by have := ((G2.trans g3).trans g4).size; omega
    have hbg : w4.heap.size ≤ g := hg4
    have hal : ∀ x, adl = some x → x.block ≠ g ∧ x.block ≠ w5.heap.size := fun x hx => by have := (ol3.lt x hx).2; exact ⟨by omega, by omega⟩
    have hgm : w.heap.size ≤ w5.heap.size := hww.size
    have hne : w5.heap.size ≠ g := by omega
    have hl0 : LI w (w5.alloc (.cells #[.slice adl L.length cpl, .int .i64 (-1)] 52)) g w5.heap.size w4.heap.size p adl cpl w2.heap.size L (-1) (-1) :=
      ⟨hww.trans (Gr.alloc _ _), ⟨-1, KB.gr lk5 (Gr.alloc _ _)⟩, (KB.fresh lk5 (Nat.le_refl _)).same ((Gr.alloc _ _).block g hg), Blk.new w5 _ _, (ol3.gr g5).gr (Gr.alloc _ _)⟩
    have ho0 := (o3.gr g5).gr (Gr.alloc w5 (.cells #[.slice adl L.length cpl, .int .i64 (-1)] 52))
    obtain ⟨gm, hgmE⟩ : ∃ gm, gm = w5.heap.size := ⟨_, rfl⟩
    have h3b : w3.heap.size ≤ w4.heap.size := g4.size
    have h3l : ∀ x, adl = some x → x.block < w3.heap.size := fun x hx => (ol.lt x hx).2
    have h3a : ∀ x, ad3 = some x → w3.heap.size ≤ x.block ∧ x.block < w4.heap.size := fun x hx => ⟨(o3.lt x hx).1, (o3.lt x hx).2⟩
    have h4m : w4.heap.size ≤ w5.heap.size := g5.size
    have h3w : w.heap.size ≤ w3.heap.size := (G2.trans g3).size
    rw [← hgmE] at hl0 hal hgm hne h4m ⊢
    have HL0 := Lib.hid hl0
    have HO0 := Lib.hid ho0
    have HAL := Lib.hid hal
    have HA3 := Lib.hid h3a
    have HL3 := Lib.hid h3l
    clear hl0 ho0 hal h3a h3l hgmE
    generalize w5.alloc (.cells #[.slice adl L.length cpl, .int .i64 (-1)] 52) = w6 at *
    go_loopw [12] (fun v12 wr => ∃ (i : Nat) (bs : List UInt8), i ≤ bx.length ∧ bs.length = bx.length ∧ v12 = .int .i64 (i : Int) ∧ LI w wr g gm w4.heap.size p adl cpl w2.heap.size L (-1) (-1) ∧ Owns wr w3.heap.size 5 1 ad3 cp3 bx.length (bv bs)) (fun v12 _ => bx.length - (intOf v12).toNat)
    case atStart => exact ⟨0, bx, Nat.zero_le _, rfl, rfl, HL0.out, HO0.out⟩
    case round =>
      obtain ⟨i, bs, hi, hbs, rfl, hl, ho⟩ := hrel
      by_cases hib : i < bx.length
      · obtain ⟨ga, rfl, hga, hcell⟩ := ho.at (bv_get bs i (by omega))
        have hfz := ho.unfrozen rfl (show i < bx.length * 1 by omega)
        have HS := Lib.hid (ho.store rfl hib (.int .u8 111))
        have HLI := Lib.hid hl
        clear hl ho
        go_wp2
        go_roundw
        case rel =>
          refine ⟨i + 1, bs.set i 111, hib, by simpa using hbs, by go_num, ?_, by rw [← bv_set]; exact HS.out⟩
          have hA := HA3.out _ rfl
          have hk := grown_set wr ga i (.int .u8 111)
          obtain ⟨RA, lk⟩ := HLI.out.lk
          exact ⟨Gr.of_far HLI.out.gr hk (by simp only at hA; omega), ⟨RA, KB.grown lk hk (fun e => by have := Option.some.inj e; simp only at hA; omega) (fun x e => by cases e; exact hA.2)⟩, HLI.out.aw.same (hk.block g lk.lt.1 (fun e => by have := Option.some.inj e; simp only at hA; omega)), Blk.grown HLI.out.rl hk (fun e => by have := Option.some.inj e; simp only at hA; omega), HLI.out.row.grown hk (fun x hx e => by have h1 := HL3.out x hx; have := Option.some.inj e; simp only at hA; omega)⟩
        case measure => simp [intOf]; omega
      · obtain rfl : i = bx.length := by omega
        have HLI := Lib.hid hl
        clear hl ho
        go_wp2
        go_loopw [13] (fun v13 wr => ∃ (i : Nat) (A : Int), i ≤ st.length ∧ -1 ≤ A ∧ A ≤ (L.length : Int) ∧ v13 = .int .i64 (i : Int) ∧ LI w wr g gm w4.heap.size p adl cpl w2.heap.size L A A) (fun v _ => st.length - (intOf v).toNat)
        case atStart => exact ⟨0, -1, Nat.zero_le _, by omega, by omega, rfl, HLI.out⟩
        case round =>
          clear HLI HL0 HO0 HA3 HL3 HRI HB1 HOP HLK HO1
          obtain ⟨i, A, hi, hA, hA2, rfl, hl⟩ := hrel
          by_cases hib : i < st.length
          · by_cases hi2 : i < 150
            · obtain ⟨bz, off, rfl, z1, z2⟩ := (HST.out.gr hl.gr).step i hib
              have HZ := Lib.hid (HST.out.step i hib)
              generalize st[i].1 = what at *
              generalize st[i].2 = key at *
              obtain ⟨RA, lkA⟩ := hl.lk
              have HLI := Lib.hid hl
              clear hl
              by_cases c1 : what = 1
              · subst c1
                go_wp2_with (first
                  | (go_at_call 21; refine (First_any _ _ _ _ _ _ _ lkA).mono ?_; rintro e w7 ⟨rfl, k7, lk7⟩; have h7 := HLI.out.look hwg hne HAL.out k7 lk7; clear k7 lk7)
                  | (go_at_call 22; refine (rFirst_any _ _ _ _ _ _ h7.rl).mono ?_; rintro e w8 ⟨rfl, k8, rl8⟩; have h8 := h7.rlook hgm hne HAL.out k8 rl8; have hs8 := posF_in L.length (0); obtain ⟨R8, lk8⟩ := h8.lk; clear k8 rl8 h7; generalize Go.Proofs.Ytnbinodhdgnjlaa.posF L.length (0) = s8 at *)
                  | (go_at_call 18; refine (HPR.out _ _ _ _ _ lk8 hs8.1 hs8.2 hbg).mono ?_; rintro e w9 ⟨rfl, k9, R9, lk9⟩; have h9 := h8.look hwg hne HAL.out k9 lk9; clear lk9 k9)
                  | (go_at_call 29; refine (rPair_any _ _ _ _ _ _ (by omega) hs8.1 hs8.2 (h9.more (Gr.alloc _ _)).row.row (h9.more (Gr.alloc _ _)).rl).mono ?_; rintro e w10 ⟨rfl, g10⟩
                     have h10 := (h9.more (Gr.alloc _ _)).more g10
                     obtain ⟨c0, c1⟩ := Blk.two (((Blk.new w9 31 #[.string (str (pairAt L s8).1.1), .string (str (pairAt L s8).1.2)]).gr g10).alloc (.cells #[.string (str (pairAt L s8).1.1), .string (str (pairAt L s8).1.2)] 31))
                     have h11 := h10.more (Gr.alloc w10 (.cells #[.string (str (pairAt L s8).1.1), .string (str (pairAt L s8).1.2)] 31))
                     clear h9 h10 h8)
                  | fail
                  )
                go_roundw
                case rel => exact ⟨i + 1, s8, hib, hs8.1, hs8.2, by go_num, h11⟩
                case measure => simp [intOf]; omega
              by_cases c2 : what = 2
              · subst c2
                go_wp2_with (first
                  | (go_at_call 23; refine (Last_any _ _ _ _ _ _ _ (by omega) lkA).mono ?_; rintro e w7 ⟨rfl, k7, lk7⟩; have h7 := HLI.out.look hwg hne HAL.out k7 lk7; clear k7 lk7)
                  | (go_at_call 24; refine (rLast_any _ _ _ _ _ _ (by omega) h7.rl).mono ?_; rintro e w8 ⟨rfl, k8, rl8⟩; have h8 := h7.rlook hgm hne HAL.out k8 rl8; have hs8 := posF_in L.length ((L.length : Int) - 1); obtain ⟨R8, lk8⟩ := h8.lk; clear k8 rl8 h7; generalize Go.Proofs.Ytnbinodhdgnjlaa.posF L.length ((L.length : Int) - 1) = s8 at *)
                  | (go_at_call 18; refine (HPR.out _ _ _ _ _ lk8 hs8.1 hs8.2 hbg).mono ?_; rintro e w9 ⟨rfl, k9, R9, lk9⟩; have h9 := h8.look hwg hne HAL.out k9 lk9; clear lk9 k9)
                  | (go_at_call 29; refine (rPair_any _ _ _ _ _ _ (by omega) hs8.1 hs8.2 (h9.more (Gr.alloc _ _)).row.row (h9.more (Gr.alloc _ _)).rl).mono ?_; rintro e w10 ⟨rfl, g10⟩
                     have h10 := (h9.more (Gr.alloc _ _)).more g10
                     obtain ⟨c0, c1⟩ := Blk.two (((Blk.new w9 31 #[.string (str (pairAt L s8).1.1), .string (str (pairAt L s8).1.2)]).gr g10).alloc (.cells #[.string (str (pairAt L s8).1.1), .string (str (pairAt L s8).1.2)] 31))
                     have h11 := h10.more (Gr.alloc w10 (.cells #[.string (str (pairAt L s8).1.1), .string (str (pairAt L s8).1.2)] 31))
                     clear h9 h10 h8)
                  | fail
                  )
                go_roundw
                case rel => exact ⟨i + 1, s8, hib, hs8.1, hs8.2, by go_num, h11⟩
                case measure => simp [intOf]; omega
              by_cases c4 : what = 4
              · subst c4
                go_wp2_with (first
                  | (go_at_call 26; refine (Next_any _ _ _ _ _ _ _ (by omega) hA hA2 lkA).mono ?_; rintro e w7 ⟨rfl, k7, lk7⟩; have h7 := HLI.out.look hwg hne HAL.out k7 lk7; clear k7 lk7)
                  | (go_at_call 27; refine (rNext_any _ _ _ _ _ _ (by omega) hA hA2 h7.rl).mono ?_; rintro e w8 ⟨rfl, k8, rl8⟩; have h8 := h7.rlook hgm hne HAL.out k8 rl8; have hs8 := posF_in L.length (A + 1); obtain ⟨R8, lk8⟩ := h8.lk; clear k8 rl8 h7; generalize Go.Proofs.Ytnbinodhdgnjlaa.posF L.length (A + 1) = s8 at *)
                  | (go_at_call 18; refine (HPR.out _ _ _ _ _ lk8 hs8.1 hs8.2 hbg).mono ?_; rintro e w9 ⟨rfl, k9, R9, lk9⟩; have h9 := h8.look hwg hne HAL.out k9 lk9; clear lk9 k9)
                  | (go_at_call 29; refine (rPair_any _ _ _ _ _ _ (by omega) hs8.1 hs8.2 (h9.more (Gr.alloc _ _)).row.row (h9.more (Gr.alloc _ _)).rl).mono ?_; rintro e w10 ⟨rfl, g10⟩
                     have h10 := (h9.more (Gr.alloc _ _)).more g10
                     obtain ⟨c0, c1⟩ := Blk.two (((Blk.new w9 31 #[.string (str (pairAt L s8).1.1), .string (str (pairAt L s8).1.2)]).gr g10).alloc (.cells #[.string (str (pairAt L s8).1.1), .string (str (pairAt L s8).1.2)] 31))
                     have h11 := h10.more (Gr.alloc w10 (.cells #[.string (str (pairAt L s8).1.1), .string (str (pairAt L s8).1.2)] 31))
                     clear h9 h10 h8)
                  | fail
                  )
                go_roundw
                case rel => exact ⟨i + 1, s8, hib, hs8.1, hs8.2, by go_num, h11⟩
                case measure => simp [intOf]; omega
              by_cases c5 : what = 5
              · subst c5
                go_wp2_with (first
                  | (go_at_call 20; refine (Prev_any _ _ _ _ _ _ _ (by omega) hA hA2 lkA).mono ?_; rintro e w7 ⟨rfl, k7, lk7⟩; have h7 := HLI.out.look hwg hne HAL.out k7 lk7; clear k7 lk7)
                  | (go_at_call 28; refine (rPrev_any _ _ _ _ _ _ (by omega) hA hA2 h7.rl).mono ?_; rintro e w8 ⟨rfl, k8, rl8⟩; have h8 := h7.rlook hgm hne HAL.out k8 rl8; have hs8 := posF_in L.length (A - 1); obtain ⟨R8, lk8⟩ := h8.lk; clear k8 rl8 h7; generalize Go.Proofs.Ytnbinodhdgnjlaa.posF L.length (A - 1) = s8 at *)
                  | (go_at_call 18; refine (HPR.out _ _ _ _ _ lk8 hs8.1 hs8.2 hbg).mono ?_; rintro e w9 ⟨rfl, k9, R9, lk9⟩; have h9 := h8.look hwg hne HAL.out k9 lk9; clear lk9 k9)
                  | (go_at_call 29; refine (rPair_any _ _ _ _ _ _ (by omega) hs8.1 hs8.2 (h9.more (Gr.alloc _ _)).row.row (h9.more (Gr.alloc _ _)).rl).mono ?_; rintro e w10 ⟨rfl, g10⟩
                     have h10 := (h9.more (Gr.alloc _ _)).more g10
                     obtain ⟨c0, c1⟩ := Blk.two (((Blk.new w9 31 #[.string (str (pairAt L s8).1.1), .string (str (pairAt L s8).1.2)]).gr g10).alloc (.cells #[.string (str (pairAt L s8).1.1), .string (str (pairAt L s8).1.2)] 31))
                     have h11 := h10.more (Gr.alloc w10 (.cells #[.string (str (pairAt L s8).1.1), .string (str (pairAt L s8).1.2)] 31))
                     clear h9 h10 h8)
                  | fail
                  )
                go_roundw
                case rel => exact ⟨i + 1, s8, hib, hs8.1, hs8.2, by go_num, h11⟩
                case measure => simp [intOf]; omega
              by_cases c3 : what = 3
              · subst c3
                obtain ⟨s8, hs0⟩ : ∃ s8, s8 = Go.Proofs.Ytnbinodhdgnjlaa.posF L.length (lowF key L : Int) := ⟨_, rfl⟩
                have HSKk := Lib.hid (fun w g base A R' h => HSK.out w g base A R' key h)
                have HRSK := Lib.hid (fun w A hr h => rSeek_any w gm adl cpl L A key (show L.length ≤ 10000 by omega) hr h)
                rw [← hs0] at HSKk HRSK
                have hs8 : -1 ≤ s8 ∧ s8 ≤ (L.length : Int) := by rw [hs0]; exact posF_in _ _
                have HA0 := Lib.hid (show (LIa w g gm w4.heap.size p adl cpl w2.heap.size L) wr from ⟨A, A, HLI.out⟩)
                have HD := Lib.hid (fun w' : World => LI.keepGr (w := w) (g := g) (gm := gm) (base := w4.heap.size) (p := p) (adl := adl) (cpl := cpl) (bl := w2.heap.size) (L := L) (s := s8) (Gr.drew w'))
                clear hs0 HLI lkA
                generalize endF L.length s8 = q8 at *
                go_wp2
                refine region_keeping (LIa w g gm w4.heap.size p adl cpl w2.heap.size L) (LIb w g gm w4.heap.size p adl cpl w2.heap.size L s8) (LIc w g gm w4.heap.size p adl cpl w2.heap.size L s8) HD.out _ [Is ?r0, Is ?r1, Is ?r2, Is (.pointer (some ⟨bz, off + i * 2, none⟩)), Is (.pointer (some ⟨bz, off + i * 2 + 1, none⟩)), Is (.string (str key)), (fun v w' => v = .int .i64 (q8 : Int) ∧ (LIb w g gm w4.heap.size p adl cpl w2.heap.size L s8) w'), Is ?r7, Is ?r8, Is ?r9, Is (.pointer (some ⟨bz, off + i * 2, none⟩)), Is (.pointer (some ⟨bz, off + i * 2 + 1, none⟩)), Is (.string (str key)), (fun v w' => v = .int .i64 (q8 : Int) ∧ (LIc w g gm w4.heap.size p adl cpl w2.heap.size L s8) w'), Is (.int .i64 (q8 : Int)), Is (.int .i64 (q8 : Int))] (by kernel_rfl) (by kernel_rfl) (by kernel_rfl) rfl rfl ⟨Is.stable _, Is.stable _, Is.stable _, Is.stable _, Is.stable _, Is.stable _, (fun _ _ _ h k => ⟨h.1, k.2.1 h.2⟩), Is.stable _, Is.stable _, Is.stable _, Is.stable _, Is.stable _, Is.stable _, (fun _ _ _ h k => ⟨h.1, k.2.2 h.2⟩), Is.stable _, Is.stable _, trivial⟩ ⟨?s0, ?s1, ?s2, ?s3, ?s4, ?s5, ?s6, ?s7, ?s8, ?s9, ?s10, ?s11, ?s12, ?s13, ?s14, ?s15, trivial⟩ ?fin
                case' s0 | s1 | s2 | s3 | s4 | s5 | s6 | s7 | s8 | s9 | s10 | s11 | s12 | s13 | s14 | s15 =>
                  intro ρ wr hρ hg hK
                  simp [readsOf, slotsOf, Op.operands, Call.operands, tmpOf, List.filterMap_cons, List.filterMap_nil, KnownAll, knownOf, srcOf, depsOf, dstOf, Region.binds, nth, Is] at hK
                  obtain ⟨hc, hf, hgl⟩ := hρ
                  try simp only [wantedBy, dstOf, boolOf, nth, List.getD_cons_zero, List.getD_cons_succ, List.getElem?_cons_zero, List.getElem?_cons_succ, Option.bind_some, if_true, hK, BEq.rfl]
                  try go_simp
                  first | exact rfl | (rw [if_pos (by omega)]; exact is_here rfl) | (rw [dif_pos (by omega)]; exact is_here rfl) | exact congrArg (Value.int _) (IntWalk.i64_in _ ⟨by omega, by omega⟩) | skip
                case s5 | s12 =>
                  obtain ⟨A1, B1, h1⟩ := hg.1 HA0.out
                  obtain ⟨b9, o9, e9, z8, z9⟩ := HZ.out
                  cases e9
                  have := h1.gr.cell z9
                  go_simp
                  exact rfl
                case s6 =>
                  obtain ⟨A1, B1, h1⟩ := hg.1 HA0.out
                  obtain ⟨R1, l1⟩ := h1.lk
                  refine (HSKk.out _ _ _ _ _ l1).mono ?_
                  rintro e w7 ⟨rfl, k7, R7, lk7⟩
                  exact ⟨_, rfl, LI.keepLook hwg hne HAL.out k7 lk7, rfl, B1, h1.look hwg hne HAL.out k7 lk7⟩
                case s13 =>
                  obtain ⟨A1, B1, h1⟩ := hg.1 HA0.out
                  refine (HRSK.out _ _ h1.row.row h1.rl).mono ?_
                  rintro e w7 ⟨rfl, k7, rl7⟩
                  exact ⟨_, rfl, LI.keepRef hgm hne HAL.out k7 rl7, rfl, A1, h1.rlook hgm hne HAL.out k7 rl7⟩
                case fin =>
                  intro w1 val hg hH
                  simp only [Holds, Is, Nat.zero_add, Nat.reduceAdd] at hH
                  obtain ⟨h0, h1, h2, h3, h4, h5, h6, h7, h8, h9, h10, h11, h12, h13, h14, h15, _⟩ := hH
                  simp only [List.take_succ_cons, List.take_zero, List.drop_succ_cons, List.drop_zero, putAll, h0, h1, h2, h3, h4, h5, h7, h8, h9, h10, h11, h12, h14, h15, Nat.zero_add, Nat.reduceAdd]
                  have h8 := LI.both h6.2 h13.2
                  obtain ⟨R8, lk8⟩ := h8.lk
                  clear h6 h13 hg
                  go_simp
                  go_wp2_with (first
                    | (go_at_call 18; refine (HPR.out _ _ _ _ _ lk8 hs8.1 hs8.2 hbg).mono ?_; rintro e w9 ⟨rfl, k9, R9, lk9⟩; have h9 := h8.look hwg hne HAL.out k9 lk9; clear lk9 k9)
                    | (go_at_call 29; refine (rPair_any _ _ _ _ _ _ (by omega) hs8.1 hs8.2 (h9.more (Gr.alloc _ _)).row.row (h9.more (Gr.alloc _ _)).rl).mono ?_; rintro e w10 ⟨rfl, g10⟩
                       have h10 := (h9.more (Gr.alloc _ _)).more g10
                       obtain ⟨c0, c1⟩ := Blk.two (((Blk.new w9 31 #[.string (str (pairAt L s8).1.1), .string (str (pairAt L s8).1.2)]).gr g10).alloc (.cells #[.string (str (pairAt L s8).1.1), .string (str (pairAt L s8).1.2)] 31))
                       have h11 := h10.more (Gr.alloc w10 (.cells #[.string (str (pairAt L s8).1.1), .string (str (pairAt L s8).1.2)] 31))
                       clear h9 h10 h8)
                    | fail
                    )
                  go_roundw
                  case rel => exact ⟨i + 1, s8, hib, hs8.1, hs8.2, by go_num, h11⟩
                  case measure => simp [intOf]; omega
              · have h8 := HLI.out
                obtain ⟨R8, lk8⟩ := h8.lk
                obtain ⟨s8, hs0⟩ : ∃ s8, s8 = A := ⟨_, rfl⟩
                rw [← hs0] at hA hA2 h8 lk8
                have hs8 : -1 ≤ s8 ∧ s8 ≤ (L.length : Int) := ⟨hA, hA2⟩
                clear hs0
                go_wp2_with (first
                  | (go_at_call 18; refine (HPR.out _ _ _ _ _ lk8 hs8.1 hs8.2 hbg).mono ?_; rintro e w9 ⟨rfl, k9, R9, lk9⟩; have h9 := h8.look hwg hne HAL.out k9 lk9; clear lk9 k9)
                  | (go_at_call 29; refine (rPair_any _ _ _ _ _ _ (by omega) hs8.1 hs8.2 (h9.more (Gr.alloc _ _)).row.row (h9.more (Gr.alloc _ _)).rl).mono ?_; rintro e w10 ⟨rfl, g10⟩
                     have h10 := (h9.more (Gr.alloc _ _)).more g10
                     obtain ⟨c0, c1⟩ := Blk.two (((Blk.new w9 31 #[.string (str (pairAt L s8).1.1), .string (str (pairAt L s8).1.2)]).gr g10).alloc (.cells #[.string (str (pairAt L s8).1.1), .string (str (pairAt L s8).1.2)] 31))
                     have h11 := h10.more (Gr.alloc w10 (.cells #[.string (str (pairAt L s8).1.1), .string (str (pairAt L s8).1.2)] 31))
                     clear h9 h10 h8)
                  | fail
                  )
                go_roundw
                case rel => exact ⟨i + 1, s8, hib, hs8.1, hs8.2, by go_num, h11⟩
                case measure => simp [intOf]; omega
            · have HGE := Lib.hid hl.gr
              go_wp2
              go_ret
              exact ⟨rfl, HGE.out⟩
          · have HGE := Lib.hid hl.gr
            go_wp2
            go_ret
            exact ⟨rfl, HGE.out⟩
  · have HB1 := Lib.hid (fun w ad cap out hr ho => Build_at ad L.length cap L (p : Int) w 14 out rfl hr (by omega) hc ho)
    have HO1 := Lib.hid (show (if (14 : Nat) = 0 then buildF (p : Int).toNat L else []) = [] from rfl)
    clear hc
    go_enter Try.func7, Try.ntmps7
    go_wp2_with (first
      | (go_at_call 17; refine (none_any _).mono ?_; rintro e w0 ⟨rfl, rfl⟩)
      | (go_at_call 18; clear T0; refine (Pair_none _).mono ?_; rintro e w1 ⟨rfl, g1⟩; have T1 : RowKit.Hid True := trivial)
      | (go_at_call 9; clear T1; refine (blocked_any _).mono ?_; rintro e w2 ⟨rfl, g2⟩; have G2 := (g1.trans (Gr.alloc _ _)).trans g2; have T2 : RowKit.Hid True := trivial)
      | (go_at_call 19; (with_reducible refine (Seek_none _ _).mono ?_); rintro e w3 ⟨rfl, rfl⟩)
      | (go_at_call 20; (with_reducible refine (Prev_none _).mono ?_); rintro e w3 ⟨rfl, rfl⟩)
      | (go_at_call 10; refine (HRI.out _ (HRW.out.gr G2)).mono ?_; rintro e w3 ⟨adl, cpl, rfl, ol, g3⟩)
      | (go_at_call 11; (refine (HB1.out _ _ _ _ ol.row HO1.out).mono ?_); rintro e w4 ⟨ad3, cp3, rfl, o3, g4⟩; have ol3 := ol.gr g4; have hc3 := o3.2.1; have hm3 := o3.2.2.1)
      | fail)
    go_ret
    exact ⟨rfl, (G2.trans g3).trans g4⟩
end Go.Proofs.Ytnbinodhdgnjlaa
