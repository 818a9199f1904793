/- Layer 13 (block): BlockMeets answers true. -/
import Derived.Test.YtnbinodhdgnjlaaBlockSought
import Derived.Test.YtnbinodhdgnjlaaBlockSorted
import Derived.Test.YtnbinodhdgnjlaaBlockBack
namespace Go.Proofs.Ytnbinodhdgnjlaa
set_option linter.unusedVariables false
set_option linter.unusedSimpArgs false
open Go.RowKit Bk
open Go.Op (bytesLess)
theorem KB.appended {w w' : World} {g base : Nat} {d pl : List UInt8} {itv c : Nat} {A R : Int} {ps : List Pr} {ad ad5 : Option Addr} (h : KB w g base d pl itv c A R ps) (k : w.grownBy w' (ad.map (·.block))) (ha : ∀ x, ad = some x → Away w g x.block) (hne : ∀ x, ad = some x → x.block ≠ g) (f : ∀ a, ad5 = some a → ad = some a ∨ w.heap.size ≤ a.block) :
    KB w' g base d pl itv c A R ps ∧ ∀ x, ad5 = some x → Away w' g x.block := by
  have hs : w'.heap[g]? = w.heap[g]? := k.block g h.lt.1 (fun e => by
    cases ad with
    | none => cases e
    | some y => exact hne y rfl (Option.some.inj e).symm)
  refine ⟨?_, fun x hx => ?_⟩
  · cases ad with
    | none => exact h.grown k (fun e => by cases e) (fun x e => by cases e)
    | some y => exact h.away (ha y rfl) (hne y rfl) k
  · rcases f x hx with e | e
    · exact (ha x e).same hs
    · exact (h.fresh e).same hs
theorem open_look {bx : List UInt8} {L : List Pr} {p : Nat} {w : World} {g base : Nat} (hp1 : 1 ≤ p) (hbx : buildF p L = bx) (h : KB w g base (dataN p L L.length) (placesB bx p L.length) p L.length (-1) (-1) []) : LK w g base p L (-1) (-1) := by
  subst hbx
  have e : placesB (buildF p L) p L.length = placeN p L L.length := places_build hp1
  rw [e] at h
  unfold LK
  rw [show runI p L (-1) = [] from rfl]
  exact h
theorem endF_in {n : Nat} {i : Nat} (h : i < n) : endF n (i : Int) = 0 := by unfold endF; rw [if_neg (by omega)]
theorem endF_end (n : Nat) : endF n (n : Int) = 15 := by unfold endF; rw [if_pos (.inr rfl)]
theorem standF_in {n : Nat} {i : Nat} (h : i ≤ n) : Go.Proofs.Ytnbinodhdgnjlaa.posF n (i : Int) = (i : Int) := by unfold Go.Proofs.Ytnbinodhdgnjlaa.posF; omega
/-- while pairs are gathered: the look stands at A, and what is gathered is its own -/
structure MI (w4 wr : World) (g base p : Nat) (L xs : List Pr) (A : Int) (adO : Option Addr) (cO k : Nat) : Prop where
  far : w4.grownBy wr (some g)
  lk : ∃ R', LK wr g base p L A R'
  owns : Owns wr w4.heap.size 31 2 adO cO k (pv xs)
  away : ∀ x, adO = some x → Away wr g x.block
theorem MI.kept {w4 w5 w6 : World} {g base p : Nat} {L xs : List Pr} {A A' R' : Int} {adO : Option Addr} {cO k : Nat} (h : MI w4 w5 g base p L xs A adO cO k) (hg : g < w4.heap.size) (q : Kept g w5 w6) (lk : LK w6 g base p L A' R') : MI w4 w6 g base p L xs A' adO cO k :=
  ⟨grown_trans h.far q.far, ⟨R', lk⟩, h.owns.grown q.far (fun x hx e => by have := (h.owns.lt x hx).1; have := Option.some.inj e; omega), fun x hx => q.away _ (h.owns.lt x hx).2 (h.away x hx)⟩
theorem MI.gr {w4 w5 w6 : World} {g base p : Nat} {L xs : List Pr} {A : Int} {adO : Option Addr} {cO k : Nat} (h : MI w4 w5 g base p L xs A adO cO k) (q : Gr w5 w6) : MI w4 w6 g base p L xs A adO cO k := by
  obtain ⟨R', lk⟩ := h.lk
  exact ⟨grown_trans h.far q.far, ⟨R', KB.gr lk q⟩, h.owns.gr q, fun x hx => (h.away x hx).same (q.block g lk.lt.1)⟩
theorem MI.app {w4 u w5 : World} {g base p : Nat} {L xs xs' : List Pr} {A : Int} {adO adX ad5 : Option Addr} {cO k c5 k' : Nat} (h : MI w4 u g base p L xs A adO cO k) (hg : g < w4.heap.size) (k5 : u.grownBy w5 (adX.map (·.block))) (haX : ∀ x, adX = some x → Away u g x.block ∧ w4.heap.size ≤ x.block)
    (f5 : ∀ a, ad5 = some a → adX = some a ∨ u.heap.size ≤ a.block) (o5 : Owns w5 w4.heap.size 31 2 ad5 c5 k' (pv xs')) : MI w4 w5 g base p L xs' A ad5 c5 k' := by
  obtain ⟨R', lk⟩ := h.lk
  obtain ⟨l5, a5⟩ := KB.appended lk k5 (fun x hx => (haX x hx).1) (fun x hx e => by have := (haX x hx).2; omega) f5
  refine ⟨⟨k5.os.trans h.far.os, k5.tape.trans h.far.tape, k5.output.trans h.far.output, Nat.le_trans h.far.size k5.size, fun j hj hne => ?_⟩, ⟨R', l5⟩, o5, a5⟩
  refine (k5.block j (Nat.lt_of_lt_of_le hj h.far.size) (fun e => ?_)).trans (h.far.block j hj hne)
  cases adX with
  | none => cases e
  | some y => have h1 := (haX y rfl).2; cases e; exact absurd hj (Nat.not_lt.2 h1)
/-- a slice of one new pair -/
theorem one_src {P : Program} {u : TypeId} {e' : TypeId} (w : World) (q : Pr) (e : TypeId) (hu : P.underlying u = some (.slice e')) (gb : Nat) (hgb : gb = w.heap.size) : Src P u (w.alloc (.cells #[.string (str q.1), .string (str q.2)] e)) 2 (.slice (some ⟨gb, 0, none⟩) 1 1) 1 [.string (str q.1), .string (str q.2)] := by
  subst hgb; exact OneB.src ⟨_, _, _, rfl, heap_alloc_new _ _⟩ rfl (pv_one [q]) hu
theorem one_owns (w : World) (B : Nat) (q : Pr) (e : TypeId) (hB : B ≤ w.heap.size) (gb : Nat) (hgb : gb = w.heap.size) : Owns (w.alloc (.cells #[.string (str q.1), .string (str q.2)] e)) B e 2 (some ⟨gb, 0, none⟩) 1 1 (pv [q]) := by
  subst hgb; exact Owns.made w B #[.string (str q.1), .string (str q.2)] e (0, 0) 2 1 1 (pv [q]) hB (by decide) (Nat.le_refl _) (by simp) (by simp) (by simp [pv])
theorem Pair_in (w : World) (g base itv : Nat) (l : List Pr) (i : Nat) (R : Int) (h : LK w g base itv l (i : Int) R) (h1 : 1 ≤ itv) (h2 : itv ≤ 64) (hl : l.length ≤ 10000) (hok : okLens l) (hi : i < l.length) (hb : base ≤ g) :
    Calls Try.prog 18 #[.pointer (some ⟨g, 0, none⟩)] w fun e w' => e = .returned (.tuple #[.agg #[.string (str (l.getD i noPr).1), .string (str (l.getD i noPr).2)], .int .i64 0]) ∧ Kept g w w' ∧ ∃ R', LK w' g base itv l (i : Int) R' := by
  have := Pair_any w g base itv l (i : Int) R h h1 h2 hl hok (by omega) (by omega) hb
  rw [pairAt_in hi] at this
  exact this
theorem Next_in (w : World) (g base itv : Nat) (l : List Pr) (i : Nat) (R : Int) (hl : l.length ≤ 10000) (hi : i < l.length) (h : LK w g base itv l (i : Int) R) :
    Calls Try.prog 26 #[.pointer (some ⟨g, 0, none⟩)] w fun e w' => e = .returned (.int .i64 (endF l.length ((i + 1 : Nat) : Int) : Int)) ∧ Kept g w w' ∧ LK w' g base itv l ((i + 1 : Nat) : Int) R := by
  have := Next_any w g base itv l (i : Int) R hl (by omega) (by omega) h
  rw [show (i : Int) + 1 = ((i + 1 : Nat) : Int) by omega, standF_in (by omega)] at this
  exact this
theorem Prev_in (w : World) (g base itv : Nat) (l : List Pr) (i : Nat) (R : Int) (hl : l.length ≤ 10000) (hi : i < l.length) (h : LK w g base itv l (i : Int) R) :
    Calls Try.prog 20 #[.pointer (some ⟨g, 0, none⟩)] w fun e w' => e = .returned (.int .i64 (endF l.length ((i : Int) - 1) : Int)) ∧ Kept g w w' ∧ LK w' g base itv l ((i : Int) - 1) R := by
  have := Prev_any w g base itv l (i : Int) R hl (by omega) (by omega) h
  rw [show Go.Proofs.Ytnbinodhdgnjlaa.posF l.length ((i : Int) - 1) = (i : Int) - 1 by unfold Go.Proofs.Ytnbinodhdgnjlaa.posF; omega] at this
  exact this
set_option maxRecDepth 100000 in
set_option maxHeartbeats 4000000 in
theorem BlockMeets_any (ad : Option Addr) (cap : Nat) (l : List Pr) (x : Int) (key : List UInt8) (w : World) (hr : Row w ad (pv l)) (hl : l.length ≤ 9223372036854775807) :
    Calls Try.prog 8 #[.slice ad l.length cap, .int .i64 x, .string (str key)] w fun e w' => e = .returned (.bool true) ∧ Gr w w' := by
  have HRI := Lib.hid (fun w hr => rising_any ad cap l w hr hl)
  have HRW := Lib.hid hr
  clear hr
  have hLl := riseF_len l
  have hs0 := rise_sorted l
  generalize riseF l = L at *
  have HS := Lib.hid hs0
  clear hs0
  obtain ⟨j0, e1, hj⟩ := u64_mod x 64 (by decide) (by decide)
  have e1 : IntKind.i64.wrap ((IntKind.u64.wrap x).tmod 64) = (j0 : Int) := e1
  obtain ⟨p, hp⟩ : ∃ p, p = j0 + 1 := ⟨_, rfl⟩
  have e2 : (1 : Int) + (j0 : Int) = (p : Int) := by omega
  have hp1 : 1 ≤ p := by omega
  have hp2 : p ≤ 64 := by omega
  clear hp hj
  rcases chk_rise (l := L) (p := (p : Int)) (by omega) (by omega) HS.out with hc | hc
  · have HB1 := Lib.hid (fun w ad cap out hr ho => Build_at ad L.length cap L (p : Int) w 0 out rfl hr (by omega) hc ho)
    have hok := chkF_ok hc
    have hpa := pairs_build hp1 hp2 (by omega) hok.1 hc
    have hpt := parts_build (itv := p) (l := L) hp1 hp2 (by omega)
    have hza : (buildF p L).length ≤ 6 + 2211 * L.length := Nat.le_trans (build_sz (itv := p) hok.1).1 (szN_le hok.1 _)
    have HO1 := Lib.hid (show (if (0 : Nat) = 0 then buildF (p : Int).toNat L else []) = buildF p L from rfl)
    have HOP := Lib.hid (fun ad cap w hc hm hb => Open_ok ad cap (buildF p L) w L _ p L.length hpa hpt (by omega) hc hm hb)
    have HLK := Lib.hid (fun w g base h => open_look (bx := buildF p L) (L := L) (p := p) (w := w) (g := g) (base := base) hp1 rfl h)
    have HPR := Lib.hid (fun w g base i R' h hi hb => Pair_in w g base p L i R' h hp1 hp2 (by omega) hok.1 hi hb)
    have HSK := Lib.hid (fun w g base A R' h => Seek_any w g base p L A R' key h hp1 hp2 (by omega) hok.1 HS.out)
    clear hc hpa hpt hok
    generalize buildF p L = bx at *
    go_enter Try.func8, Try.ntmps8
    go_wp2_with (first
      | (go_at_call 9; refine (blocked_any _).mono ?_; rintro e w1 ⟨rfl, g1⟩)
      | (go_at_call 10; refine (HRI.out _ (HRW.out.gr g1)).mono ?_; rintro e w2 ⟨adl, cpl, rfl, ol, g2⟩)
      | (go_at_call 11; (refine (HB1.out _ _ _ _ ol.row HO1.out).mono ?_); rintro e w3 ⟨ad3, cp3, rfl, o3, g3⟩; have ol3 := ol.gr g3; have hc3 := o3.2.1; have hm3 := o3.2.2.1)
      | (go_at_call 16; (refine (HOP.out _ _ _ hc3 hm3 o3.bytes).mono ?_); rintro e w4 ⟨g, rfl, hg3, g4, kb4⟩; have lk4 := HLK.out _ _ _ kb4)
      | (go_at_call 21; refine (First_any _ _ _ _ _ _ _ lk4).mono ?_; rintro e w5 ⟨rfl, k5, lk5⟩)
      | fail)
    have hg : g < w4.heap.size := lk4.lt.1
    have hoL := ol3.gr g4
    have hadl : ∀ x, adl = some x → x.block ≠ g := fun x hx e => by have := (ol3.lt x hx).2; omega
    have HOL := Lib.hid hoL
    have HADL := Lib.hid hadl
    have hww := ((g1.trans g2).trans g3).trans g4
    have HGW := Lib.hid hww
    have hwg : w.heap.size ≤ g := by have := ((g1.trans g2).trans g3).size; omega
    have h00 : Go.Proofs.Ytnbinodhdgnjlaa.posF L.length 0 = ((0 : Nat) : Int) := standF_in (Nat.zero_le _)
    have M0 := Lib.hid (show MI w4 w5 g w3.heap.size p L [] ((0 : Nat) : Int) none 0 0 from ⟨k5.far, ⟨-1, h00 ▸ lk5⟩, Owns.empty _ _ _ _, fun x hx => by cases hx⟩)
    have H00 := Lib.hid h00
    have hB3 := g4.size
    clear hoL hadl hww h00 lk4 lk5 k5 kb4 ol ol3 o3 HRI HB1 HO1 HOP HLK
    go_loopw [10, 13] (fun v10 v13 wr => ∃ (i : Nat) (adO : Option Addr) (cO : Nat), i ≤ L.length ∧ v10 = .slice adO i cO ∧ v13 = .int .i64 (endF L.length (i : Int) : Int) ∧ MI w4 wr g w3.heap.size p L (L.take i) (i : Int) adO cO i) (fun v10 _ _ => L.length - (match v10 with | .slice _ n _ => n | _ => 0))
    case atStart => exact ⟨0, none, 0, Nat.zero_le _, rfl, by rw [H00.out], M0.out⟩
    case round =>
      obtain ⟨i, adO, cO, hil, rfl, rfl, hm⟩ := hrel
      by_cases hi : i < L.length
      · have he : endF L.length (i : Int) = 0 := endF_in hi
        obtain ⟨R', lk⟩ := hm.lk
        have HP := Lib.hid (HPR.out wr g w3.heap.size i R' lk hi hg3)
        have HM := Lib.hid hm
        have HTK := Lib.hid (show L.take (i + 1) = L.take i ++ [L.getD i noPr] by rw [List.take_add_one, List.getElem?_eq_getElem hi, List.getD_eq_getElem?_getD, List.getElem?_eq_getElem hi]; rfl)
        have m1 : i + 1 ≤ maxLen := by unfold maxLen; omega
        have m2 : (i + 1) * 32 ≤ 140737488355328 := by omega
        generalize L.getD i noPr = q at *
        clear hm lk
        go_wp2_with (first
          | (go_at_call 18; refine HP.out.mono ?_; rintro e w6 ⟨rfl, k6, R6, lk6⟩; have hm6 := HM.out.kept hg k6 lk6; have HM6 := Lib.hid hm6; have hs6 := hm6.far.size; clear hm6)
          | (at_builtin; go_must (refine wp_append elemP rfl _ _ rfl rfl (HM6.out.gr ((Gr.alloc _ _).trans (Gr.alloc _ _))).owns rfl (one_src _ q _ Try.underlying22 _ (by simp)) m1 m2 (Nat.le_trans hs6 ((Gr.alloc _ _).trans (Gr.alloc _ _)).size) ?_); intro ad7 c7 w7 o7 k7 f7
             have hm7 := MI.app (xs' := L.take (i + 1)) (HM6.out.gr ((Gr.alloc _ _).trans (Gr.alloc _ _))) hg k7 (fun x hx => ⟨(HM6.out.gr ((Gr.alloc _ _).trans (Gr.alloc _ _))).away x hx, ((HM6.out).owns.lt x hx).1⟩) f7 (by rw [HTK.out, pv_append]; exact o7)
             obtain ⟨R7, lk7⟩ := hm7.lk; have HM7 := Lib.hid hm7; clear hm7)
          | (go_at_call 26; refine (Next_in _ _ _ _ _ i R7 (by omega) hi lk7).mono ?_; rintro e w8 ⟨rfl, k8, lk8⟩)
          | fail)
        go_roundw
        case rel => exact ⟨i + 1, ad7, c7, hi, rfl, rfl, HM7.out.kept hg k8 lk8⟩
        case measure => simp; omega
      · obtain rfl : i = L.length := by omega
        have he : endF L.length ((L.length : Nat) : Int) = 15 := endF_end _
        rw [List.take_length] at hm
        obtain ⟨RA, lkA⟩ := hm.lk
        have hgA : g < wr.heap.size := lkA.lt.1
        have HFO := Lib.hid hm.owns
        have HFA := Lib.hid (fun x (hx : adO = some x) => (show x.block ≠ g from fun e => by have := (hm.owns.lt x hx).1; omega))
        have HkA := Lib.hid hm.far
        have HLA := Lib.hid (Last_any wr g w3.heap.size p L _ RA (by omega) lkA)
        have hzA : Go.Proofs.Ytnbinodhdgnjlaa.posF L.length ((L.length : Int) - 1) = (L.length : Int) - 1 := by unfold Go.Proofs.Ytnbinodhdgnjlaa.posF; omega
        rw [hzA] at HLA
        clear hm lkA hzA
        go_wp2_with (first
          | (go_at_call 23; refine HLA.out.mono ?_; rintro e wl ⟨rfl, kl, lkl⟩)
          | fail)
        have M1 := Lib.hid (show MI wr wl g w3.heap.size p L [] ((L.length : Int) - 1) none 0 0 from ⟨kl.far, ⟨_, lkl⟩, Owns.empty _ _ _ _, fun x hx => by cases hx⟩)
        clear kl lkl HLA he
        obtain ⟨wA, hwA⟩ : ∃ wA, wA = wr := ⟨_, rfl⟩
        subst hwA
        go_loopw [11, 16] (fun v11 v16 wr => ∃ (i j : Nat) (adB : Option Addr) (cB : Nat), i + j = L.length ∧ v11 = .slice adB j cB ∧ v16 = .int .i64 (endF L.length ((i : Int) - 1) : Int) ∧ MI wA wr g w3.heap.size p L (L.drop i) ((i : Int) - 1) adB cB j) (fun v11 _ _ => L.length - (match v11 with | .slice _ n _ => n | _ => 0))
        case atStart => exact ⟨L.length, 0, none, 0, rfl, rfl, rfl, by rw [List.drop_length]; exact M1.out⟩
        case round =>
          obtain ⟨i, j, adB, cB, hij, rfl, rfl, hm⟩ := hrel
          by_cases hi : 0 < i
          · obtain ⟨i, rfl⟩ : ∃ k, i = k + 1 := ⟨i - 1, by omega⟩
            have eA : ((i + 1 : Nat) : Int) - 1 = (i : Int) := by omega
            rw [eA] at hm ⊢
            have hil : i < L.length := by omega
            have he : endF L.length (i : Int) = 0 := endF_in hil
            obtain ⟨R', lk⟩ := hm.lk
            have HP := Lib.hid (HPR.out wr g w3.heap.size i R' lk hil hg3)
            have HM := Lib.hid hm
            have HTK := Lib.hid (show L.drop i = [L.getD i noPr] ++ L.drop (i + 1) by rw [List.drop_eq_getElem_cons hil, List.getD_eq_getElem?_getD, List.getElem?_eq_getElem hil]; rfl)
            have m1 : 1 + j ≤ maxLen := by unfold maxLen; omega
            have m2 : (1 + j) * 32 ≤ 140737488355328 := by omega
            generalize L.getD i noPr = q at *
            clear hm lk eA
            go_wp2_with (first
              | (go_at_call 18; refine HP.out.mono ?_; rintro e w6 ⟨rfl, k6, R6, lk6⟩; have hm6 := HM.out.kept hgA k6 lk6; have HM6 := Lib.hid hm6; have hs6 := hm6.far.size; have hl6 := lk6.lt.1; clear hm6)
              | (at_builtin; go_must (refine wp_append elemP rfl _ _ rfl rfl (one_owns _ wA.heap.size q _ (Nat.le_trans hs6 (Gr.alloc _ _).size) _ (by simp)) rfl (Src.own (HM6.out.gr ((Gr.alloc _ _).trans (Gr.alloc _ _))).owns (pv_one _) Try.underlying22) m1 m2 (Nat.le_trans hs6 ((Gr.alloc _ _).trans (Gr.alloc _ _)).size) ?_); intro ad7 c7 w7 o7 k7 f7
                 have hm6a := HM6.out.gr (Gr.alloc w6 (.cells #[.string (str q.1), .string (str q.2)] 31))
                 have hm7 := MI.app (xs' := L.drop i) (HM6.out.gr ((Gr.alloc _ _).trans (Gr.alloc _ _))) hgA k7 (fun x hx => by
                    cases hx
                    refine ⟨?_, by simp only; omega⟩
                    obtain ⟨R6a, l6a⟩ := hm6a.lk
                    exact (KB.fresh l6a (by simp)).same ((Gr.alloc _ _).block g l6a.lt.1)) f7 (by rw [HTK.out, pv_append]; exact o7)
                 obtain ⟨R7, lk7⟩ := hm7.lk; have HM7 := Lib.hid hm7; clear hm7)
              | (go_at_call 20; refine (Prev_in _ _ _ _ _ i R7 (by omega) hil lk7).mono ?_; rintro e w8 ⟨rfl, k8, lk8⟩)
              | fail)
            go_roundw
            case rel => exact ⟨i, 1 + j, ad7, c7, by omega, rfl, rfl, HM7.out.kept hgA k8 lk8⟩
            case measure => simp; omega
          · obtain rfl : i = 0 := by omega
            obtain rfl : j = L.length := by omega
            have he : endF L.length (((0 : Nat) : Int) - 1) = 15 := by unfold endF; rw [if_pos (.inl (by omega))]
            rw [List.drop_zero] at hm
            obtain ⟨RB, lkB⟩ := hm.lk
            have hgB : g < wr.heap.size := lkB.lt.1
            have HBO := Lib.hid hm.owns
            have HFB := Lib.hid (fun x (hx : adB = some x) => (show x.block ≠ g from fun e => by have := (hm.owns.lt x hx).1; omega))
            have HkB := Lib.hid hm.far
            obtain ⟨s, hs⟩ : ∃ s, s = lowF key L := ⟨_, rfl⟩
            have hsl : s ≤ L.length := by rw [hs]; exact lowF_le key L
            have HSKB := Lib.hid (HSK.out wr g w3.heap.size _ RB lkB)
            rw [← hs, standF_in hsl] at HSKB
            have HLT := Lib.hid (fun i (hi : i < s) => lowF_lt (key := key) (l := L) (i := i) (by rw [← hs]; exact hi))
            have HGE := Lib.hid (fun (hi : s < L.length) => (show bytesLess (L.getD s noPr).1 key = false by rw [hs] at hi ⊢; exact lowF_ge hi))
            clear hm lkB hs
            go_wp2_with (first
              | (go_at_call 19; refine HSKB.out.mono ?_; rintro e wl ⟨rfl, kl, Rl, lkl⟩)
              | fail)
            have M2 := Lib.hid (show MI wr wl g w3.heap.size p L [] (s : Int) none 0 0 from ⟨kl.far, ⟨_, lkl⟩, Owns.empty _ _ _ _, fun x hx => by cases hx⟩)
            clear kl lkl HSKB he
            obtain ⟨wB, hwB⟩ : ∃ wB, wB = wr := ⟨_, rfl⟩
            subst hwB
            go_loopw [12, 19] (fun v12 v19 wr => ∃ (i j : Nat) (adC : Option Addr) (cC : Nat), s + j = i ∧ i ≤ L.length ∧ v12 = .slice adC j cC ∧ v19 = .int .i64 (endF L.length (i : Int) : Int) ∧ MI wB wr g w3.heap.size p L ((L.drop s).take j) (i : Int) adC cC j) (fun v12 _ _ => L.length - (match v12 with | .slice _ n _ => n | _ => 0))
            case atStart => exact ⟨s, 0, none, 0, rfl, hsl, rfl, rfl, M2.out⟩
            case round =>
              obtain ⟨i, j, adC, cC, hij, hil, rfl, rfl, hm⟩ := hrel
              by_cases hi : i < L.length
              · have he : endF L.length (i : Int) = 0 := endF_in hi
                obtain ⟨R', lk⟩ := hm.lk
                have HP := Lib.hid (HPR.out wr g w3.heap.size i R' lk hi hg3)
                have HM := Lib.hid hm
                have HTK := Lib.hid (show (L.drop s).take (j + 1) = (L.drop s).take j ++ [L.getD i noPr] by rw [List.take_add_one, List.getElem?_drop, hij, List.getElem?_eq_getElem hi, List.getD_eq_getElem?_getD, List.getElem?_eq_getElem hi]; rfl)
                have m1 : j + 1 ≤ maxLen := by unfold maxLen; omega
                have m2 : (j + 1) * 32 ≤ 140737488355328 := by omega
                have hij2 : s + (j + 1) = i + 1 := by omega
                generalize L.getD i noPr = q at *
                clear hm lk hij
                go_wp2_with (first
                  | (go_at_call 18; refine HP.out.mono ?_; rintro e w6 ⟨rfl, k6, R6, lk6⟩; have hm6 := HM.out.kept hgB k6 lk6; have HM6 := Lib.hid hm6; have hs6 := hm6.far.size; clear hm6)
                  | (at_builtin; go_must (refine wp_append elemP rfl _ _ rfl rfl (HM6.out.gr ((Gr.alloc _ _).trans (Gr.alloc _ _))).owns rfl (one_src _ q _ Try.underlying22 _ (by simp)) m1 m2 (Nat.le_trans hs6 ((Gr.alloc _ _).trans (Gr.alloc _ _)).size) ?_); intro ad7 c7 w7 o7 k7 f7
                     have hm7 := MI.app (xs' := (L.drop s).take (j + 1)) (HM6.out.gr ((Gr.alloc _ _).trans (Gr.alloc _ _))) hgB k7 (fun x hx => ⟨(HM6.out.gr ((Gr.alloc _ _).trans (Gr.alloc _ _))).away x hx, ((HM6.out).owns.lt x hx).1⟩) f7 (by rw [HTK.out, pv_append]; exact o7)
                     obtain ⟨R7, lk7⟩ := hm7.lk; have HM7 := Lib.hid hm7; clear hm7)
                  | (go_at_call 26; refine (Next_in _ _ _ _ _ i R7 (by omega) hi lk7).mono ?_; rintro e w8 ⟨rfl, k8, lk8⟩)
                  | fail)
                go_roundw
                case rel => exact ⟨i + 1, j + 1, ad7, c7, hij2, hi, rfl, rfl, HM7.out.kept hgB k8 lk8⟩
                case measure => simp; omega
              · obtain rfl : i = L.length := by omega
                have he : endF L.length ((L.length : Nat) : Int) = 15 := endF_end _
                have htk : (L.drop s).take j = L.drop s := List.take_of_length_le (by rw [List.length_drop]; omega)
                rw [htk] at hm
                have hkk := grown_trans HkA.out (grown_trans HkB.out hm.far)
                have HLO := Lib.hid (HOL.out.grown hkk (fun x hx e => HADL.out x hx (Option.some.inj e)))
                have HFO2 := Lib.hid (HFO.out.grown (grown_trans HkB.out hm.far) (fun x hx e => HFA.out x hx (Option.some.inj e)))
                have HBO2 := Lib.hid (HBO.out.grown hm.far (fun x hx e => HFB.out x hx (Option.some.inj e)))
                have HCO := Lib.hid hm.owns
                have HGE2 := Lib.hid (Gr.of_far HGW.out hkk hwg)
                have HRP := Lib.hid HLO.out.row.pair
                have hcpl := HLO.out.2.1
                have hjs : j = L.length - s := by omega
                clear hm hkk htk
                go_wp2
                clear he
                obtain ⟨wC, hwC⟩ : ∃ wC, wC = wr := ⟨_, rfl⟩
                subst hwC
                go_loopw [22] (fun v22 wr => ∃ i : Nat, i ≤ s ∧ v22 = .int .i64 (i : Int) ∧ wr = wC) (fun v22 _ => s - (intOf v22).toNat)
                case atStart => exact ⟨0, Nat.zero_le _, rfl, by first | rfl | trivial⟩
                case round =>
                  obtain ⟨i, his, rfl, rfl⟩ := hrel
                  by_cases hi : i < s
                  · have hil : i < L.length := by omega
                    obtain ⟨bl, off, hb, z1, z2⟩ := HRP.out i hil
                    have hlt := HLT.out i hi
                    rw [List.getD_eq_getElem?_getD, List.getElem?_eq_getElem hil, Option.getD_some] at hlt
                    subst hb
                    go_wp2
                    go_roundw
                    case rel => exact ⟨i + 1, hi, by go_num, by first | rfl | trivial⟩
                    case measure => simp [intOf]; omega
                  · obtain rfl : i = s := by omega
                    subst hjs
                    have HS1 := Lib.hid (fun w' (g : Gr wr w') => Same_same adO adl L.length L.length cO cpl L w' rfl rfl (by omega) (HFO2.out.gr g).row (HLO.out.gr g).row)
                    have HS2 := Lib.hid (fun w' (g : Gr wr w') => Same_same adB adl L.length L.length cB cpl L w' rfl rfl (by omega) (HBO2.out.gr g).row (HLO.out.gr g).row)
                    by_cases hin : i < L.length
                    · obtain ⟨bl, off, hb, z1, z2⟩ := HRP.out i hin
                      have hge := HGE.out hin
                      rw [List.getD_eq_getElem?_getD, List.getElem?_eq_getElem hin, Option.getD_some] at hge
                      have hci : cpl ≠ i := by omega
                      have HR9 := Lib.hid (fun w' (g : Gr wr w') (_ : True) => (show Row w' (some ⟨bl, off + i * 2, none⟩) (pv (L.drop i)) by rw [pv_drop]; exact ((hb ▸ (HLO.out.gr g).row : Row w' (some ⟨bl, off, none⟩) (pv L))).drop (i * 2)))
                      subst hb
                      go_wp2_with (first
                        | (go_at_call 13; (with_reducible refine (HS1.out _ (Gr.refl _)).mono ?_); rintro e w6 ⟨rfl, g6⟩)
                        | (go_at_call 13; (with_reducible refine (HS2.out _ g6).mono ?_); rintro e w7 ⟨rfl, g7⟩)
                        | (go_at_call 13; go_must (refine (Same_same _ _ _ _ _ _ (L.drop i) _ (by simp) (by simp) (by first | (simp; done) | (simp; omega)) (HCO.out.gr (g6.trans g7)).row (HR9.out _ (g6.trans g7) trivial)).mono ?_); rintro e w8 ⟨rfl, g8⟩)
                        | fail)
                      go_ret
                      exact ⟨rfl, HGE2.out.trans ((g6.trans g7).trans g8)⟩
                    · obtain rfl : i = L.length := by omega
                      have HR9 := Lib.hid (fun w' (_ : Gr wr w') ad9 => (show Row w' ad9 (pv (L.drop L.length)) by rw [List.drop_length]; intro i u hi; simp [pv] at hi))
                      cases adl with
                      | none =>
                        go_wp2_with (first
                          | (go_at_call 13; (with_reducible refine (HS1.out _ (Gr.refl _)).mono ?_); rintro e w6 ⟨rfl, g6⟩)
                          | (go_at_call 13; (with_reducible refine (HS2.out _ g6).mono ?_); rintro e w7 ⟨rfl, g7⟩)
                          | (go_at_call 13; go_must (refine (Same_same _ _ _ _ _ _ (L.drop L.length) _ (by simp) (by simp) (by first | (simp; done) | (simp; omega)) (HCO.out.gr (g6.trans g7)).row (HR9.out _ (g6.trans g7) _)).mono ?_); rintro e w8 ⟨rfl, g8⟩)
                          | fail)
                        go_ret
                        exact ⟨rfl, HGE2.out.trans ((g6.trans g7).trans g8)⟩
                      | some y =>
                        obtain ⟨y1, y2, y3⟩ := y
                        by_cases hce : cpl = L.length
                        · subst hce
                          go_wp2_with (first
                            | (go_at_call 13; (with_reducible refine (HS1.out _ (Gr.refl _)).mono ?_); rintro e w6 ⟨rfl, g6⟩)
                            | (go_at_call 13; (with_reducible refine (HS2.out _ g6).mono ?_); rintro e w7 ⟨rfl, g7⟩)
                            | (go_at_call 13; go_must (refine (Same_same _ _ _ _ _ _ (L.drop L.length) _ (by simp) (by simp) (by first | (simp; done) | (simp; omega)) (HCO.out.gr (g6.trans g7)).row (HR9.out _ (g6.trans g7) _)).mono ?_); rintro e w8 ⟨rfl, g8⟩)
                            | fail)
                          go_ret
                          exact ⟨rfl, HGE2.out.trans ((g6.trans g7).trans g8)⟩
                        · go_wp2_with (first
                            | (go_at_call 13; (with_reducible refine (HS1.out _ (Gr.refl _)).mono ?_); rintro e w6 ⟨rfl, g6⟩)
                            | (go_at_call 13; (with_reducible refine (HS2.out _ g6).mono ?_); rintro e w7 ⟨rfl, g7⟩)
                            | (go_at_call 13; go_must (refine (Same_same _ _ _ _ _ _ (L.drop L.length) _ (by simp) (by simp) (by first | (simp; done) | (simp; omega)) (HCO.out.gr (g6.trans g7)).row (HR9.out _ (g6.trans g7) _)).mono ?_); rintro e w8 ⟨rfl, g8⟩)
                            | fail)
                          go_ret
                          exact ⟨rfl, HGE2.out.trans ((g6.trans g7).trans g8)⟩
  · have HB1 := Lib.hid (fun w ad cap out hr ho => Build_at ad L.length cap L (p : Int) w 14 out rfl hr (by omega) hc ho)
    have HO1 := Lib.hid (show (if (14 : Nat) = 0 then buildF (p : Int).toNat L else []) = [] from rfl)
    clear hc
    go_enter Try.func8, Try.ntmps8
    go_wp2_with (first
      | (go_at_call 9; refine (blocked_any _).mono ?_; rintro e w1 ⟨rfl, g1⟩)
      | (go_at_call 10; refine (HRI.out _ (HRW.out.gr g1)).mono ?_; rintro e w2 ⟨adl, cpl, rfl, ol, g2⟩)
      | (go_at_call 11; (refine (HB1.out _ _ _ _ ol.row HO1.out).mono ?_); rintro e w3 ⟨ad3, cp3, rfl, o3, g3⟩; have ol3 := ol.gr g3; have hc3 := o3.2.1; have hm3 := o3.2.2.1)
      | fail)
    go_ret
    exact ⟨rfl, (g1.trans g2).trans g3⟩
end Go.Proofs.Ytnbinodhdgnjlaa
