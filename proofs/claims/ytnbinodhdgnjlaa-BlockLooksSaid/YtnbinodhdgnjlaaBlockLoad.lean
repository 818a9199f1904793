/- Layer 13 (block): the look: load. -/
import Derived.Test.YtnbinodhdgnjlaaBlockLook
import Derived.Test.YtnbinodhdgnjlaaDuo
import Derived.Test.YtnbinodhdgnjlaaPhase
namespace Go.Proofs.Ytnbinodhdgnjlaa
set_option linter.unusedVariables false
set_option linter.unusedSimpArgs false
open Go.RowKit Bk
def RetLoad (w : World) (g base itv : Nat) (l : List Pr) (A : Int) (r : Nat) : Ending → World → Prop := fun e w' => ∃ ad cap, e = .returned (.slice ad (runF itv l r).length cap) ∧ w.grownBy w' (some g) ∧ LK w' g base itv l A r ∧ Owns w' base 31 2 ad cap (runF itv l r).length (pv (runF itv l r)) ∧ (∀ x, ad = some x → x.block ≠ g) ∧ ∀ gp, gp < w.heap.size → Away w g gp → Away w' g gp
set_option maxRecDepth 100000 in
set_option maxHeartbeats 4000000 in
theorem load_any (w : World) (g base itv : Nat) (l : List Pr) (A R : Int) (r : Nat) (h : LK w g base itv l A R) (h1 : 1 ≤ itv) (h2 : itv ≤ 64) (hl : l.length ≤ 10000) (hok : okLens l) (hr : r * itv < l.length) (hb : base ≤ w.heap.size) :
    Calls Try.prog 44 #[.pointer (some ⟨g, 0, none⟩), .int .i64 (r : Int)] w (RetLoad w g base itv l A r) := by
  obtain ⟨bd, od, c1, ad2, c2, ad, cap, k1, k2, k3, k4, k5, k6, k7, k8, k9, k10, k11, k12, k13⟩ := h
  have q0 := k1.cell (i := 0) rfl
  have q1 := k1.cell (i := 1) rfl
  have q2 := k1.cell (i := 2) rfl
  have q3 := k1.cell (i := 3) rfl
  have q4 := k1.cell (i := 4) rfl
  have q5 := k1.cell (i := 5) rfl
  have q6 := k1.cell (i := 6) rfl
  by_cases hR : R = (r : Int)
  · subst hR
    have e1 : runI itv l (r : Int) = runF itv l r := by unfold runI; rw [if_neg (by omega), Int.toNat_natCast]
    have HK := Lib.hid (show LK w g base itv l A (r : Int) from ⟨bd, od, c1, ad2, c2, ad, cap, k1, k2, k3, k4, k5, k6, k7, k8, k9, k10, k11, k12, k13⟩)
    rw [e1] at k12 q6
    have HO := Lib.hid k12
    clear k1 k12
    go_enter Try.func44, Try.ntmps44
    go_wp2
    go_ret
    exact ⟨ad, cap, rfl, (Gr.refl _).far, HK.out, HO.out, k13, fun _ _ h => h⟩
  · have hne : ((r : Int) != R) = true := by rw [bne_iff_ne]; exact fun e => hR e.symm
    have hz5 := k1.frozen 5
    have hz6 := k1.frozen 6
    obtain ⟨N, hN⟩ : ∃ N, runF itv l r = N := ⟨_, rfl⟩
    have hNl : N.length = min itv (l.length - r * itv) := by rw [← hN]; exact runF_len _ _ _
    have hpl := placeN_length itv l h1 l.length
    have hrun := runs_step h1 l.length r hr
    have hpl2 : 4 * (r + 1) ≤ (placeN itv l l.length).length := by omega
    obtain ⟨b2, o2, rfl⟩ : ∃ b2 o2, ad2 = some ⟨b2, o2, none⟩ := let ⟨x, y, e, hc⟩ := k11 0 (by omega); ⟨x, y, e⟩
    obtain rfl : b2 = bd := k5 _ rfl
    have hdl := dataN_len (itv := itv) hok (r * itv)
    have hr1 : r ≤ r * itv := Nat.le_mul_of_pos_right _ (by omega)
    have B1 := Blk.set_ (Blk.set_ k1 5 (.int .i64 (r : Int))) 6 (.slice none 0 0)
    have G1 := grown_trans (grown_set w g 5 (.int .i64 (r : Int))) (grown_set _ g 6 (.slice none 0 0))
    obtain ⟨W, hW⟩ : ∃ W, (w.setCell ⟨g, 5, none⟩ (.int .i64 (r : Int))).setCell ⟨g, 6, none⟩ (.slice none 0 0) = W := ⟨_, rfl⟩
    rw [hW] at B1 G1
    simp only [List.set_cons_zero, List.set_cons_succ] at B1
    have p0 := B1.cell (i := 0) rfl
    have p1 := B1.cell (i := 1) rfl
    have p2 := B1.cell (i := 2) rfl
    have p3 := B1.cell (i := 3) rfl
    obtain ⟨a1, ha1⟩ : ∃ a1, a1 = 4 * r := ⟨_, rfl⟩
    obtain ⟨a2, ha2⟩ : ∃ a2, a2 = 4 * r + 4 := ⟨_, rfl⟩
    have hat : Varint.le (((placeN itv l l.length).drop a1).take 4) = (dataN itv l (r * itv)).length := by rw [ha1, place_at h1 r _ hr]; exact le_bytesN 4 _ (by omega)
    have z1 : (4 : Int) * (r : Int) = (a1 : Int) := by omega
    have z2 : (4 : Int) * ((r : Int) + 1) = (a2 : Int) := by omega
    have hrb : r ≤ 10000 := by omega
    have z3 : a2 - a1 = 4 := by omega
    have k10' := Bytes.grown k10 G1 (fun x hx e => by cases hx; cases e; exact k4 rfl)
    have k11' := Bytes.grown k11 G1 (fun x hx e => by cases hx; cases e; exact k4 rfl)
    have HWH := Lib.hid (whole_at (some ⟨b2, o2 + a1, none⟩) 4 (c2 - a1) (((placeN itv l l.length).drop a1).take 4) W (by rw [List.length_take, List.length_drop]; omega) (by omega) ((k11'.drop a1).take 4))
    rw [hat] at HWH
    have HB1 := Lib.hid B1
    have HG1 := Lib.hid G1
    have HD := Lib.hid k10'
    have HPL := Lib.hid k11'
    obtain ⟨ri, hri⟩ : ∃ ri, ri = r * itv := ⟨_, rfl⟩
    obtain ⟨m, hm⟩ : ∃ m, m = N.length := ⟨_, rfl⟩
    have hml : m = min itv (l.length - ri) := by rw [hm, hNl, hri]
    have x1 : (r : Int) * (itv : Int) = (ri : Int) := by rw [hri]; simp
    have x2 : (l.length : Int) - (ri : Int) = ((l.length - ri : Nat) : Int) := by omega
    have x3 : min (itv : Int) ((l.length - ri : Nat) : Int) = (m : Int) := by omega
    have hrl : ri < l.length := by omega
    have hdl0 : (dataN itv l ri).length ≤ 2206 * ri := by rw [hri]; exact hdl
    have HRI := Lib.hid hri
    have hmi : m ≤ itv := by omega
    have hmr : ri + m ≤ l.length := by omega
    have HM := Lib.hid hm
    have HN := Lib.hid hN
    rw [← hri] at HWH
    have hzw5 := B1.frozen 6
    have y1 : a2 ≤ c2 := by omega
    have y2 : a1 < c2 := by omega
    have y3 : c2 ≠ a1 := by omega
    have HQ0 := Lib.hid q0
    clear hml k1 k10 k11 k11' k10' hat k12 hN ha1 ha2 q0 q1 q2 q3 q4 hr hri hm hNl hdl hpl2 hrun hpl
    go_enter Try.func44, Try.ntmps44
    go_wp2_with (go_at_call 53; refine HWH.out.mono ?_; rintro e w' ⟨rfl, rfl⟩)
    go_quiet (fail)
    go_wp2
    clear x1 x2 x3 z1 z2 z3 y1 y2 y3
    have hWg : g < W.heap.size := HB1.out.lt
    have hlen1 : (dataN itv l l.length).length ≤ 2206 * l.length := dataN_len hok _
    go_loopw [7, 8, 57] (fun va vk vi wr => ∃ (j : Nat) (adP : Option Addr) (capP : Nat), j ≤ m ∧ va = .int .i64 ((dataN itv l (ri + j)).length : Int) ∧ vk = .string (str (keyR l (ri + j) j)) ∧ vi = .int .i64 (j : Int) ∧
      W.grownBy wr (some g) ∧ Blk wr g 75 [.slice (some ⟨b2, od, none⟩) (dataN itv l l.length).length c1, .slice (some ⟨b2, o2, none⟩) (placeN itv l l.length).length c2, .int .i64 (itv : Int), .int .i64 (l.length : Int), .int .i64 A, .int .i64 (r : Int), .slice adP j capP] ∧
      Owns wr W.heap.size 31 2 adP capP j (pv (N.take j))) (fun _ _ vi _ => m - (intOf vi).toNat)
    case atStart => exact ⟨0, none, 0, Nat.zero_le _, rfl, rfl, rfl, (Gr.drewN W nq).far, HB1.out.gr (Gr.drewN W nq), Owns.empty _ _ _ _⟩
    case round =>
      obtain ⟨j, adP, capP, hjm, rfl, rfl, rfl, kj, bj, oj⟩ := hrel
      have HBJ := Lib.hid bj
      have HKJ := Lib.hid kj
      have t0 := bj.cell (i := 0) rfl
      have t6 := bj.cell (i := 6) rfl
      have hbs := kj.size
      have hwW := HG1.out.size
      by_cases hj : j < m
      · have hi : ri + j < l.length := by omega
        have hrun := HRI.out
        have he := entry_run hok r j (by rw [← hrun]; exact hi) (by omega)
        rw [← hrun] at he
        have hget : N[j]? = some (l.getD (ri + j) noPr) := by rw [← HN.out, hrun]; exact runF_get (by rw [HN.out, ← HM.out]; exact hj)
        have hkn : keyR l (ri + j + 1) (j + 1) = (l.getD (ri + j) noPr).1 := keyR_next _ _ _
        have htk : N.take (j + 1) = N.take j ++ [l.getD (ri + j) noPr] := by rw [List.take_add_one, hget]; rfl
        have hkl : (keyR l (ri + j) j).length ≤ 200 := by
          unfold keyR keyAt
          split
          · simp
          · split
            · simp
            · exact (hok _).1
        have hal : (dataN itv l (ri + j)).length ≤ (dataN itv l l.length).length := by
          obtain ⟨q, hq⟩ := dataN_prefix itv l (ri + j) (l.length - (ri + j))
          rw [show ri + j + (l.length - (ri + j)) = l.length by omega] at hq
          rw [hq, List.length_append]; omega
        have hHD := Bytes.grown HD.out kj (fun x hx e => by cases hx; cases e; exact k4 rfl)
        have HEN := Lib.hid (entry_any b2 od c1 (dataN itv l l.length) _ (keyR l (ri + j) j) wr (by omega) k6 k7 hal (by omega) (by omega) hHD)
        rw [he] at HEN
        have HKN := Lib.hid hkn
        have HTK := Lib.hid htk
        have hall : (dataN itv l (ri + j)).length ≤ 100000000 := by omega
        clear hkn htk he hget hHD hrun
        obtain ⟨p, hp⟩ : ∃ p, p = l.getD (ri + j) noPr := ⟨_, rfl⟩
        rw [← hp] at HEN HKN HTK
        have hpk := hok (ri + j)
        rw [← hp] at hpk
        obtain ⟨t, ht⟩ : ∃ t, t = (dataN itv l (ri + (j + 1))).length := ⟨_, rfl⟩
        rw [← ht] at HEN
        have htl : t ≤ 100000000 := by
          have := dataN_len (itv := itv) hok (ri + (j + 1))
          omega
        have HT := Lib.hid ht
        generalize (dataN itv l (ri + j)).length = at_ at *
        generalize keyR l (ri + j) j = key at *
        clear hp ht hok
        go_wp2_with (go_at_call 35; refine HEN.out.mono ?_; rintro e w2 ⟨p', t', ok, rfl, g2, hok', hp', ht'⟩; obtain rfl : ok = true := hok'; obtain rfl := hp'; subst ht')
        obtain ⟨gb, hgb⟩ : ∃ gb, gb = w2.heap.size := ⟨_, rfl⟩
        have bk : Blk (w2.alloc (.cells #[.string (str p'.1), .string (str p'.2)] 31)) gb 31 [.string (str p'.1), .string (str p'.2)] := by rw [hgb]; exact Blk.new _ _ _
        have gw2 : Gr wr (w2.alloc (.cells #[.string (str p'.1), .string (str p'.2)] 31)) := g2.trans (Gr.alloc _ _)
        have hgs : wr.heap.size ≤ gb := by rw [hgb]; exact g2.size
        have hgb2 : gb < (w2.alloc (.cells #[.string (str p'.1), .string (str p'.2)] 31)).heap.size := bk.lt
        rw [← hgb]
        clear hgb t0 t6
        generalize w2.alloc (.cells #[.string (str p'.1), .string (str p'.2)] 31) = V at *
        have oj2 := oj.gr gw2
        have bjV := HBJ.out.gr gw2
        have t6 := bjV.cell (i := 6) rfl
        have hgV := bjV.lt
        obtain ⟨y0, y1⟩ := bk.two
        obtain ⟨row, hrow⟩ : ∃ row, row = adP.map (·.block) := ⟨_, rfl⟩
        have hrlt : ∀ g', row = some g' → g' < wr.heap.size ∧ W.heap.size ≤ g' := by
          intro g' hg'
          rw [hrow] at hg'
          cases adP with
          | none => cases hg'
          | some y => cases hg'; exact ⟨(oj.lt y rfl).2, (oj.lt y rfl).1⟩
        have hgne : some gb ≠ row := fun h => by have := (hrlt gb h.symm).1; omega
        have hgne2 : some g ≠ row := fun h => by have := (hrlt g h.symm).2; omega
        have hWs := gw2.size
        obtain ⟨A9, hA⟩ : ∃ A9 : Option Obj, ∀ g, row = some g → A9 = V.heap[g]? := ⟨row.bind fun g => V.heap[g]?, fun g hg' => by rw [hg']; rfl⟩
        obtain ⟨B9, hB⟩ : ∃ B9 : Option Obj, B9 = if j + 1 ≤ capP then appRow (j * 2) [.string (str p'.1), .string (str p'.2)] A9 else A9 := ⟨_, rfl⟩
        have m1 : j + 1 ≤ maxLen := by unfold maxLen; omega
        have m2 : (j + 1) * 32 ≤ 140737488355328 := by omega
        have hbsW : W.heap.size ≤ V.heap.size := Nat.le_trans hbs hWs
        have HRow := Lib.hid hrow; have HA := Lib.hid hA; have HBB := Lib.hid hB; have HRL := Lib.hid hrlt; have HBV := Lib.hid bjV; have HG2 := Lib.hid gw2
        clear hrow hA hB hrlt bjV
        obtain ⟨cs, hcs⟩ : ∃ cs : List Value, cs = [.slice (some ⟨b2, od, none⟩) (dataN itv l l.length).length c1, .slice (some ⟨b2, o2, none⟩) (placeN itv l l.length).length c2, .int .i64 (itv : Int), .int .i64 (l.length : Int), .int .i64 A, .int .i64 (r : Int)] := ⟨_, rfl⟩
        have HCS := Lib.hid hcs
        have hPre : ∀ w', Blk w' g 75 (cs ++ [.slice adP j capP]) → w'.cell? ⟨g, 6, none⟩ = some (.slice adP j capP) ∧ w'.frozen? ⟨g, 6, none⟩ = false := fun w' h => ⟨h.cell (by rw [hcs]; rfl), h.frozen 6⟩
        have hSet : ∀ w' v, Blk w' g 75 (cs ++ [.slice adP j capP]) → Blk (w'.setCell ⟨g, 6, none⟩ v) g 75 (cs ++ [v]) := fun w' v h => by
          have := h.set_ 6 v
          rw [hcs] at this ⊢
          exact this
        have hp0 : Blk V.drew g 75 (cs ++ [.slice adP j capP]) := by rw [hcs]; exact HBV.out.drew
        have HPRE := Lib.hid hPre; have HSET := Lib.hid hSet; have HP0 := Lib.hid hp0
        clear hcs hPre hSet hp0
        have hrV : ∀ r, row = some r → r < V.heap.size := fun r h => by have := (HRL.out r h).1; omega
        have hgbg : gb ≠ g := by omega
        have HRV := Lib.hid hrV
        clear hrV
        refine region_phase (Le := Duo row A9 B9 g (TailGood row B9 W.heap.size 75 31 2 (j + 1) (pv (N.take j) ++ [.string (str p'.1), .string (str p'.2)]) V.heap.size g cs)) (fun w' => Blk w' g 75 (cs ++ [.slice adP j capP])) 13 Duo.refl (fun _ _ _ => Duo.trans) (Duo.drew (TailGood.drew hgV hgne2)) HP0.out _ [Is ?r0, Is ?r1, Is ?r2, Is ?r3, Is (.slice adP j capP), Is (.agg #[.string (str p'.1), .string (str p'.2)]), OneD V.heap.size [.string (str p'.1), .string (str p'.2)], Apn row B9 W.heap.size 31 2 (j + 1) (pv (N.take j) ++ [.string (str p'.1), .string (str p'.2)]) V.heap.size, Is (.int .i64 (t : Int)), Is (.pointer (some ⟨gb, 0, none⟩)), Is (.string (str p'.1)), Is ?r11, Is ?r12, SinceG (TailGood row B9 W.heap.size 75 31 2 (j + 1) (pv (N.take j) ++ [.string (str p'.1), .string (str p'.2)]) V.heap.size g cs), Is (.int .i64 (t : Int)), Is (.string (str p'.1))] (by kernel_rfl) (by kernel_rfl) (by kernel_rfl) rfl rfl ⟨Is.stable _, Is.stable _, Is.stable _, Is.stable _, Is.stable _, Is.stable _, OneD.dstable hgV HRV.out, Apn.dstable hgV hgne2, Is.stable _, Is.stable _, Is.stable _, Is.stable _, Is.stable _, SinceG.stable, Is.stable _, Is.stable _, trivial⟩ ⟨?s0, ?s1, ?s2, ?s3, ?s4, ?s5, ?s6, ?s7, ?s8, ?s9, ?s10, ?s11, ?s12, ?s13, ?s14, ?s15, trivial⟩ ?fin
        case' s0 | s1 | s2 | s3 | s4 | s5 | s6 | s8 | s9 | s10 | s11 | s12 | s14 | s15 =>
          intro ρ wr hρ hg hK
          simp [readsOf, slotsOf, Op.operands, Call.operands, tmpOf, List.filterMap_cons, List.filterMap_nil, KnownAll, knownOf, srcOf, depsOf, dstOf, Region.binds, nth, Is] at hK
          obtain ⟨hc, hf, hgl⟩ := hρ
          try simp only [wantedBy, dstOf, boolOf, nth, List.getD_cons_zero, List.getD_cons_succ, List.getElem?_cons_zero, List.getElem?_cons_succ, Option.bind_some, if_true, hK, BEq.rfl]
          try go_simp
          first | exact rfl | (rw [if_pos (by omega)]; exact is_here rfl) | (rw [dif_pos (by omega)]; exact is_here rfl) | exact congrArg (Value.int _) (IntWalk.i64_in _ ⟨by omega, by omega⟩) | skip
        case' s7 | s13 =>
          intro ρ wr hρ hg hK
          simp [readsOf, slotsOf, Op.operands, Call.operands, tmpOf, List.filterMap_cons, List.filterMap_nil, KnownAll, knownOf, srcOf, depsOf, dstOf, Region.binds, nth, Is] at hK
          obtain ⟨hc, hf, hgl⟩ := hρ
          try simp only [wantedBy, dstOf, boolOf, nth, List.getD_cons_zero, List.getD_cons_succ, List.getElem?_cons_zero, List.getElem?_cons_succ, Option.bind_some, if_true, hK, BEq.rfl]
        case s4 =>
          obtain ⟨p1, p2⟩ := HPRE.out _ (hg.2 (by kernel_rfl))
          go_simp
          exact rfl
        case s5 =>
          have z0 := hg.1.cell y0 hgne hgbg
          have z1 := hg.1.cell y1 hgne hgbg
          go_simp
          exact rfl
        case s6 =>
          have hs := hg.1.size
          have k := Gr.duo (row := row) (A := A9) (B := B9) (g := g) (Good := fun _ => True) (Gr.alloc wr (.cells #[.string (str p'.1), .string (str p'.2)] 31)) (fun r h => by have := HRV.out r h; omega) (by omega) (fun _ => trivial)
          exact ⟨⟨(Gr.alloc _ _).duo (fun r h => by have := HRV.out r h; omega) (by omega) (fun h => h.duo hgV hgne2 k ((Gr.alloc _ _).block g (by omega))), fun _ h => Blk.alloc h _⟩, _, _, _, rfl, hs, heap_alloc_new _ _⟩
        case s7 =>
          obtain ⟨e0, hone⟩ := hK
          have hs := hg.1.size
          obtain ⟨g9, q9, fr9, o1, o2, o3⟩ := hone
          obtain ⟨v, w3, r1, r2, r3⟩ := append_once3 (ty := 22) (u := 22) elemP oj2 HRow.out HA.out HBB.out hg.1.row hs (OneB.src ⟨g9, q9, fr9, o1, o3⟩ rfl (pv_one [p']) Try.underlying22) m1 m2 hbsW
          have k := Once.duo (g := g) (Good := fun _ => True) r2 (by omega) hgne2 (fun _ => trivial)
          simp only [execOp, resolve, invoke, builtin, Sem.run_bind, Sem.run_pure, Result.andThen_ok, List.map_toArray, List.map_cons, List.map_nil, e0]
          rw [r1]
          exact ⟨⟨r2.duo (by omega) hgne2 (fun h => h.duo hgV hgne2 k (r2.1.block g (by omega) hgne2)), fun _ h => Blk.grown h r2.1 hgne2⟩, r3⟩
        case s10 =>
          have z0 := hg.1.cell y0 hgne hgbg
          go_simp
          exact rfl
        case s13 =>
          obtain ⟨e0, hap⟩ := hK
          have hb := hg.2 (by kernel_rfl)
          obtain ⟨p1, p2⟩ := HPRE.out _ hb
          have hset := HSET.out _ (ρ (.tmp 77)) hb
          obtain ⟨d1, d2⟩ := duo_set (A := A9) hset hap hgV hgne2
          obtain ⟨adv, cpv, e1, _⟩ := hap
          rw [e1] at d1 d2
          go_simp
          exact ⟨⟨d1, fun h => by cases h⟩, d2⟩
        case fin =>
          intro w1 val hg hH
          simp only [Holds, Is, Nat.zero_add, Nat.reduceAdd] at hH
          obtain ⟨h0, h1, h2, h3, h4, h5, h6, h7, h8, h9, h10, h11, h12, h13, h14, h15, _⟩ := hH
          simp only [List.take_succ_cons, List.take_zero, List.drop_succ_cons, List.drop_zero, putAll, h0, h1, h2, h3, h4, h5, h8, h9, h10, h11, h12, h14, h15, Nat.zero_add, Nat.reduceAdd]
          obtain ⟨v9, b9, ad9, c9, rfl, o9, _, _⟩ := h13
          obtain ⟨ad7, c7, e7, _⟩ := h7
          obtain ⟨g6, e6, fr6, e6', _⟩ := h6
          simp only [e7, e6']
          have kW := Duo.far hg (fun r h => (HRL.out r h).2) (grown_trans HKJ.out HG2.out.far)
          rw [HCS.out] at b9
          go_simp
          go_wp2
          go_roundw
          case rel =>
            refine ⟨j + 1, ad9, c9, hj, ?_, ?_, by go_num, kW, b9, ?_⟩
            · rw [HT.out]
            · rw [← HKN.out]; rfl
            · rw [HTK.out, pv_append]; exact o9
          case measure => simp [intOf]; omega
      · obtain rfl : j = m := by omega
        have htn : N.take j = N := by rw [HM.out]; exact List.take_length
        rw [htn] at oj
        go_wp2
        go_ret
        have hs1 := HG1.out.size
        have hrow : ∀ x, adP = some x → x.block ≠ g := fun x hx e => by have := (oj.lt x hx).1; omega
        have kA := grown_trans HG1.out kj
        refine ⟨adP, capP, by rw [HN.out, ← HM.out]; rfl, kA, ?_, by rw [HN.out, ← HM.out]; exact oj.base (by omega), hrow, fun gp hgp ha => ?_⟩
        rotate_left
        · have a0 := ha 0 _ _ _ HQ0.out
          refine Away.of bj (fun x n c e => by cases e; exact a0 _ rfl) (fun x n c e => by cases e; exact (a0 ⟨b2, od, none⟩ rfl : b2 ≠ gp)) (fun x n c e => by cases e) (fun x n c e => by cases e) (fun x n c e => by cases e) (fun x n c e => by cases e) (fun x n c e => by cases e; have := (oj.lt _ rfl).1; omega)
        refine ⟨b2, od, c1, some ⟨b2, o2, none⟩, c2, adP, capP, ?_, k2, by omega, k4, fun x hx => by cases hx; rfl, k6, k7, k8, k9, Bytes.grown HD.out kj (fun x hx e => by cases hx; cases e; exact k4 rfl), Bytes.grown HPL.out kj (fun x hx e => by cases hx; cases e; exact k4 rfl), ?_, hrow⟩
        · unfold runI
          rw [if_neg (by omega), Int.toNat_natCast, HN.out, ← HM.out]
          exact bj
        · unfold runI
          rw [if_neg (by omega), Int.toNat_natCast, HN.out, ← HM.out]
          exact oj.base (by omega)
end Go.Proofs.Ytnbinodhdgnjlaa
