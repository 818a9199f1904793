/- Layer 13 (block): the look: Pair; cmp.Compare, slices.BinarySearchFunc. -/
import Derived.Test.YtnbinodhdgnjlaaBlockLoad
import Derived.Test.YtnbinodhdgnjlaaTurn
namespace Go.Proofs.Ytnbinodhdgnjlaa
set_option linter.unusedVariables false
set_option linter.unusedSimpArgs false
open Go.RowKit Bk
open Go.Op (bytesLess)
def cmpF (x y : List UInt8) : Int := if bytesLess x y = true then -1 else if bytesLess y x = true then 1 else 0
theorem cmpF_lt (x y : List UInt8) : cmpF x y < 0 ↔ bytesLess x y = true := by
  unfold cmpF
  split
  · simp [*]
  · split <;> simp [*]
theorem nan_any (x : List UInt8) (w : World) : Calls Try.prog 56 #[.string (str x)] w fun e w' => e = .returned (.bool false) ∧ w = w' := by
  go_enter Try.func56, Try.ntmps56
  go_wp2
  go_ret
  exact ⟨rfl, rfl⟩
theorem cmp_any (x y : List UInt8) (w : World) : Calls Try.prog 48 #[.string (str x), .string (str y)] w fun e w' => e = .returned (.int .i64 (cmpF x y)) ∧ w = w' := by
  by_cases h1 : bytesLess x y = true
  · have h2 := bl_asymm h1
    go_enter Try.func48, Try.ntmps48
    go_wp2_with (go_at_call 56; refine (nan_any _ _).mono ?_; rintro e w1 ⟨rfl, rfl⟩)
    go_ret
    exact ⟨by unfold cmpF; rw [if_pos h1]; rfl, rfl⟩
  · have h1' : bytesLess x y = false := by simpa using h1
    by_cases h2 : bytesLess y x = true
    · have hxy : (x == y) = false := by rw [beq_eq_false_iff_ne]; rintro rfl; rw [h2] at h1'; cases h1'
      go_enter Try.func48, Try.ntmps48
      go_wp2_with (go_at_call 56; refine (nan_any _ _).mono ?_; rintro e w1 ⟨rfl, rfl⟩)
      go_ret
      exact ⟨by unfold cmpF; rw [if_neg h1, if_pos h2]; rfl, rfl⟩
    · have h2' : bytesLess y x = false := by simpa using h2
      obtain rfl := bl_total h1' h2'
      go_enter Try.func48, Try.ntmps48
      go_wp2_with (go_at_call 56; refine (nan_any _ _).mono ?_; rintro e w1 ⟨rfl, rfl⟩)
      go_ret
      exact ⟨by unfold cmpF; rw [if_neg h1, if_neg h2]; rfl, rfl⟩
theorem cls_any (p : Pr) (key : List UInt8) (w : World) : Calls Try.prog 47 #[.agg #[.string (str p.1), .string (str p.2)], .string (str key)] w fun e w' => e = .returned (.int .i64 (cmpF p.1 key)) ∧ Gr w w' := by
  go_enter Try.func47, Try.ntmps47
  go_wp2_with (go_at_call 48; refine (cmp_any _ _ _).mono ?_; rintro e w1 ⟨rfl, rfl⟩)
  go_ret
  exact ⟨rfl, Gr.alloc _ _⟩
theorem bl_le_trans' {l : List Pr} (hs : ∀ i, i + 1 < l.length → bytesLess (l.getD i noPr).1 (l.getD (i + 1) noPr).1 = true) : ∀ d i, i + d < l.length → bytesLess (l.getD (i + d) noPr).1 (l.getD i noPr).1 = false
  | 0, i, _ => bl_irr _
  | d + 1, i, h => by
    have h1 := bl_le_trans' hs d i (by omega)
    have h2 := hs (i + d) (by omega)
    exact bl_le_trans h1 (bl_asymm h2)
theorem sorted_at {l : List Pr} (hs : ∀ i, i + 1 < l.length → bytesLess (l.getD i noPr).1 (l.getD (i + 1) noPr).1 = true) (i j : Nat) (hij : i ≤ j) (hj : j < l.length) : bytesLess (l.getD j noPr).1 (l.getD i noPr).1 = false := by
  have := bl_le_trans' hs (j - i) i (by omega)
  rwa [show i + (j - i) = j by omega] at this
set_option maxRecDepth 100000 in
set_option maxHeartbeats 1000000 in
theorem bsf_any (ad : Option Addr) (n cap : Nat) (l : List Pr) (key : List UInt8) (w : World) (hn : n = l.length) (hr : Row w ad (pv l)) (hl : l.length ≤ 10000)
    (hs : ∀ i, i + 1 < l.length → bytesLess (l.getD i noPr).1 (l.getD (i + 1) noPr).1 = true) :
    Calls Try.prog 46 #[.slice ad n cap, .string (str key), .func (.func 47) #[] #[]] w fun e w' => ∃ b, e = .returned (.tuple #[.int .i64 (lowF key l : Int), .bool b]) ∧ Gr w w' := by
  subst hn
  have HR := Lib.hid hr.pair
  have HS := Lib.hid (sorted_at hs)
  clear hr hs
  have hclo : Fn.func 47 = Fn.func 47 := rfl
  go_enter Try.func46, Try.ntmps46
  go_wp2
  go_loopw [9, 10] (fun vi vj wr => ∃ (i j : Nat), i ≤ j ∧ j ≤ l.length ∧ vi = .int .i64 (i : Int) ∧ vj = .int .i64 (j : Int) ∧ Gr w wr ∧ (∀ x, x < i → bytesLess (l.getD x noPr).1 key = true) ∧ (∀ x, j ≤ x → x < l.length → bytesLess (l.getD x noPr).1 key = false)) (fun vi vj _ => (intOf vj).toNat - (intOf vi).toNat)
  case atStart => exact ⟨0, l.length, Nat.zero_le _, Nat.le_refl _, rfl, rfl, Gr.refl _, fun x h => by omega, fun x h1 h2 => by omega⟩
  case round =>
    obtain ⟨i, j, hij, hjl, rfl, rfl, hg, hlo, hhi⟩ := hrel
    have HLO := Lib.hid hlo
    have HHI := Lib.hid hhi
    clear hlo hhi
    by_cases h : i < j
    · obtain ⟨h, hh⟩ : ∃ h, h = (i + j) / 2 := ⟨_, rfl⟩
      have hh1 : i ≤ h := by omega
      have hh2 : h < j := by omega
      have hhl : h < l.length := by omega
      obtain ⟨bl, off, hb, hc1, hc2⟩ := HR.out h hhl
      subst hb
      have z1 := hg.cell hc1
      have z2 := hg.cell hc2
      have hp : l[h] = l.getD h noPr := by rw [List.getD_eq_getElem?_getD, List.getElem?_eq_getElem hhl]; rfl
      rw [hp] at z1 z2
      have HSo := Lib.hid (fun x (hx : x ≤ h) => HS.out x h hx hhl)
      have HSo2 := Lib.hid (fun x (hx : h ≤ x) hxl => HS.out h x hx hxl)
      generalize hpe : l.getD h noPr = p at *
      have HPE := Lib.hid hpe
      clear hpe hp hc1 hc2
      have e1 : ((i : Int) + (j : Int)) / 2 = (h : Int) := by omega
      have HCL := Lib.hid (fun w => cls_any p key w)
      clear hh
      by_cases hlt : bytesLess p.1 key = true
      · have hc : cmpF p.1 key < 0 := (cmpF_lt _ _).2 hlt
        have HLT := Lib.hid hlt
        clear hlt
        generalize cmpF p.1 key = c at *
        go_wp2_with (go_at_call 47; refine (HCL.out _).mono ?_; rintro e w1 ⟨rfl, g1⟩)
        go_roundw
        case rel => exact ⟨h + 1, j, hh2, hjl, by go_num, rfl, hg.trans g1, fun x hx => bl_le_lt (HPE.out ▸ HSo.out x (by omega)) HLT.out, HHI.out⟩
        case measure => simp [intOf]; omega
      · have hlt' : bytesLess p.1 key = false := by simpa using hlt
        have hc : 0 ≤ cmpF p.1 key := Int.not_lt.1 (fun h => hlt ((cmpF_lt _ _).1 h))
        have HLT := Lib.hid hlt'
        clear hlt hlt'
        generalize cmpF p.1 key = c at *
        go_wp2_with (go_at_call 47; refine (HCL.out _).mono ?_; rintro e w1 ⟨rfl, g1⟩)
        go_roundw
        case rel => exact ⟨i, h, hh1, by omega, rfl, rfl, hg.trans g1, HLO.out, fun x hx hxl => bl_le_trans HLT.out (HPE.out ▸ HSo2.out x hx hxl)⟩
        case measure => simp [intOf]; omega
    · obtain rfl : i = j := by omega
      have HN := Lib.hid (lowF_is hjl HLO.out (fun hx => HHI.out i (Nat.le_refl _) hx))
      by_cases hi : i < l.length
      · obtain ⟨bl, off, hb, hc1, hc2⟩ := HR.out i hi
        subst hb
        have z1 := hg.cell hc1
        have z2 := hg.cell hc2
        have hp : l[i] = l.getD i noPr := by rw [List.getD_eq_getElem?_getD, List.getElem?_eq_getElem hi]; rfl
        rw [hp] at z1 z2
        generalize hpe : l.getD i noPr = p at *
        have HCL := Lib.hid (fun w => cls_any p key w)
        clear hpe hp hc1 hc2
        go_wp2_with (go_at_call 47; refine (HCL.out _).mono ?_; rintro e w1 ⟨rfl, g1⟩)
        go_ret2
        rw [HN.out]
        exact ⟨_, rfl, hg.trans g1⟩
      · go_wp2
        go_ret2
        rw [HN.out]
        exact ⟨_, rfl, hg⟩
/-- a run, whole, and not in the look's own block -/
def RunV (g base : Nat) (N : List Pr) : Value → World → Prop := fun v w => ∃ ad cap, v = .slice ad N.length cap ∧ Owns w base 31 2 ad cap N.length (pv N) ∧ ∀ x, ad = some x → x.block ≠ g
theorem RunV.stable {g base : Nat} {N : List Pr} {Good : World → Prop} : Stable (Turn g Good) (RunV g base N) := by
  rintro v w1 w2 ⟨ad, cap, rfl, ho, hne⟩ k
  exact ⟨ad, cap, rfl, ho.grown k.1 (fun x hx e => hne x hx (Option.some.inj e)), hne⟩
theorem KB.same {w w' : World} {g base : Nat} {d pl : List UInt8} {itv c : Nat} {A R : Int} {ps : List Pr} (h : KB w g base d pl itv c A R ps) (k : w.grownBy w' (some g)) (hs : w'.heap[g]? = w.heap[g]?) : KB w' g base d pl itv c A R ps := by
  obtain ⟨bd, od, c1, ad2, c2, ad, cap, h1, h2, h3, h4, h5, h6, h7, h8, h9, h10, h11, h12, h13⟩ := h
  refine ⟨bd, od, c1, ad2, c2, ad, cap, hs.trans h1, h2, Nat.lt_of_lt_of_le h3 k.size, h4, h5, h6, h7, h8, h9, h10.grown k (fun x hx e => ?_), h11.grown k (fun x hx e => ?_), h12.grown k (fun x hx e => ?_), h13⟩
  · cases hx; cases e; exact h4 rfl
  · cases e; exact h4 (h5 x hx).symm
  · cases e; exact h13 x hx rfl
/-- a pointer to a pair, not in the look's own block -/
def PtrV (g m : Nat) (p : Pr) : Value → World → Prop := fun v w => ∃ b off, v = .pointer (some ⟨b, off + m * 2, none⟩) ∧ b ≠ g ∧ w.cell? ⟨b, off + m * 2, none⟩ = some (.string (str p.1)) ∧ w.cell? ⟨b, off + m * 2 + 1, none⟩ = some (.string (str p.2))
theorem PtrV.stable {g m : Nat} {p : Pr} {Good : World → Prop} : Stable (Turn g Good) (PtrV g m p) := by
  rintro v w1 w2 ⟨b, off, rfl, hne, h1, h2⟩ k
  exact ⟨b, off, rfl, hne, k.cell h1 hne, k.cell h2 hne⟩
def pairAt (l : List Pr) (A : Int) : Pr × Nat := if A < 0 ∨ A = (l.length : Int) then (([], []), 15) else (l.getD A.toNat noPr, 0)
set_option maxRecDepth 100000 in
set_option maxHeartbeats 2000000 in
theorem Pair_any (w : World) (g base itv : Nat) (l : List Pr) (A R : Int) (h : LK w g base itv l A R) (h1 : 1 ≤ itv) (h2 : itv ≤ 64) (hl : l.length ≤ 10000) (hok : okLens l) (hA : -1 ≤ A) (hA2 : A ≤ (l.length : Int)) (hb : base ≤ g) :
    Calls Try.prog 18 #[.pointer (some ⟨g, 0, none⟩)] w fun e w' => e = .returned (.tuple #[.agg #[.string (str (pairAt l A).1.1), .string (str (pairAt l A).1.2)], .int .i64 ((pairAt l A).2 : Int)]) ∧ Kept g w w' ∧ ∃ R', LK w' g base itv l A R' := by
  obtain ⟨hc2, hc3, hc4, hc5, hfz⟩ := h.cells
  have HLK := Lib.hid h
  obtain ⟨hgl, hbl⟩ := h.lt
  clear h hfz
  by_cases h0 : A < 0
  · have HN := Lib.hid (show pairAt l A = (([], []), 15) by unfold pairAt; rw [if_pos (.inl h0)])
    go_enter Try.func18, Try.ntmps18
    go_wp2
    go_quiet (fail)
    go_wp2
    have b2 : Blk ((((w.alloc (.cells #[.string ⟨#[]⟩, .string ⟨#[]⟩] 31)).drewN nq).setCell ⟨w.heap.size, 0, none⟩ (.string ⟨#[]⟩)).setCell ⟨w.heap.size, 1, none⟩ (.string ⟨#[]⟩)) w.heap.size 31 [.string ⟨#[]⟩, .string ⟨#[]⟩] := (((Blk.new w 31 #[.string ⟨#[]⟩, .string ⟨#[]⟩]).gr (Gr.drewN _ nq)).set_ 0 (.string ⟨#[]⟩)).set_ 1 (.string ⟨#[]⟩)
    obtain ⟨d0, d1⟩ := Blk.two b2
    have gE : Gr w ((((w.alloc (.cells #[.string ⟨#[]⟩, .string ⟨#[]⟩] 31)).drewN nq).setCell ⟨w.heap.size, 0, none⟩ (.string ⟨#[]⟩)).setCell ⟨w.heap.size, 1, none⟩ (.string ⟨#[]⟩)) := Gr.of_far (Gr.of_far ((Gr.alloc w _).trans (Gr.drewN _ nq)) (grown_set _ _ 0 _) (Nat.le_refl _)) (grown_set _ _ 1 _) (Nat.le_refl _)
    refine bodyPost_ret (v := .tuple #[.agg #[.string ⟨#[]⟩, .string ⟨#[]⟩], .int .i64 15]) (by simp [results, Try.results18, go_sem, d0, d1]) rfl ?_
    rw [HN.out]
    exact ⟨rfl, gE.look hgl, R, KB.gr HLK.out gE⟩
  · by_cases h9 : A = (l.length : Int)
    · have HN := Lib.hid (show pairAt l A = (([], []), 15) by unfold pairAt; rw [if_pos (.inr h9)])
      subst h9
      go_enter Try.func18, Try.ntmps18
      go_wp2
      go_quiet (fail)
      go_wp2
      have b2 : Blk ((((w.alloc (.cells #[.string ⟨#[]⟩, .string ⟨#[]⟩] 31)).drewN nq).setCell ⟨w.heap.size, 0, none⟩ (.string ⟨#[]⟩)).setCell ⟨w.heap.size, 1, none⟩ (.string ⟨#[]⟩)) w.heap.size 31 [.string ⟨#[]⟩, .string ⟨#[]⟩] := (((Blk.new w 31 #[.string ⟨#[]⟩, .string ⟨#[]⟩]).gr (Gr.drewN _ nq)).set_ 0 (.string ⟨#[]⟩)).set_ 1 (.string ⟨#[]⟩)
      obtain ⟨d0, d1⟩ := Blk.two b2
      have gE : Gr w ((((w.alloc (.cells #[.string ⟨#[]⟩, .string ⟨#[]⟩] 31)).drewN nq).setCell ⟨w.heap.size, 0, none⟩ (.string ⟨#[]⟩)).setCell ⟨w.heap.size, 1, none⟩ (.string ⟨#[]⟩)) := Gr.of_far (Gr.of_far ((Gr.alloc w _).trans (Gr.drewN _ nq)) (grown_set _ _ 0 _) (Nat.le_refl _)) (grown_set _ _ 1 _) (Nat.le_refl _)
      refine bodyPost_ret (v := .tuple #[.agg #[.string ⟨#[]⟩, .string ⟨#[]⟩], .int .i64 15]) (by simp [results, Try.results18, go_sem, d0, d1]) rfl ?_
      rw [HN.out]
      exact ⟨rfl, gE.look hgl, R, KB.gr HLK.out gE⟩
    · obtain ⟨a, rfl⟩ : ∃ a : Nat, A = (a : Int) := ⟨A.toNat, by omega⟩
      have hz : ((a : Int) == (l.length : Int)) = false := by rw [beq_eq_false_iff_ne]; exact h9
      have HPA := Lib.hid (show pairAt l (a : Int) = (l.getD a noPr, 0) by unfold pairAt; rw [if_neg (fun h => by rcases h with h | h; exact h0 h; exact h9 h), Int.toNat_natCast])
      obtain ⟨q, hq⟩ : ∃ q, q = a / itv := ⟨_, rfl⟩
      obtain ⟨m, hm⟩ : ∃ m, m = a % itv := ⟨_, rfl⟩
      have e1 : (a : Int) / (itv : Int) = (q : Int) := by rw [hq]; simp
      have e2 : (a : Int) % (itv : Int) = (m : Int) := by rw [hm]; simp
      have hdm : q * itv + m = a := by rw [hq, hm, Nat.mul_comm]; exact Nat.div_add_mod a itv
      have hqa : q ≤ a := by rw [hq]; exact Nat.div_le_self _ _
      have e3 : (a : Int).tmod (itv : Int) = (m : Int) := by rw [Int.tmod_eq_emod_of_nonneg (by omega)]; exact e2
      have hmi : m < itv := by rw [hm]; exact Nat.mod_lt _ (by omega)
      have hql : q * itv < l.length := by omega
      have hrl := runF_len itv l q
      have hmN : m < (runF itv l q).length := by omega
      have hgm : (runF itv l q)[m] = l.getD a noPr := by
        have := runF_get hmN
        rw [hdm, List.getElem?_eq_getElem hmN] at this
        exact Option.some.inj this
      have HLD := Lib.hid (fun w' R' (h : LK w' g base itv l (a : Int) R') => load_any w' g base itv l (a : Int) R' q h h1 h2 hl hok hql h.lt.2)
      have hpl := hok a
      have hpl1 : (l.getD a noPr).1.length ≤ 200 := hpl.1
      generalize hNe : runF itv l q = N at *
      generalize hpe : l.getD a noPr = p at *
      have HGM := Lib.hid hgm
      have HNE := Lib.hid hNe
      clear hgm hNe hpe hq hm hdm hql hrl hpl hok
      go_enter Try.func18, Try.ntmps18
      go_wp2
      go_quiet (fail)
      go_wp2
      have b1 : Blk ((w.alloc (.cells #[.string ⟨#[]⟩, .string ⟨#[]⟩] 31)).drewN nq) w.heap.size 31 [.string ⟨#[]⟩, .string ⟨#[]⟩] := (Blk.new w 31 #[.string ⟨#[]⟩, .string ⟨#[]⟩]).gr (Gr.drewN _ nq)
      have gV : Gr w ((w.alloc (.cells #[.string ⟨#[]⟩, .string ⟨#[]⟩] 31)).drewN nq) := (Gr.alloc w _).trans (Gr.drewN _ nq)
      obtain ⟨gp, hgp⟩ : ∃ gp, gp = w.heap.size := ⟨_, rfl⟩
      have hgpg : gp ≠ g := by omega
      have hgp2 : w.heap.size ≤ gp := by omega
      have hav : Away ((w.alloc (.cells #[.string ⟨#[]⟩, .string ⟨#[]⟩] 31)).drewN nq) g gp := (KB.fresh HLK.out hgp2).same (gV.block g hgl)
      rw [← hgp] at b1 ⊢
      clear hgp
      generalize (w.alloc (.cells #[.string ⟨#[]⟩, .string ⟨#[]⟩] 31)).drewN nq = V at *
      have HLV := Lib.hid (KB.gr HLK.out gV)
      have HB1 := Lib.hid b1
      have HAV := Lib.hid hav
      have hgpV : gp < V.heap.size := b1.lt
      clear hav
      have HGV := Lib.hid gV
      have hgV : g < V.heap.size := HLV.out.lt.1
      clear b1 gV
      have hLK : ∀ wr, Turn g (fun w' => LK w' g base itv l (a : Int) (q : Int) ∧ ∀ z, z < V.heap.size → Away V g z → Away w' g z) V wr → ∃ R', LK wr g base itv l (a : Int) R' ∧ ∀ z, z < V.heap.size → Away V g z → Away wr g z := fun wr k => by
        rcases k.2.1 with h | h
        · exact ⟨R, KB.same HLV.out k.1 h, fun z _ ha => ha.same h⟩
        · exact ⟨_, h⟩
      have HLR := Lib.hid hLK
      clear hLK
      refine region_tail_turn g (fun w' => LK w' g base itv l (a : Int) (q : Int) ∧ ∀ z, z < V.heap.size → Away V g z → Away w' g z) (fun w' h => ⟨KB.gr h.1 (Gr.drew w'), fun z hz ha => (h.2 z hz ha).same rfl⟩) 22 _ [Is ?r0, Is ?r1, Is ?r2, Is ?r3, Is (.int .i64 (a : Int)), Is ?r5, Is ?r6, Is ?r7, Is (.int .i64 (itv : Int)), Is (.int .i64 (q : Int)), RunV g base N, Is ?r11, Is ?r12, Is ?r13, Is (.int .i64 (a : Int)), Is ?r15, Is ?r16, Is ?r17, Is (.int .i64 (itv : Int)), Is (.int .i64 (m : Int)), PtrV g m p, Is (.agg #[.string (str p.1), .string (str p.2)])] (by kernel_rfl) (by kernel_rfl) (by kernel_rfl) (by kernel_rfl) rfl rfl ⟨Is.stable _, Is.stable _, Is.stable _, Is.stable _, Is.stable _, Is.stable _, Is.stable _, Is.stable _, Is.stable _, Is.stable _, RunV.stable, Is.stable _, Is.stable _, Is.stable _, Is.stable _, Is.stable _, Is.stable _, Is.stable _, Is.stable _, Is.stable _, PtrV.stable, Is.stable _, trivial⟩ ⟨?s0, ?s1, ?s2, ?s3, ?s4, ?s5, ?s6, ?s7, ?s8, ?s9, ?s10, ?s11, ?s12, ?s13, ?s14, ?s15, ?s16, ?s17, ?s18, ?s19, ?s20, ?s21, trivial⟩ ?fin
      case' s0 | s1 | s2 | s3 | s4 | s5 | s6 | s7 | s8 | s9 | s10 | s11 | s12 | s13 | s14 | s15 | s16 | s17 | s18 | s19 | s20 | s21 =>
        intro ρ wr hρ hg hK
        simp [readsOf, slotsOf, Op.operands, Call.operands, tmpOf, List.filterMap_cons, List.filterMap_nil, KnownAll, knownOf, srcOf, depsOf, dstOf, Region.binds, nth, Is] at hK
        obtain ⟨hc, hf, hgl⟩ := hρ
        try simp only [wantedBy, dstOf, boolOf, nth, List.getD_cons_zero, List.getD_cons_succ, List.getElem?_cons_zero, List.getElem?_cons_succ, Option.bind_some, if_true, hK, BEq.rfl]
        try go_simp
        first | exact rfl | (rw [if_pos (by omega)]; exact is_here rfl) | (rw [dif_pos (by omega)]; exact is_here rfl) | exact congrArg (Value.int _) (IntWalk.i64_in _ ⟨by omega, by omega⟩) | skip
      case s4 | s14 =>
        obtain ⟨R', hk, _⟩ := HLR.out _ hg
        have z := hk.cells.2.2.1
        go_simp
        exact rfl
      case s8 | s18 =>
        obtain ⟨R', hk, _⟩ := HLR.out _ hg
        have z := hk.cells.1
        go_simp
        exact rfl
      case s9 =>
        rw [if_neg (by omega)]
        exact ⟨Turn.refl _, congrArg (Value.int _) (IntWalk.i64_in _ ⟨by omega, by omega⟩)⟩
      case s19 =>
        rw [if_neg (by omega)]
        exact ⟨Turn.refl _, rfl⟩
      case s10 =>
        obtain ⟨R', hk, hav⟩ := HLR.out _ hg
        have hsz := hg.1.size
        refine (HLD.out _ _ hk).mono ?_
        rintro e w' ⟨ad, cap, rfl, k, lk, ho, hne, haw⟩
        rw [HNE.out] at ho ⊢
        have hg2 := And.intro lk (fun z hz ha => haw z (by omega) (hav z hz ha))
        exact ⟨_, rfl, ⟨k, .inr hg2, fun _ => hg2⟩, ad, cap, rfl, ho, hne⟩
      case s20 =>
        obtain ⟨⟨ad, cap, e0, ho, hne⟩, _⟩ := hK
        obtain ⟨b, off, rfl, c1, c2⟩ := ho.row.pair m hmN
        rw [HGM.out] at c1 c2
        go_simp
        exact ⟨b, off, rfl, hne _ rfl, c1, c2⟩
      case s21 =>
        obtain ⟨b, off, e0, hne, c1, c2⟩ := hK
        go_simp
        exact rfl
      case fin =>
        intro w1 val hg hH
        simp only [Holds, Is, Nat.zero_add, Nat.reduceAdd] at hH
        obtain ⟨h0, h1, h2, h3, h4, h5, h6, h7, h8, h9, h10, h11, h12, h13, h14, h15, h16, h17, h18, h19, h20, h21, _⟩ := hH
        simp only [List.take_succ_cons, List.take_zero, List.drop_succ_cons, List.drop_zero, putAll, h0, h1, h2, h3, h4, h5, h6, h7, h8, h9, h11, h12, h13, h14, h15, h16, h17, h18, h19, h21, Nat.zero_add, Nat.reduceAdd]
        obtain ⟨R', hk, hav⟩ := HLR.out _ hg
        have hb1 := HB1.out.grown hg.1 (fun e => hgpg (Option.some.inj e))
        obtain ⟨x0, x1⟩ := Blk.two hb1
        have f0 := hb1.frozen 0
        have f1 := hb1.frozen 1
        have b2 : Blk ((w1.setCell ⟨gp, 0, none⟩ (.string (str p.1))).setCell ⟨gp, 1, none⟩ (.string (str p.2))) gp 31 [.string (str p.1), .string (str p.2)] := (hb1.set_ 0 (.string (str p.1))).set_ 1 (.string (str p.2))
        obtain ⟨d0, d1⟩ := Blk.two b2
        have k2 := grown_trans (grown_set w1 gp 0 (.string (str p.1))) (grown_set _ gp 1 (.string (str p.2)))
        have HK := Lib.hid (KB.away hk (hav gp hgpV HAV.out) hgpg k2)
        have HAW := Lib.hid hav
        have HK2 := Lib.hid k2
        clear hk k2 hb1 b2
        go_simp
        go_wp2
        refine bodyPost_ret (v := .tuple #[.agg #[.string (str p.1), .string (str p.2)], .int .i64 0]) (by simp [results, Try.results18, go_sem, d0, d1]) rfl ?_
        rw [HPA.out]
        refine ⟨rfl, ?_, R', HK.out⟩
        have kV := grown_trans HGV.out.far hg.1
        refine ⟨⟨HK2.out.os.trans kV.os, HK2.out.tape.trans kV.tape, HK2.out.output.trans kV.output, Nat.le_trans kV.size HK2.out.size, fun j hj hne => (HK2.out.block j (Nat.lt_of_lt_of_le hj kV.size) (fun e => absurd hj (by cases e; exact Nat.not_lt.2 hgp2))).trans (kV.block j hj hne)⟩, fun z hz ha => ?_⟩
        refine (HAW.out z (Nat.lt_of_lt_of_le hz HGV.out.size) (ha.same (HGV.out.block g hgl))).same (HK2.out.block g (Nat.lt_of_lt_of_le hgV hg.1.size) (fun e => hgpg (Option.some.inj e).symm))
end Go.Proofs.Ytnbinodhdgnjlaa
