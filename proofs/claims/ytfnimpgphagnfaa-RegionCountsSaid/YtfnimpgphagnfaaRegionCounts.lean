/- Layer 1 (region): RegionCounts answers true. -/
import Derived.Test.YtfnimpgphagnfaaRegionCountM
import Derived.Test.YtfnimpgphagnfaaOpenH
import Derived.Deep.DeepCutAuto
namespace Go.Proofs.Ytfnimpgphagnfaa
set_option linter.unusedVariables false
set_option linter.unusedSimpArgs false
open Go.RowKit
structure CA (p : PoolF) (i : Nat) : Prop where
  sz : p.size = 96
  bl : p.bytes.length = 7
  there : ∀ j, j < 256 → ((landAt p j).there = true ↔ j < i)
  gen : ∀ j, j < 256 → (landAt p j).gen ≤ 1
  gen0 : ∀ j, j < 256 → i ≤ j → (landAt p j).gen = 0
theorem CA.start : CA (newF 96 7) 0 := ⟨rfl, List.length_replicate, fun j _ => by rw [landAt_new]; simp [noLand], fun j _ => by rw [landAt_new]; decide, fun j _ _ => by rw [landAt_new]; rfl⟩
theorem CA.step {p : PoolF} {i : Nat} (hp : PoolOk p) (h : CA p i) (hi : i < 256) : makeR p = (i, 0, makeAt p i) ∧ CA (makeAt p i) (i + 1) := by
  have h0 : (landAt p i).there = false := by
    cases hc : (landAt p i).there with
    | false => rfl
    | true => have := (h.there i hi).1 hc; omega
  have hm := makeF_is hi h0 (fun j hj => (h.there j (by omega)).2 hj)
  have hmk : makeR p = (i, 0, makeAt p i) := by unfold makeR; rw [hm]
  obtain ⟨_, _, _, e1, e2, _, e4, e5, _⟩ := make_pcs hp hmk
  refine ⟨hmk, by rw [e1]; exact h.sz, by rw [e2]; exact h.bl, fun j hj => ?_, fun j hj => ?_, fun j hj hij => ?_⟩
  · by_cases e : j = i
    · rw [e, e4]; simp
    · rw [e5 j e, h.there j hj]; omega
  · by_cases e : j = i
    · rw [e, e4, h.gen0 i hi (Nat.le_refl _)]; decide
    · rw [e5 j e]; exact h.gen j hj
  · rw [e5 j (by omega)]; exact h.gen0 j hj (by omega)
theorem CA.ci {p : PoolF} (h : CA p 3) : CI p 1 := ⟨h.sz, h.bl, h.there, h.gen⟩
theorem CI.up {p : PoolF} {G : Nat} (h : CI p G) : CI p (G + 1) := ⟨h.sz, h.bl, h.there, fun j hj => Nat.le_succ_of_le (h.gen j hj)⟩
def sumF (p : PoolF) : Nat → Nat
  | 0 => 0
  | k + 1 => sumF p k + (landAt p k).slabs.length
def seenF (p : PoolF) : Nat → Nat → Bool
  | 0, _ => false
  | k + 1, s => seenF p k s || (landAt p k).slabs.contains s
theorem seenF_mem {p : PoolF} {s : Nat} : ∀ {k : Nat}, seenF p k s = true → ∃ j, j < k ∧ s ∈ (landAt p j).slabs
  | 0, h => by cases h
  | k + 1, h => by
    rw [seenF, Bool.or_eq_true] at h
    rcases h with h | h
    · obtain ⟨j, h1, h2⟩ := seenF_mem h
      exact ⟨j, by omega, h2⟩
    · exact ⟨k, by omega, by simpa using h⟩
/-- what is seen while the k-th region's list is gone through -/
def seenJ (p : PoolF) (k j : Nat) : Nat → Bool := fun s => seenF p k s || ((landAt p k).slabs.take j).contains s
theorem seenJ_zero (p : PoolF) (k : Nat) : seenJ p k 0 = seenF p k := by funext s; simp [seenJ]
theorem seenJ_all (p : PoolF) (k : Nat) : seenJ p k (landAt p k).slabs.length = seenF p (k + 1) := by funext s; simp [seenJ, seenF]
theorem seenJ_step {p : PoolF} {k j s : Nat} (hs : (landAt p k).slabs[j]? = some s) : upd (seenJ p k j) s true = seenJ p k (j + 1) := by
  have ht : (landAt p k).slabs.take (j + 1) = (landAt p k).slabs.take j ++ [s] := by rw [List.take_add_one, hs]; rfl
  funext x
  unfold seenJ
  rw [ht]
  by_cases e : x = s
  · rw [e, upd_same]; simp
  · rw [upd_other _ _ e]; simp [e]
theorem seenJ_not {p : PoolF} (hp : PoolOk p) {k j s : Nat} (hk : k < 3) (hs : (landAt p k).slabs[j]? = some s) : seenJ p k j s = false := by
  unfold seenJ
  rw [Bool.or_eq_false_iff]
  constructor
  · cases hc : seenF p k s with
    | false => rfl
    | true =>
      obtain ⟨i, h1, h2⟩ := seenF_mem hc
      have := hp.apart i k s (by omega) (by omega) h2 (List.mem_of_getElem? hs)
      omega
  · have hn := (hp.ld k (by omega)).nodup
    cases hc : ((landAt p k).slabs.take j).contains s with
    | false => rfl
    | true =>
      exfalso
      have hm : s ∈ (landAt p k).slabs.take j := by simpa using hc
      obtain ⟨i, hi, e⟩ := List.getElem_of_mem hm
      have hij : i < j := by rw [List.length_take] at hi; omega
      have h1 : (landAt p k).slabs[i]? = some s := by
        rw [List.getElem_take] at e
        rw [List.getElem?_eq_getElem (by rw [List.length_take] at hi; omega), e]
      have := (List.getElem?_inj (by rw [List.length_take] at hi; omega) hn).1 (h1.trans hs.symm)
      omega
set_option maxRecDepth 100000 in
set_option maxHeartbeats 4000000 in
theorem RegionCounts_any (ad : Option Addr) (cap : Nat) (l : List Tl) (w : World) (hr : Row w ad (tlv l)) (hl : l.length ≤ 9223372036854775807) :
    Calls Try.prog 7 #[.slice ad l.length cap] w fun e w' => e = .returned (.bool true) ∧ Gr w w' := by
  have HR := Lib.hid hr
  clear hr
  go_enter Try.func7, Try.ntmps7
  go_wp2_with (first
    | (go_at_call 10; go_must (refine (fertile_any _).mono ?_); rintro e w1 ⟨rfl, g1⟩)
    | (go_at_call 11; go_must (refine (New_pl g1 96 7 (by decide) (by decide) (by decide) (by decide) (by decide) (by decide)).mono ?_); rintro e w2 ⟨g, S1, rfl, k1, hg, P1, b1⟩)
    | fail)
  have HP1 := Lib.hid P1
  clear P1 b1 k1 hg g1
  go_loopw [5] (fun v wr => ∃ (i : Nat) (S : Nat → Prop) (p : PoolF), i ≤ 3 ∧ v = .int .i64 (i : Int) ∧ Pl w wr S g p ∧ CA p i) (fun v _ => 3 - (intOf v).toNat)
  case atStart => exact ⟨0, S1, _, by omega, rfl, HP1.out, CA.start⟩
  case round =>
    clear HP1
    obtain ⟨i3, S, p, hi, rfl, hP, hA⟩ := hrel
    by_cases hib : i3 < 3
    · obtain ⟨h1, h2⟩ := hA.step hP.ok (by omega)
      have HC := Lib.hid (Make_pl hP (fun j hj => Nat.le_trans (hA.gen j hj) (by decide)) h1)
      have HA := Lib.hid h2
      clear hP hA h1 h2
      go_wp2_with (first
        | (go_at_call 12; go_must (refine HC.out.mono ?_); rintro e w3 ⟨rfl, m3, P3⟩)
        | fail)
      go_roundw
      case rel => exact ⟨i3 + 1, S, _, hib, by go_num, P3, HA.out⟩
      case measure => simp [intOf]; omega
    · have h3 : i3 = 3 := by omega
      have HP := Lib.hid hP
      have HI := Lib.hid (show CI p 1 by rw [h3] at hA; exact hA.ci)
      clear hP hA h3
      go_wp2
      go_loopw [6] (fun v wr => ∃ (i : Nat) (S : Nat → Prop) (p : PoolF), i ≤ l.length ∧ i ≤ 80 ∧ v = .int .i64 (i : Int) ∧ Pl w wr S g p ∧ CI p (i + 1)) (fun v _ => l.length - (intOf v).toNat)
      case atStart => exact ⟨0, S, p, Nat.zero_le _, by omega, rfl, HP.out, HI.out⟩
      case round =>
        clear HP HI
        obtain ⟨i, S, p, hi, hi3, rfl, hP, hI⟩ := hrel
        by_cases hib : i < l.length
        · by_cases hi2 : i < 80
          · obtain ⟨bl, off, rfl, z0, z1, z2, z3, _, _⟩ := (HR.out.gr hP.gr).tilth i hib
            have HZ := Lib.hid (HR.out.tilth i hib)
            generalize l[i] = tl at *
            obtain ⟨tcall, ta, tb, tc, tat, tdata⟩ := tl
            simp only at z0 z1 z2 z3
            obtain ⟨r, e1, hr⟩ := u64_mod ta 3 (by decide) (by decide)
            have e1 : IntKind.i64.wrap ((IntKind.u64.wrap ta).tmod 3) = (r : Int) := e1
            obtain ⟨n0, e2, hn0⟩ := u64_mod tb 100 (by decide) (by decide)
            have e2 : IntKind.i64.wrap ((IntKind.u64.wrap tb).tmod 100) = (n0 : Int) := e2
            have HId := Lib.hid (Idle_pl hP)
            have HP0 := Lib.hid hP; have HI0 := Lib.hid hI
            clear hP hI
            go_upto_if 60 with (first
              | (go_at_call 20; go_must (refine HId.out.mono ?_); rintro e w3 ⟨rfl, rfl⟩)
              | fail)
            go_cut [8, 9] (fun s8 s9 wx => ∃ (ST : Nat → Prop) (pT : PoolF), Pl w wx ST g pT ∧ CI pT (i + 1 + 1))
            case first =>
              have hP := HP0.out; have hI := HI0.out
              clear HId HP0 HI0
              by_cases h5 : tcall = 5
              · subst h5
                obtain ⟨p1, p2, f1, f2, hI2, hgen⟩ := hI.turn hP.ok hr
                have HF := Lib.hid (Free_pl hP f1)
                have HM := Lib.hid (fun w' (h : Pl w w' S g p1) => Make_pl h (fun j hj => Nat.le_trans (hgen j hj) (by omega)) f2)
                have HI2 := Lib.hid hI2
                clear hP hI f1 f2 hI2 hgen
                go_wp2_with (first
                  | (go_at_call 17; go_must (refine HF.out.mono ?_); rintro e w4 ⟨rfl, m4, P4⟩)
                  | (go_at_call 12; go_must (refine (HM.out _ P4).mono ?_); rintro e w5 ⟨rfl, m5, P5⟩)
                  | fail)
                go_meet
                exact ⟨S, p2, P5, HI2.out⟩
              · obtain ⟨c, e3, hc⟩ : ∃ c : Nat, (IntKind.u64.wrap tc).tmod 7 = (c : Int) ∧ c < 7 := by
                  have hw0 : 0 ≤ IntKind.u64.wrap tc := by rw [IntKind.wrap_u64]; omega
                  obtain ⟨x, hx⟩ := Int.eq_ofNat_of_zero_le hw0
                  exact ⟨x % 7, by rw [hx]; rfl, Nat.mod_lt _ (by decide)⟩
                have hal0 := hI.alloc hP.ok hr (n := 1 + n0) (by omega) hc
                have hcn := hI.slabs hP.ok
                have hp2 : 2 ^ c ≤ 64 := by
                  have : ∀ c : Fin 7, 2 ^ c.val ≤ 64 := by decide
                  exact this ⟨c, hc⟩
                have hp1 : 1 ≤ 2 ^ c := Nat.one_le_two_pow
                have e4 : IntKind.i64.wrap (2 ^ c) = ((2 ^ c : Nat) : Int) := by
                  rw [show ((2 : Int) ^ c) = ((2 ^ c : Nat) : Int) from by norm_cast]
                  rw [IntKind.wrap_i64]
                  omega
                obtain ⟨al, hal⟩ : ∃ al, al = 2 ^ c := ⟨_, rfl⟩
                rw [← hal] at hal0 hp1 hp2 e4
                obtain ⟨n, hn⟩ : ∃ n, n = 1 + n0 := ⟨_, rfl⟩
                rw [← hn] at hal0
                have e5 : (1 : Int) + (n0 : Int) = (n : Int) := by omega
                have hn1 : 1 ≤ n := by omega
                have hn2 : n ≤ 100 := by omega
                have hcp : countF p ≤ 7 := by omega
                have T1 : RowKit.Hid True := trivial
                clear hal hn hcn
                rcases hal0 with ⟨y, p1, o, he, hI2, hyo, hm1, hm2, hm3, hm4, hm5⟩ | ⟨he, h0⟩ | ⟨he, h96⟩
                · have HAl := Lib.hid (Alloc_pl hP he)
                  have HI2 := Lib.hid hI2.up
                  obtain ⟨yr, yg, yo, yl⟩ := y
                  simp only at hyo
                  subst hyo
                  have e6 : (o : Int).tmod 96 = ((o % 96 : Nat) : Int) := rfl
                  have e7 : ((o % 96 : Nat) : Int).tmod (al : Int) = 0 := by
                    rw [show ((o % 96 : Nat) : Int).tmod (al : Int) = ((o % 96 % al : Nat) : Int) from rfl, hm1]; rfl
                  obtain ⟨om, hom⟩ : ∃ om, om = o % 96 := ⟨_, rfl⟩
                  rw [← hom] at e6 e7 hm2
                  clear hP hI he hI2 hm1 hom
                  go_wp2_with (first
                    | (go_at_call 13; go_must (refine HAl.out.mono ?_); rintro e w5 ⟨rfl, S5, m5, P5⟩
                       have P6 := P5.more (Gr.alloc w5 (.cells #[.int .i64 yr, .int .i64 yg, .int .i64 (o : Int), .int .i64 yl] 33))
                       have bh := Blk.new w5 33 #[.int .i64 yr, .int .i64 yg, .int .i64 (o : Int), .int .i64 yl])
                    | (go_at_call 20; clear T1; go_must (refine (Idle_pl P6).mono ?_); rintro e w6 ⟨rfl, rfl⟩)
                    | fail)
                  go_meet
                  exact ⟨S5, p1, P6, HI2.out⟩
                · have HAl := Lib.hid (Alloc_pl hP he)
                  have HI2 := Lib.hid hI.up
                  have e6 : (countF p : Int) = 0 := by omega
                  clear hP hI he
                  go_wp2_with (first
                    | (go_at_call 13; go_must (refine HAl.out.mono ?_); rintro e w5 ⟨rfl, S5, m5, P5⟩
                       have P6 := P5.more (Gr.alloc w5 (.cells #[.int .i64 noHd.region, .int .i64 noHd.gen, .int .i64 noHd.off, .int .i64 noHd.len] 33)))
                    | (go_at_call 20; clear T1; go_must (refine (Idle_pl P6).mono ?_); rintro e w6 ⟨rfl, rfl⟩)
                    | fail)
                  go_meet
                  exact ⟨S5, p, P6, HI2.out⟩
                · have HAl := Lib.hid (Alloc_pl hP he)
                  have HI2 := Lib.hid hI.up
                  have h96' : (96 : Int) < (n : Int) := by omega
                  clear hP hI he
                  go_wp2_with (first
                    | (go_at_call 13; go_must (refine HAl.out.mono ?_); rintro e w5 ⟨rfl, S5, m5, P5⟩
                       have P6 := P5.more (Gr.alloc w5 (.cells #[.int .i64 noHd.region, .int .i64 noHd.gen, .int .i64 noHd.off, .int .i64 noHd.len] 33)))
                    | (go_at_call 20; clear T1; go_must (refine (Idle_pl P6).mono ?_); rintro e w6 ⟨rfl, rfl⟩)
                    | fail)
                  go_meet
                  exact ⟨S5, p, P6, HI2.out⟩
            case rest =>
              obtain ⟨ST, pT, hT, hTI⟩ := hcut
              clear HId HP0 HI0
              obtain ⟨wT, hwT⟩ : ∃ wT, wT = wc := ⟨_, rfl⟩
              rw [← hwT] at hT ⊢
              clear hwT
              have HId2 := Lib.hid (Idle_pl hT)
              have HTp := Lib.hid hT
              have HTi := Lib.hid hTI
              have hbn := hT.ok.n2
              have hsum := hTI.slabs hT.ok
              clear hT hTI
              go_wp2_with (first
                | (go_at_call 20; go_must (refine HId2.out.mono ?_); rintro e w6 ⟨rfl, rfl⟩)
                | (at_make; go_must (refine wp_make elemBool rfl rfl _ _ rfl 7 7 rfl rfl rfl rfl (Nat.le_refl _) (by decide) (by decide) ?_); intro w7 o7 g7 z7)
                | fail)
              rw [goneV_none] at o7
              obtain ⟨gs, hgs⟩ : ∃ gs, gs = wT.heap.size := ⟨_, rfl⟩
              have hgsw : w.heap.size ≤ gs := by rw [hgs]; exact HTp.out.gr.size
              rw [← hgs] at o7 ⊢
              have HO7 := Lib.hid (show Out ST w7 gs from ⟨fun e => by have := HTp.out.pool.lt _ e; omega, (o7.lt _ rfl).2⟩)
              have HP7 := Lib.hid (HTp.out.more g7)
              have HW7 := Lib.hid (show Owns w7 0 4 1 (some ⟨gs, 0, none⟩) 7 7 (goneV (seenF pT 0) 7) from o7.base (Nat.zero_le _))
              clear o7 g7 z7 hgs HId2 HTp
              go_loopw [15, 17] (fun u v wr => ∃ k : Nat, k ≤ 3 ∧ u = .int .i64 ((countF pT + sumF pT k : Nat) : Int) ∧ v = .int .i64 (k : Int) ∧ Pl w wr ST g pT ∧ Out ST wr gs ∧ Owns wr 0 4 1 (some ⟨gs, 0, none⟩) 7 7 (goneV (seenF pT k) 7)) (fun _ v _ => 3 - (intOf v).toNat)
              case atStart => exact ⟨0, by omega, by rw [sumF, Nat.add_zero], rfl, HP7.out, HO7.out, HW7.out⟩
              case round =>
                clear HP7 HO7 HW7
                obtain ⟨k, hk, rfl, rfl, hP, hO, hW⟩ := hrel
                by_cases hk3 : k < 3
                · have hth := (HTi.out.there k (by omega)).2 hk3
                  have hsl : slabsF pT (k : Int) = ((landAt pT k).slabs, 0) := by unfold slabsF; rw [landF_of (by omega) hth]
                  have HSl := Lib.hid (Slabs_pl hP hsl)
                  have hlen := (hP.ok.ld k (by omega)).len
                  have hlt := (hP.ok.ld k (by omega)).lt
                  rw [HTi.out.bl] at hlen hlt
                  have HN := Lib.hid (fun j s (hs : (landAt pT k).slabs[j]? = some s) => seenJ_not hP.ok hk3 hs)
                  have HST := Lib.hid (fun j s (hs : (landAt pT k).slabs[j]? = some s) => seenJ_step hs)
                  have HALL := Lib.hid (seenJ_all pT k)
                  have HZE := Lib.hid (seenJ_zero pT k)
                  have HSU := Lib.hid (show sumF pT (k + 1) = sumF pT k + (landAt pT k).slabs.length from rfl)
                  have hsk : sumF pT k ≤ 7 := by
                    have : k = 0 ∨ k = 1 ∨ k = 2 := by omega
                    rcases this with e | e | e <;> subst e <;> simp only [sumF] <;> omega
                  have hcn : countF pT ≤ 7 := by omega
                  have HP := Lib.hid hP; have HO := Lib.hid hO; have HW := Lib.hid hW
                  have HLT := Lib.hid hlt
                  obtain ⟨L, hL⟩ : ∃ L, L = (landAt pT k).slabs := ⟨_, rfl⟩
                  rw [← hL] at HSl hlen HN HST HALL HSU HLT
                  clear hP hO hW hsl hth hlt hL hsum
                  go_wp2_with (first
                    | (go_at_call 18; go_must (refine HSl.out.mono ?_); rintro e w8 ⟨adL, cL, rfl, oL, k8⟩)
                    | fail)
                  have HP8 := Lib.hid (HP.out.more k8)
                  have HO8 := Lib.hid (HO.out.more k8)
                  have HW8 := Lib.hid (HW.out.gr k8)
                  have HL8 := Lib.hid (oL.base (Nat.zero_le _))
                  clear oL k8 HP HO HW HSl
                  go_loopw [20] (fun v wr => ∃ j : Nat, j ≤ L.length ∧ v = .int .i64 (j : Int) ∧ Pl w wr ST g pT ∧ Out ST wr gs ∧ Owns wr 0 4 1 (some ⟨gs, 0, none⟩) 7 7 (goneV (seenJ pT k j) 7) ∧ Owns wr 0 3 1 adL cL L.length (iv L)) (fun v _ => L.length - (intOf v).toNat)
                  case atStart => exact ⟨0, Nat.zero_le _, rfl, HP8.out, HO8.out, by rw [HZE.out]; exact HW8.out, HL8.out⟩
                  case round =>
                    clear HP8 HO8 HW8 HL8
                    obtain ⟨j, hj, rfl, hP, hO, hW, hLo⟩ := hrel
                    by_cases hjl : j < L.length
                    · obtain ⟨s, hs⟩ : ∃ s, L[j]? = some s := ⟨_, List.getElem?_eq_getElem hjl⟩
                      have hs7 : s < 7 := HLT.out s (List.mem_of_getElem? hs)
                      obtain ⟨ba, hba, _, za⟩ := hLo.at (iv_get L j s hs)
                      have hne := hLo.ne hW (by decide) _ _ hba rfl
                      have hns := HN.out j s hs
                      have hst := HST.out j s hs
                      obtain ⟨gs', hgs', _, zg⟩ := hW.at (goneV_get (seenJ pT k j) hs7)
                      cases hgs'
                      rw [hns] at zg
                      have hfz := hW.unfrozen rfl (show s < 7 * 1 by omega)
                      have kk := grown_set wr gs s (.bool true)
                      have HPn := Lib.hid (hP.grown hO.no hgsw kk)
                      have HOn := Lib.hid (hO.grown kk.size)
                      have HWn := Lib.hid (by have := hW.store rfl hs7 (.bool true); rw [goneV_set _ hs7, hst] at this; exact this)
                      have HLn := Lib.hid (hLo.grown kk (fun x hx e => by rw [hba] at hx; cases hx; exact hne (Option.some.inj e)))
                      subst hba
                      clear hP hO hW hLo hs hns hst kk hne
                      go_wp2
                      go_roundw
                      case rel => exact ⟨j + 1, hjl, by go_num, HPn.out, HOn.out, HWn.out, HLn.out⟩
                      case measure => simp [intOf]; omega
                    · obtain rfl : j = L.length := by omega
                      rw [HALL.out] at hW
                      have HPn := Lib.hid hP; have HOn := Lib.hid hO; have HWn := Lib.hid hW
                      clear hP hO hW hLo
                      go_wp2
                      go_roundw
                      case rel => exact ⟨k + 1, hk3, by rw [HSU.out]; go_num, by go_num, HPn.out, HOn.out, HWn.out⟩
                      case measure => simp [intOf]; omega
                · obtain rfl : k = 3 := by omega
                  have hseven : ((countF pT + sumF pT 3 : Nat) : Int) = 7 := by
                    have : sumF pT 3 = (landAt pT 0).slabs.length + (landAt pT 1).slabs.length + (landAt pT 2).slabs.length := by simp only [sumF]; omega
                    omega
                  rw [hseven]
                  have HPn := Lib.hid hP
                  clear hP hO hW hseven
                  go_wp2
                  go_roundw
                  case rel => exact ⟨i + 1, ST, pT, hib, hi2, by go_num, HPn.out, HTi.out⟩
                  case measure => simp [intOf]; omega
          · have HG := Lib.hid hP.gr
            clear hP hI
            go_wp2
            go_ret
            exact ⟨rfl, HG.out⟩
        · have HG := Lib.hid hP.gr
          clear hP hI
          go_wp2
          go_ret
          exact ⟨rfl, HG.out⟩
end Go.Proofs.Ytfnimpgphagnfaa
