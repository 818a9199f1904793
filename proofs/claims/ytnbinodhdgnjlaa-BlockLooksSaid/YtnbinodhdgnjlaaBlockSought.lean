/- Layer 13 (block): the look: Seek; the calls of no look. -/
import Derived.Test.YtnbinodhdgnjlaaBlockSeek
namespace Go.Proofs.Ytnbinodhdgnjlaa
set_option linter.unusedVariables false
set_option linter.unusedSimpArgs false
open Go.RowKit Bk
open Go.Op (bytesLess)
theorem runF_getD {itv : Nat} {l : List Pr} {r j : Nat} (hj : j < (runF itv l r).length) : (runF itv l r).getD j noPr = l.getD (r * itv + j) noPr := by
  rw [List.getD_eq_getElem?_getD, runF_get hj]; rfl
theorem pairAt_in {L : List Pr} {i : Nat} (h : i < L.length) : pairAt L (i : Int) = (L.getD i noPr, 0) := by
  unfold pairAt; rw [if_neg (by omega), Int.toNat_natCast]
theorem seek_at {itv : Nat} {l : List Pr} {key : List UInt8} {r : Nat} (hs : ∀ i, i + 1 < l.length → bytesLess (l.getD i noPr).1 (l.getD (i + 1) noPr).1 = true) (hr : r * itv < l.length) (hf : bytesLess (l.getD (r * itv) noPr).1 key = true) (hn : (r + 1) * itv < l.length → bytesLess (l.getD ((r + 1) * itv) noPr).1 key = false) :
    lowF key l = r * itv + lowF key (runF itv l r) := by
  have hle := lowF_le key (runF itv l r)
  have hrl := runF_len itv l r
  refine lowF_is (by omega) (fun x hx => ?_) (fun hp => ?_)
  · by_cases hxb : x < r * itv
    · exact bl_le_lt (sorted_at hs x (r * itv) (by omega) hr) hf
    · obtain ⟨j, rfl⟩ : ∃ j, x = r * itv + j := ⟨x - r * itv, by omega⟩
      have h := lowF_lt (key := key) (l := runF itv l r) (i := j) (by omega)
      rwa [runF_getD (by omega)] at h
  · by_cases hi : lowF key (runF itv l r) < (runF itv l r).length
    · have h := lowF_ge hi
      rwa [runF_getD hi] at h
    · have e : r * itv + lowF key (runF itv l r) = (r + 1) * itv := by rw [Nat.add_mul]; omega
      rw [e] at hp ⊢
      exact hn hp
theorem KB.places {w : World} {g base : Nat} {d pl : List UInt8} {itv c : Nat} {A R : Int} {ps : List Pr} (h : KB w g base d pl itv c A R ps) : ∃ ad2 c2, w.cell? ⟨g, 1, none⟩ = some (.slice ad2 pl.length c2) := by
  obtain ⟨bd, od, c1, ad2, c2, ad, cap, h1, _⟩ := h
  exact ⟨ad2, c2, h1.cell rfl⟩
set_option maxRecDepth 100000 in
set_option maxHeartbeats 2000000 in
theorem Seek_any (w : World) (g base itv : Nat) (l : List Pr) (A R : Int) (key : List UInt8) (h : LK w g base itv l A R) (h1 : 1 ≤ itv) (h2 : itv ≤ 64) (hl : l.length ≤ 10000) (hok : okLens l)
    (hs : ∀ i, i + 1 < l.length → bytesLess (l.getD i noPr).1 (l.getD (i + 1) noPr).1 = true) :
    Calls Try.prog 19 #[.pointer (some ⟨g, 0, none⟩), .string (str key)] w fun e w' => e = .returned (.int .i64 (endF l.length (posF l.length (lowF key l : Int)) : Int)) ∧ Kept g w w' ∧ ∃ R', LK w' g base itv l (posF l.length (lowF key l : Int)) R' := by
  obtain ⟨ad2, c2, hc1⟩ := h.places
  have HLK := Lib.hid h
  obtain ⟨K, hK⟩ : ∃ K, K = (l.length + itv - 1) / itv := ⟨_, rfl⟩
  have hpl := placeN_length itv l h1 l.length
  rw [← hK] at hpl
  have e0 : (((placeN itv l l.length).length : Nat) : Int) / 4 = (K : Int) := by omega
  have hKl : K ≤ l.length + itv := by rw [hK]; exact Nat.le_trans (Nat.div_le_self _ _) (by omega)
  have HRUN := Lib.hid (fun r => (show r < K ↔ r * itv < l.length by rw [hK]; exact runs_lt h1 l.length r))
  have HS := Lib.hid hs
  have HOK := Lib.hid hok
  have HLD := Lib.hid (fun w' R' r (h : LK w' g base itv l A R') hr => load_any w' g base itv l A R' r h h1 h2 hl hok hr h.lt.2)
  have hplb : (placeN itv l l.length).length ≤ 50000 := by omega
  clear h hK hpl hs hok
  go_enter Try.func19, Try.ntmps19
  go_wp2
  go_quiet (fail)
  go_wp2
  clear hc1 e0 hplb
  go_loopw [5, 6] (fun vi vj wr => ∃ (i j : Nat) (R' : Int), i ≤ j ∧ j ≤ K ∧ vi = .int .i64 (i : Int) ∧ vj = .int .i64 (j : Int) ∧ Kept g w wr ∧ LK wr g base itv l A R' ∧ (∀ x, x < i → bytesLess (l.getD (x * itv) noPr).1 key = true) ∧ (∀ x, j ≤ x → x < K → bytesLess (l.getD (x * itv) noPr).1 key = false)) (fun vi vj _ => (intOf vj).toNat - (intOf vi).toNat)
  case atStart => exact ⟨0, K, R, Nat.zero_le _, Nat.le_refl _, rfl, rfl, (Gr.drewN _ nq).look HLK.out.lt.1, KB.gr HLK.out (Gr.drewN _ nq), fun x h => by omega, fun x h1 h2 => by omega⟩
  case round =>
    obtain ⟨i, j, R', hij, hjl, rfl, rfl, kg, lk, hlo, hhi⟩ := hrel
    have HLO := Lib.hid hlo
    have HHI := Lib.hid hhi
    have HK := Lib.hid lk
    have HG := Lib.hid kg
    clear hlo hhi lk kg
    by_cases h : i < j
    · obtain ⟨h, hh⟩ : ∃ h, h = (i + j) / 2 := ⟨_, rfl⟩
      have hh1 : i ≤ h := by omega
      have hh2 : h < j := by omega
      have hhl : h < K := by omega
      have e1 : ((i : Int) + (j : Int)) / 2 = (h : Int) := by omega
      have hrn := (HRUN.out h).1 hhl
      have hrl := runF_len itv l h
      have hpos : 0 < (runF itv l h).length := by omega
      have hg0 : (runF itv l h)[0] = l.getD (h * itv) noPr := by
        have := runF_get hpos
        rw [List.getElem?_eq_getElem hpos, Nat.add_zero] at this
        exact Option.some.inj this
      have HL1 := Lib.hid (HLD.out _ _ h HK.out hrn)
      have HG0 := Lib.hid hg0
      have HSo := Lib.hid (fun x (hx : x ≤ h) => sorted_at HS.out (x * itv) (h * itv) (Nat.mul_le_mul_right _ hx) hrn)
      have HSo2 := Lib.hid (fun x (hx : h ≤ x) (hxl : x < K) => sorted_at HS.out (h * itv) (x * itv) (Nat.mul_le_mul_right _ hx) ((HRUN.out x).1 hxl))
      have hkl : (l.getD (h * itv) noPr).1.length ≤ 200 := (HOK.out _).1
      obtain ⟨p, hpe⟩ : ∃ p, l.getD (h * itv) noPr = p := ⟨_, rfl⟩
      rw [hpe] at HG0 HSo HSo2 hkl
      have HPE := Lib.hid hpe
      clear hh hg0 hrn hrl hpe
      by_cases hlt : bytesLess p.1 key = true
      · have HLT := Lib.hid hlt
        go_wp2_with (go_at_call 44; refine HL1.out.mono ?_; rintro e w1 ⟨adN, cN, rfl, k1, lk1, oN, _, haw⟩; obtain ⟨bl, off, rfl, z1, z2⟩ := oN.row.pair 0 hpos; rw [HG0.out, Nat.zero_mul, Nat.add_zero] at z1)
        go_roundw
        case rel => exact ⟨h + 1, j, h, hh2, hjl, by go_num, rfl, HG.out.trans ⟨k1, haw⟩, lk1, fun x hx => bl_le_lt (HSo.out x (by omega)) HLT.out, HHI.out⟩
        case measure => simp [intOf]; omega
      · have hlt' : bytesLess p.1 key = false := by simpa using hlt
        have HLT := Lib.hid hlt'
        clear hlt
        go_wp2_with (go_at_call 44; refine HL1.out.mono ?_; rintro e w1 ⟨adN, cN, rfl, k1, lk1, oN, _, haw⟩; obtain ⟨bl, off, rfl, z1, z2⟩ := oN.row.pair 0 hpos; rw [HG0.out, Nat.zero_mul, Nat.add_zero] at z1)
        go_roundw
        case rel => exact ⟨i, h, h, hh1, by omega, rfl, rfl, HG.out.trans ⟨k1, haw⟩, lk1, HLO.out, fun x hx hxl => bl_le_trans HLT.out (HSo2.out x hx hxl)⟩
        case measure => simp [intOf]; omega
    · obtain rfl : i = j := by omega
      clear h
      by_cases hi0 : i = 0
      · subst hi0
        have HN := Lib.hid (show lowF key l = 0 from lowF_is (Nat.zero_le _) (fun x hx => by omega) (fun hp => by
          have := HHI.out 0 (Nat.le_refl _) ((HRUN.out 0).2 (by omega))
          rwa [Nat.zero_mul] at this))
        have HST := Lib.hid (stand_any _ g base itv l A R' 0 HK.out)
        go_wp2_with (go_at_call 45; refine HST.out.mono ?_; rintro e w1 ⟨rfl, k1, lk1⟩)
        go_ret
        rw [HN.out]
        exact ⟨rfl, HG.out.trans k1, R', lk1⟩
      · obtain ⟨r, rfl⟩ : ∃ r, i = r + 1 := ⟨i - 1, by omega⟩
        have hrn := (HRUN.out r).1 (by omega)
        have hrl := runF_len itv l r
        have HN := Lib.hid (seek_at (key := key) HS.out hrn (HLO.out r (by omega)) (fun h => HHI.out (r + 1) (Nat.le_refl _) ((HRUN.out _).2 h)))
        have HL1 := Lib.hid (HLD.out _ _ r HK.out hrn)
        have hNs : ∀ x, x + 1 < (runF itv l r).length → bytesLess ((runF itv l r).getD x noPr).1 ((runF itv l r).getD (x + 1) noPr).1 = true := fun x hx => by
          rw [runF_getD (by omega), runF_getD hx]
          exact HS.out (r * itv + x) (by omega)
        have hle := lowF_le key (runF itv l r)
        have HB := Lib.hid (fun ad cap w' hr => bsf_any ad (runF itv l r).length cap (runF itv l r) key w' rfl hr (by omega) hNs)
        generalize lowF key (runF itv l r) = i at *
        obtain ⟨b0, hb0⟩ : ∃ b0, b0 = r * itv := ⟨_, rfl⟩
        have e3 : (r : Int) * (itv : Int) = (b0 : Int) := by rw [hb0]; simp
        rw [← hb0] at hrn hrl HN
        have hrb : r + 1 ≤ 11000 := by omega
        have e4 : ((r + 1 : Nat) : Int) - 1 = (r : Int) := by omega
        have hbi : b0 + i ≤ 10000 := by omega
        obtain ⟨s, hsd⟩ : ∃ s, s = b0 + i := ⟨_, rfl⟩
        have e5 : (b0 : Int) + (i : Int) = (s : Int) := by omega
        rw [← hsd] at HN
        have HRL := Lib.hid hrl
        clear hNs hb0 hrl hi0 hsd e4
        go_wp2_with (first
          | (go_at_call 44; refine HL1.out.mono ?_; rintro e w1 ⟨adN, cN, rfl, k1, lk1, oN, _, haw⟩; have hc2 := lk1.cells.1)
          | (go_at_call 46; refine (HB.out _ _ _ oN.row).mono ?_; rintro e w2 ⟨bb, rfl, g2⟩; have hc3 := g2.cell hc2)
          | (go_at_call 45; refine (stand_any _ g base itv l A r _ (KB.gr lk1 g2)).mono ?_; rintro e w3 ⟨rfl, k3, lk3⟩)
          | fail)
        go_ret
        rw [HN.out]
        exact ⟨rfl, ((HG.out.trans ⟨k1, haw⟩).trans (g2.look lk1.lt.1)).trans k3, _, lk3⟩
end Go.Proofs.Ytnbinodhdgnjlaa
