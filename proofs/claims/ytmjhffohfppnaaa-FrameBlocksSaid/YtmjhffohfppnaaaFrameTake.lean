/- Layer 8 (frame): take. -/
import Derived.Test.YtmjhffohfppnaaaFrameFrame
namespace Go.Proofs.Ytmjhffohfppnaaa
set_option linter.unusedVariables false
set_option linter.unusedSimpArgs false
open Go.RowKit Fr
theorem results_tmp4 {fn : Func} {t u v x : Tmp} (h : fn.results = #[.tmp t, .tmp u, .tmp v, .tmp x]) (tmps : Array Value) (P : Program) (w : World) :
    (results fn tmps).run P w = .ok (.tuple #[tmps.getD t undef, tmps.getD u undef, tmps.getD v undef, tmps.getD x undef]) w := by
  simp [results, h]
theorem whole_at (ad : Option Addr) (len cap : Nat) (l : List UInt8) (w : World) (hl : l.length = len) (hm : len ≤ maxLen) (hb : Bytes w ad l) :
    Calls Try.prog 28 #[.slice ad len cap] w fun e w' => e = .returned (.tuple #[.int .u64 (Varint.wholeF l).1, .int .i64 (Varint.wholeF l).2]) ∧ w = w' := Whole_any ad len cap l w hl hm hb
theorem fsum_at (k : UInt8) (ad : Option Addr) (n cap : Nat) (s : List UInt8) (w : World) (hn : n = s.length) (hm : s.length ≤ maxLen) (hb : Bytes w ad s) :
    Calls Try.prog 27 #[.int .u8 (k.toNat : Int), .slice ad n cap] w fun e w' => e = .returned (.int .u32 (U (sumB k s))) ∧ Gr w w' := by
  subst hn; exact fsum_any k ad cap s w hm hb
theorem i64_join (x y : Nat) (hx : x < 256) (hy : y < 256) : bits .or .i64 (x : Int) ((y : Int) * 256) = ((x + 256 * y : Nat) : Int) := by
  have e : (y : Int) * 256 = ((y * 2 ^ 8 : Nat) : Int) := by omega
  rw [e]
  show IntKind.i64.wrap ((BitVec.ofInt 64 (x : Int) ||| BitVec.ofInt 64 ((y * 2 ^ 8 : Nat) : Int)).toNat : Int) = _
  rw [BitVec.ofInt_natCast, BitVec.ofInt_natCast, BitVec.toNat_or, BitVec.toNat_ofNat, BitVec.toNat_ofNat, Nat.mod_eq_of_lt (by omega), Nat.mod_eq_of_lt (by omega), Nat.or_comm, nat_join 8 _ _ (Nat.mul_mod_left _ _) (by omega), IntKind.wrap_i64]
  omega
/-- what take answers -/
def Taken (w : World) (b : Nat) (o : Option (UInt8 × List UInt8 × Nat)) (k : Int) (ads : Option Addr) (sl caps : Nat) (t : Int) (ok : Bool) : Prop :=
  match o with
  | none => ok = false
  | some (kk, s, tt) => ok = true ∧ k = (kk.toNat : Int) ∧ sl = s.length ∧ s.length ≤ caps ∧ caps ≤ maxLen ∧ t = (tt : Int) ∧ Bytes w ads s ∧ (0 < s.length → ∀ x, ads = some x → x.block = b)
def RetT (w : World) (b : Nat) (o : Option (UInt8 × List UInt8 × Nat)) : Ending → World → Prop := fun x w' =>
  ∃ k ads sl caps t ok, x = .returned (.tuple #[.int .u8 k, .slice ads sl caps, .int .i64 t, .bool ok]) ∧ Gr w w' ∧ Taken w b o k ads sl caps t ok
theorem cell_at {w : World} {b off : Nat} {l : List UInt8} (h : Bytes w (some ⟨b, off, none⟩) l) (i : Nat) (hi : i < l.length) : w.cell? ⟨b, off + i, none⟩ = some (.int .u8 (l[i].toNat : Int)) := by
  obtain ⟨b', off', e, hc⟩ := h i hi
  cases e
  exact hc
set_option maxRecDepth 100000 in
theorem take_off (l : List UInt8) (a : Nat) (ad : Option Addr) (cap : Nat) (w : World) (hl : l.length ≤ 100000000) (ha : a ≤ l.length) (h : l.length < a + padF a + 7) :
    Calls Try.prog 24 #[.slice ad l.length cap, .int .i64 (a : Int)] w fun x w' => x = .returned (.tuple #[.int .u8 0, .slice none 0 0, .int .i64 0, .bool false]) ∧ Gr w w' := by
  have hp6 : padF a ≤ 6 := by unfold padF; split <;> omega
  have HPD := Lib.hid (fun w => pad_any a w (by omega))
  generalize padF a = pd at *
  go_enter Try.func24, Try.ntmps24
  go_wp2_with (go_at_call 20; refine (HPD.out _).mono ?_; rintro e w1 ⟨rfl, rfl⟩)
  (try simp only [Exit.inBlock, Exit.then]); refine bodyPost_ret (results_tmp4 rfl _ _ _) rfl ?_
  exact ⟨rfl, Gr.refl _⟩
/-- what is known where a piece's end lies within the bytes -/
structure Fit (w : World) (l : List UInt8) (a p pd b off cap n : Nat) (y0 y1 k : UInt8) (C : Nat) (s : List UInt8) (sm : BitVec 32) (ads : Option Addr) : Prop where
  hl : l.length ≤ 100000000
  hc : l.length ≤ cap
  hmx : cap ≤ 9223372036854775807
  h : p + 7 ≤ l.length
  hp6 : pd ≤ 6
  HPD : RowKit.Hid (∀ w, Calls Try.prog 20 #[.int .i64 (a : Int)] w fun e w' => e = .returned (.int .i64 (pd : Nat)) ∧ w = w')
  e1 : (a : Int) + (pd : Int) = (p : Int)
  c4 : w.cell? ⟨b, off + (p + 4), none⟩ = some (.int .u8 (y0.toNat : Int))
  c5 : w.cell? ⟨b, off + (p + 5), none⟩ = some (.int .u8 (y1.toNat : Int))
  c6 : w.cell? ⟨b, off + (p + 6), none⟩ = some (.int .u8 (k.toNat : Int))
  hor : bits .or .i64 (y0.toNat : Int) ((y1.toNat : Int) * 256) = (n : Int)
  hn3 : n < 65536
  h1 : ¬ 128 < p % 128 + 7 + n
  h2 : ¬ l.length < p + 7 + n
  HW : RowKit.Hid (∀ w' (g : Gr w w') (n c : Nat) (hn : n = 4), Calls Try.prog 28 #[.slice (some ⟨b, off + p, none⟩) n c] w' fun e w2 => e = .returned (.tuple #[.int .u64 (C : Int), .int .i64 0]) ∧ w' = w2)
  HSM : RowKit.Hid (∀ w' ads (c n' : Nat) (hn : n' = n) (g : Bytes w' ads s), Calls Try.prog 27 #[.int .u8 (k.toNat : Int), .slice ads n' c] w' fun e w2 => e = .returned (.int .u32 (U sm)) ∧ Gr w' w2)
  hC : C < 4294967296
  HSL : RowKit.Hid (s.length = n)
  hsm1 : U sm < 4294967296
  hsm0 : 0 ≤ U sm
  HUU : RowKit.Hid (U sm = (sm.toNat : Int))
  hcw : IntKind.u32.wrap (C : Int) = (C : Int)
  HBA : RowKit.Hid (Bytes w ads s)
  HBK : RowKit.Hid (∀ x, ads = some x → x.block = b)
  HCL : RowKit.Hid (n ≤ cap - (p + 7))
  HM : RowKit.Hid (cap ≤ maxLen)
  hads : (p + 7 < cap ∧ ads = some ⟨b, off + (p + 7), none⟩) ∨ (cap ≤ p + 7 ∧ ads = some ⟨b, off, none⟩)
section
variable {w : World} {l : List UInt8} {a p pd b off cap n : Nat} {y0 y1 k : UInt8} {C : Nat} {s : List UInt8} {sm : BitVec 32} {ads : Option Addr}
set_option maxRecDepth 100000 in
set_option maxHeartbeats 1000000 in
theorem take_yes1 (F : Fit w l a p pd b off cap n y0 y1 k C s sm ads) (h3 : p + 7 < cap) (ha : ads = some ⟨b, off + (p + 7), none⟩) (k1 : 1 ≤ k.toNat) (k2 : k.toNat ≤ 4) (hq : ((C : Int) == U sm) = true) :
    Calls Try.prog 24 #[.slice (some ⟨b, off, none⟩) l.length cap, .int .i64 (a : Int)] w (RetT w b (some (k, s, p + 7 + n))) := by
  obtain ⟨hl, hc, hmx, h, hp6, HPD, e1, c4, c5, c6, hor, hn3, h1, h2, HW, HSM, hC, HSL, hsm1, hsm0, HUU, hcw, HBA, HBK, HCL, HM, _⟩ := F
  have hy0 := byte_hi y0
  have hy1 := byte_hi y1
  have hk := byte_hi k
  subst ha
  go_enter Try.func24, Try.ntmps24
  go_wp2_with (go_at_call 20; refine (HPD.out _).mono ?_; rintro e w1 ⟨rfl, rfl⟩)
  go_quiet (fail)
  go_wp2
  go_quiet (fail)
  go_wp2_with (first | (go_at_call 28; refine (HW.out _ (Gr.drewN _ _) _ _ rfl).mono ?_; rintro e w' ⟨rfl, rfl⟩) | (go_at_call 27; refine (HSM.out _ _ _ _ (by omega) (HBA.out.gr (Gr.drewN _ _))).mono ?_; rintro e w2 ⟨rfl, g2⟩))
  (try simp only [Exit.inBlock, Exit.then]); refine bodyPost_ret (results_tmp4 rfl _ _ _) rfl ?_
  exact ⟨_, _, _, _, _, _, rfl, (Gr.drewN _ _).trans g2, rfl, rfl, by have := HSL.out; omega, by have := HCL.out; have := HSL.out; omega, by have := HM.out; omega, by go_num, HBA.out, fun _ => HBK.out⟩
set_option maxRecDepth 100000 in
set_option maxHeartbeats 1000000 in
theorem take_no1 (F : Fit w l a p pd b off cap n y0 y1 k C s sm ads) (h3 : p + 7 < cap) (ha : ads = some ⟨b, off + (p + 7), none⟩) (k1 : 1 ≤ k.toNat) (k2 : k.toNat ≤ 4) (hq : ((C : Int) == U sm) = false) :
    Calls Try.prog 24 #[.slice (some ⟨b, off, none⟩) l.length cap, .int .i64 (a : Int)] w (RetT w b none) := by
  obtain ⟨hl, hc, hmx, h, hp6, HPD, e1, c4, c5, c6, hor, hn3, h1, h2, HW, HSM, hC, HSL, hsm1, hsm0, HUU, hcw, HBA, HBK, HCL, HM, _⟩ := F
  have hy0 := byte_hi y0
  have hy1 := byte_hi y1
  have hk := byte_hi k
  subst ha
  go_enter Try.func24, Try.ntmps24
  go_wp2_with (go_at_call 20; refine (HPD.out _).mono ?_; rintro e w1 ⟨rfl, rfl⟩)
  go_quiet (fail)
  go_wp2
  go_quiet (fail)
  go_wp2_with (first | (go_at_call 28; refine (HW.out _ (Gr.drewN _ _) _ _ rfl).mono ?_; rintro e w' ⟨rfl, rfl⟩) | (go_at_call 27; refine (HSM.out _ _ _ _ (by omega) (HBA.out.gr (Gr.drewN _ _))).mono ?_; rintro e w2 ⟨rfl, g2⟩))
  (try simp only [Exit.inBlock, Exit.then]); refine bodyPost_ret (results_tmp4 rfl _ _ _) rfl ?_
  exact ⟨_, _, _, _, _, _, rfl, (Gr.drewN _ _).trans g2, rfl⟩
set_option maxRecDepth 100000 in
set_option maxHeartbeats 1000000 in
theorem take_lo1 (F : Fit w l a p pd b off cap n y0 y1 k C s sm ads) (h3 : p + 7 < cap) (ha : ads = some ⟨b, off + (p + 7), none⟩) (k1 : k.toNat < 1) :
    Calls Try.prog 24 #[.slice (some ⟨b, off, none⟩) l.length cap, .int .i64 (a : Int)] w (RetT w b none) := by
  obtain ⟨hl, hc, hmx, h, hp6, HPD, e1, c4, c5, c6, hor, hn3, h1, h2, HW, HSM, hC, HSL, hsm1, hsm0, HUU, hcw, HBA, HBK, HCL, HM, _⟩ := F
  have hy0 := byte_hi y0
  have hy1 := byte_hi y1
  have hk := byte_hi k
  subst ha
  go_enter Try.func24, Try.ntmps24
  go_wp2_with (go_at_call 20; refine (HPD.out _).mono ?_; rintro e w1 ⟨rfl, rfl⟩)
  go_quiet (fail)
  go_wp2
  go_quiet (fail)
  go_wp2_with (first | (go_at_call 28; refine (HW.out _ (Gr.drewN _ _) _ _ rfl).mono ?_; rintro e w' ⟨rfl, rfl⟩) | (go_at_call 27; refine (HSM.out _ _ _ _ (by omega) (HBA.out.gr (Gr.drewN _ _))).mono ?_; rintro e w2 ⟨rfl, g2⟩))
  (try simp only [Exit.inBlock, Exit.then]); refine bodyPost_ret (results_tmp4 rfl _ _ _) rfl ?_
  exact ⟨_, _, _, _, _, _, rfl, Gr.drewN _ _, rfl⟩
set_option maxRecDepth 100000 in
set_option maxHeartbeats 1000000 in
theorem take_hi1 (F : Fit w l a p pd b off cap n y0 y1 k C s sm ads) (h3 : p + 7 < cap) (ha : ads = some ⟨b, off + (p + 7), none⟩) (k1 : 4 < k.toNat) :
    Calls Try.prog 24 #[.slice (some ⟨b, off, none⟩) l.length cap, .int .i64 (a : Int)] w (RetT w b none) := by
  obtain ⟨hl, hc, hmx, h, hp6, HPD, e1, c4, c5, c6, hor, hn3, h1, h2, HW, HSM, hC, HSL, hsm1, hsm0, HUU, hcw, HBA, HBK, HCL, HM, _⟩ := F
  have hy0 := byte_hi y0
  have hy1 := byte_hi y1
  have hk := byte_hi k
  subst ha
  go_enter Try.func24, Try.ntmps24
  go_wp2_with (go_at_call 20; refine (HPD.out _).mono ?_; rintro e w1 ⟨rfl, rfl⟩)
  go_quiet (fail)
  go_wp2
  go_quiet (fail)
  go_wp2_with (first | (go_at_call 28; refine (HW.out _ (Gr.drewN _ _) _ _ rfl).mono ?_; rintro e w' ⟨rfl, rfl⟩) | (go_at_call 27; refine (HSM.out _ _ _ _ (by omega) (HBA.out.gr (Gr.drewN _ _))).mono ?_; rintro e w2 ⟨rfl, g2⟩))
  (try simp only [Exit.inBlock, Exit.then]); refine bodyPost_ret (results_tmp4 rfl _ _ _) rfl ?_
  exact ⟨_, _, _, _, _, _, rfl, Gr.drewN _ _, rfl⟩
set_option maxRecDepth 100000 in
set_option maxHeartbeats 1000000 in
theorem take_yes2 (F : Fit w l a p pd b off cap n y0 y1 k C s sm ads) (h3 : cap ≤ p + 7) (ha : ads = some ⟨b, off, none⟩) (k1 : 1 ≤ k.toNat) (k2 : k.toNat ≤ 4) (hq : ((C : Int) == U sm) = true) :
    Calls Try.prog 24 #[.slice (some ⟨b, off, none⟩) l.length cap, .int .i64 (a : Int)] w (RetT w b (some (k, s, p + 7 + n))) := by
  obtain ⟨hl, hc, hmx, h, hp6, HPD, e1, c4, c5, c6, hor, hn3, h1, h2, HW, HSM, hC, HSL, hsm1, hsm0, HUU, hcw, HBA, HBK, HCL, HM, _⟩ := F
  have hy0 := byte_hi y0
  have hy1 := byte_hi y1
  have hk := byte_hi k
  subst ha
  go_enter Try.func24, Try.ntmps24
  go_wp2_with (go_at_call 20; refine (HPD.out _).mono ?_; rintro e w1 ⟨rfl, rfl⟩)
  go_quiet (fail)
  go_wp2
  go_quiet (fail)
  go_wp2_with (first | (go_at_call 28; refine (HW.out _ (Gr.drewN _ _) _ _ rfl).mono ?_; rintro e w' ⟨rfl, rfl⟩) | (go_at_call 27; refine (HSM.out _ _ _ _ (by omega) (HBA.out.gr (Gr.drewN _ _))).mono ?_; rintro e w2 ⟨rfl, g2⟩))
  (try simp only [Exit.inBlock, Exit.then]); refine bodyPost_ret (results_tmp4 rfl _ _ _) rfl ?_
  exact ⟨_, _, _, _, _, _, rfl, (Gr.drewN _ _).trans g2, rfl, rfl, by have := HSL.out; omega, by have := HCL.out; have := HSL.out; omega, by have := HM.out; omega, by go_num, HBA.out, fun _ => HBK.out⟩
set_option maxRecDepth 100000 in
set_option maxHeartbeats 1000000 in
theorem take_no2 (F : Fit w l a p pd b off cap n y0 y1 k C s sm ads) (h3 : cap ≤ p + 7) (ha : ads = some ⟨b, off, none⟩) (k1 : 1 ≤ k.toNat) (k2 : k.toNat ≤ 4) (hq : ((C : Int) == U sm) = false) :
    Calls Try.prog 24 #[.slice (some ⟨b, off, none⟩) l.length cap, .int .i64 (a : Int)] w (RetT w b none) := by
  obtain ⟨hl, hc, hmx, h, hp6, HPD, e1, c4, c5, c6, hor, hn3, h1, h2, HW, HSM, hC, HSL, hsm1, hsm0, HUU, hcw, HBA, HBK, HCL, HM, _⟩ := F
  have hy0 := byte_hi y0
  have hy1 := byte_hi y1
  have hk := byte_hi k
  subst ha
  go_enter Try.func24, Try.ntmps24
  go_wp2_with (go_at_call 20; refine (HPD.out _).mono ?_; rintro e w1 ⟨rfl, rfl⟩)
  go_quiet (fail)
  go_wp2
  go_quiet (fail)
  go_wp2_with (first | (go_at_call 28; refine (HW.out _ (Gr.drewN _ _) _ _ rfl).mono ?_; rintro e w' ⟨rfl, rfl⟩) | (go_at_call 27; refine (HSM.out _ _ _ _ (by omega) (HBA.out.gr (Gr.drewN _ _))).mono ?_; rintro e w2 ⟨rfl, g2⟩))
  (try simp only [Exit.inBlock, Exit.then]); refine bodyPost_ret (results_tmp4 rfl _ _ _) rfl ?_
  exact ⟨_, _, _, _, _, _, rfl, (Gr.drewN _ _).trans g2, rfl⟩
set_option maxRecDepth 100000 in
set_option maxHeartbeats 1000000 in
theorem take_lo2 (F : Fit w l a p pd b off cap n y0 y1 k C s sm ads) (h3 : cap ≤ p + 7) (ha : ads = some ⟨b, off, none⟩) (k1 : k.toNat < 1) :
    Calls Try.prog 24 #[.slice (some ⟨b, off, none⟩) l.length cap, .int .i64 (a : Int)] w (RetT w b none) := by
  obtain ⟨hl, hc, hmx, h, hp6, HPD, e1, c4, c5, c6, hor, hn3, h1, h2, HW, HSM, hC, HSL, hsm1, hsm0, HUU, hcw, HBA, HBK, HCL, HM, _⟩ := F
  have hy0 := byte_hi y0
  have hy1 := byte_hi y1
  have hk := byte_hi k
  subst ha
  go_enter Try.func24, Try.ntmps24
  go_wp2_with (go_at_call 20; refine (HPD.out _).mono ?_; rintro e w1 ⟨rfl, rfl⟩)
  go_quiet (fail)
  go_wp2
  go_quiet (fail)
  go_wp2_with (first | (go_at_call 28; refine (HW.out _ (Gr.drewN _ _) _ _ rfl).mono ?_; rintro e w' ⟨rfl, rfl⟩) | (go_at_call 27; refine (HSM.out _ _ _ _ (by omega) (HBA.out.gr (Gr.drewN _ _))).mono ?_; rintro e w2 ⟨rfl, g2⟩))
  (try simp only [Exit.inBlock, Exit.then]); refine bodyPost_ret (results_tmp4 rfl _ _ _) rfl ?_
  exact ⟨_, _, _, _, _, _, rfl, Gr.drewN _ _, rfl⟩
set_option maxRecDepth 100000 in
set_option maxHeartbeats 1000000 in
theorem take_hi2 (F : Fit w l a p pd b off cap n y0 y1 k C s sm ads) (h3 : cap ≤ p + 7) (ha : ads = some ⟨b, off, none⟩) (k1 : 4 < k.toNat) :
    Calls Try.prog 24 #[.slice (some ⟨b, off, none⟩) l.length cap, .int .i64 (a : Int)] w (RetT w b none) := by
  obtain ⟨hl, hc, hmx, h, hp6, HPD, e1, c4, c5, c6, hor, hn3, h1, h2, HW, HSM, hC, HSL, hsm1, hsm0, HUU, hcw, HBA, HBK, HCL, HM, _⟩ := F
  have hy0 := byte_hi y0
  have hy1 := byte_hi y1
  have hk := byte_hi k
  subst ha
  go_enter Try.func24, Try.ntmps24
  go_wp2_with (go_at_call 20; refine (HPD.out _).mono ?_; rintro e w1 ⟨rfl, rfl⟩)
  go_quiet (fail)
  go_wp2
  go_quiet (fail)
  go_wp2_with (first | (go_at_call 28; refine (HW.out _ (Gr.drewN _ _) _ _ rfl).mono ?_; rintro e w' ⟨rfl, rfl⟩) | (go_at_call 27; refine (HSM.out _ _ _ _ (by omega) (HBA.out.gr (Gr.drewN _ _))).mono ?_; rintro e w2 ⟨rfl, g2⟩))
  (try simp only [Exit.inBlock, Exit.then]); refine bodyPost_ret (results_tmp4 rfl _ _ _) rfl ?_
  exact ⟨_, _, _, _, _, _, rfl, Gr.drewN _ _, rfl⟩
end
set_option maxRecDepth 100000 in
set_option maxHeartbeats 4000000 in
theorem take_on (l : List UInt8) (a p : Nat) (b off : Nat) (cap : Nat) (w : World) (hl : l.length ≤ 100000000) (hp : a + padF a = p) (h : p + 7 ≤ l.length) (hc : l.length ≤ cap) (hm : cap ≤ maxLen) (hb : Bytes w (some ⟨b, off, none⟩) l) :
    Calls Try.prog 24 #[.slice (some ⟨b, off, none⟩) l.length cap, .int .i64 (a : Int)] w (RetT w b (takeF l a)) := by
  have hmx : maxLen ≤ 9223372036854775807 := by decide
  have hp6 : padF a ≤ 6 := by unfold padF; split <;> omega
  have HPD := Lib.hid (fun w => pad_any a w (by omega))
  have HT := take_long hp h
  generalize takeF l a = T at *
  generalize padF a = pd at *
  have e1 : (a : Int) + (pd : Int) = (p : Int) := by omega
  have c4 := cell_at hb (p + 4) (by omega)
  have c5 := cell_at hb (p + 5) (by omega)
  have c6 := cell_at hb (p + 6) (by omega)
  have HOR := Lib.hid (i64_join l[p + 4].toNat l[p + 5].toNat (l[p + 4]).toNat_lt (l[p + 5]).toNat_lt)
  have hn : ∃ n, n = lenAt l p h ∧ ((l[p + 4].toNat + 256 * l[p + 5].toNat : Nat) : Int) = (n : Int) ∧ n < 65536 := ⟨_, rfl, rfl, by unfold lenAt; have := (l[p + 4]).toNat_lt; have := (l[p + 5]).toNat_lt; omega⟩
  obtain ⟨n, hn1, hn2, hn3⟩ := hn
  rw [← hn1] at HT
  rw [hn2] at HOR
  generalize l[p + 4] = y0 at *
  generalize l[p + 5] = y1 at *
  generalize l[p + 6] = k at *
  clear hn1 hn2 hp
  have hy0 := byte_hi y0
  have hy1 := byte_hi y1
  have hk := byte_hi k
  by_cases h1 : 128 < p % 128 + 7 + n
  · have HTN := Lib.hid (show T = none by rw [HT, if_pos (.inl h1)])
    clear HT
    have hor := HOR.out
    go_enter Try.func24, Try.ntmps24
    go_wp2_with (go_at_call 20; refine (HPD.out _).mono ?_; rintro e w1 ⟨rfl, rfl⟩)
    go_quiet (fail)
    go_wp2
    (try simp only [Exit.inBlock, Exit.then]); refine bodyPost_ret (results_tmp4 rfl _ _ _) rfl ?_
    exact ⟨_, _, _, _, _, _, rfl, Gr.drewN _ _, by rw [HTN.out]; rfl⟩
  · by_cases h2 : l.length < p + 7 + n
    · have HTN := Lib.hid (show T = none by rw [HT, if_pos (.inr h2)])
      clear HT
      have hor := HOR.out
      go_enter Try.func24, Try.ntmps24
      go_wp2_with (go_at_call 20; refine (HPD.out _).mono ?_; rintro e w1 ⟨rfl, rfl⟩)
      go_quiet (fail)
      go_wp2
      (try simp only [Exit.inBlock, Exit.then]); refine bodyPost_ret (results_tmp4 rfl _ _ _) rfl ?_
      exact ⟨_, _, _, _, _, _, rfl, Gr.drewN _ _, by rw [HTN.out]; rfl⟩
    · rw [if_neg (by omega)] at HT
      have hor := HOR.out
      have hL4 : ((l.drop p).take 4).length = 4 := by simp; omega
      have hw4 : Varint.wholeF ((l.drop p).take 4) = (Varint.le ((l.drop p).take 4), 0) := by unfold Varint.wholeF; rw [if_neg (by omega)]
      have HW := Lib.hid (fun w' (g : Gr w w') n c (hn : n = 4) => whole_at (some ⟨b, off + p, .none⟩) n c ((l.drop p).take 4) w' (by omega) (by rw [hn]; decide) (((hb.gr g).drop p).take 4))
      rw [hw4] at HW
      have hC := Varint.le_lt ((l.drop p).take 4)
      rw [hL4] at hC
      have hsl : ((l.drop (p + 7)).take n).length = n := by simp; omega
      have HSL := Lib.hid hsl
      have hbs := Lib.hid ((hb.drop (p + 7)).take n)
      have HSM := Lib.hid (fun w' ads c n' (hn : n' = n) (g : Bytes w' ads ((l.drop (p + 7)).take n)) => fsum_at k ads n' c ((l.drop (p + 7)).take n) w' (by rw [hn, hsl]) (by omega) g)
      clear hw4 hL4 hsl
      generalize hcc : Varint.le ((l.drop p).take 4) = C at *
      have HCC := Lib.hid hcc; clear hcc
      generalize hss : (l.drop (p + 7)).take n = s at *
      have HSS := Lib.hid hss; clear hss
      have hsm1 := U_hi (sumB k s)
      have hsm0 := U_lo (sumB k s)
      have hU : U (sumB k s) = ((sumB k s).toNat : Int) := by unfold U; rfl
      have HUU := Lib.hid hU; clear hU
      have hcw : IntKind.u32.wrap (C : Int) = (C : Int) := by rw [IntKind.wrap_u32]; omega
      have hads : ∃ ads, ((p + 7 < cap ∧ ads = some (⟨b, off + (p + 7), none⟩ : Addr)) ∨ (cap ≤ p + 7 ∧ ads = some ⟨b, off, none⟩)) ∧ Bytes w ads s ∧ (∀ x, ads = some x → x.block = b) := by
        rcases Nat.lt_or_ge (p + 7) cap with h | h
        · exact ⟨_, .inl ⟨h, rfl⟩, hbs.out, fun x hx => by cases hx; rfl⟩
        · refine ⟨_, .inr ⟨h, rfl⟩, ?_, fun x hx => by cases hx; rfl⟩
          have : s = [] := List.eq_nil_of_length_eq_zero (by have := HSL.out; omega)
          subst this
          exact fun i hi => absurd hi (by simp)
      obtain ⟨ads, had, hbads, hblk⟩ := hads
      have HBA := Lib.hid hbads; clear hbads
      have HBK := Lib.hid hblk; clear hblk
      have hcl : n ≤ cap - (p + 7) := by omega
      have HCL := Lib.hid hcl; clear hcl
      generalize hsmm : sumB k s = sm at *
      have HF : Fit w l a p pd b off cap n y0 y1 k C s sm ads := ⟨hl, hc, by omega, h, hp6, HPD, e1, c4, c5, c6, hor, hn3, h1, h2, HW, HSM, hC, HSL, hsm1, hsm0, HUU, hcw, HBA, HBK, HCL, Lib.hid hm, had⟩
      have hkr : (1 ≤ k.toNat ∧ k.toNat ≤ 4 ∧ C = sm.toNat) ∨ (1 ≤ k.toNat ∧ k.toNat ≤ 4 ∧ C ≠ sm.toNat) ∨ k.toNat < 1 ∨ 4 < k.toNat := by omega
      rcases hkr with ⟨k1, k2, k3⟩ | ⟨k1, k2, k3⟩ | k1 | k1
      · rw [if_pos ⟨k1, k2, k3⟩] at HT
        have hq : ((C : Int) == U sm) = true := by rw [beq_iff_eq, HUU.out]; omega
        rw [HT]
        rcases had with ⟨h3, h4⟩ | ⟨h3, h4⟩
        · exact take_yes1 HF h3 h4 k1 k2 hq
        · exact take_yes2 HF h3 h4 k1 k2 hq
      · rw [if_neg (fun h => k3 h.2.2)] at HT
        have hq : ((C : Int) == U sm) = false := by rw [beq_eq_false_iff_ne, HUU.out]; omega
        rw [HT]
        rcases had with ⟨h3, h4⟩ | ⟨h3, h4⟩
        · exact take_no1 HF h3 h4 k1 k2 hq
        · exact take_no2 HF h3 h4 k1 k2 hq
      · rw [if_neg (by omega)] at HT
        rw [HT]
        rcases had with ⟨h3, h4⟩ | ⟨h3, h4⟩
        · exact take_lo1 HF h3 h4 k1
        · exact take_lo2 HF h3 h4 k1
      · rw [if_neg (by omega)] at HT
        rw [HT]
        rcases had with ⟨h3, h4⟩ | ⟨h3, h4⟩
        · exact take_hi1 HF h3 h4 k1
        · exact take_hi2 HF h3 h4 k1
end Go.Proofs.Ytmjhffohfppnaaa
