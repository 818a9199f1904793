/- Layer 1 (region): Load, Slabs, Raw, Store walked. -/
import Derived.Test.YtfnimpgphagnfaaRegionPiece2
import Derived.Test.YtfnimpgphagnfaaFresh
import Derived.Lib.SliceRun
namespace Go.Proofs.Ytfnimpgphagnfaa
set_option linter.unusedVariables false
set_option linter.unusedSimpArgs false
open Go.RowKit
set_option maxRecDepth 100000 in
theorem clone_any (ad : Option Addr) (n cap : Nat) (l : List UInt8) (w : World) (hn : n = l.length) (h1 : 1 ≤ l.length) (hl : l.length ≤ 1000000000) (hb : Bytes w ad l) :
    Calls Try.prog 37 #[.slice ad n cap] w fun e w' => ∃ ad' cap', e = .returned (.slice ad' n cap') ∧ Owns w' w.heap.size 5 1 ad' cap' n (bv l) ∧ Gr w w' := by
  subst hn
  obtain ⟨a, rfl⟩ : ∃ a, ad = some a := by
    obtain ⟨b, off, e, _⟩ := hb 0 (by omega)
    exact ⟨_, e⟩
  have HB := Lib.hid hb
  have HE := fun w' => Lib.run_eql_slice_nil (P := Try.prog) w' 23 5 (some a) l.length cap 0 0 Try.underlying23
  clear hb
  go_enter Try.func37, Try.ntmps37
  go_wp2_with (first
    | (at_builtin; refine wp_append elemB rfl _ _ rfl rfl (Owns.void w w.heap.size 5 1 (Nat.le_refl _)) rfl (Src.bytes (HB.out.gr (Gr.alloc _ _)) rfl Try.underlying23) (by unfold maxLen; omega) (by omega) (by simp) ?_; intro ad7 c7 w7 o7 k7 f7)
    | fail)
  go_ret
  refine ⟨ad7, c7, by simp, ?_, (Gr.alloc _ _).grown k7 (fun g h => by cases h; exact Nat.le_refl _)⟩
  simpa using o7
set_option maxRecDepth 100000 in
theorem clone_nil (w : World) : Calls Try.prog 37 #[.slice none 0 0] w fun e w' => e = .returned (.slice none 0 0) ∧ w = w' := by
  have HE := fun w' => Lib.run_eql_slice_nil (P := Try.prog) w' 23 5 none 0 0 0 0 Try.underlying23
  go_enter Try.func37, Try.ntmps37
  go_wp2
  go_ret
  exact ⟨rfl, rfl⟩
theorem iv_one (l : List Nat) : ∀ v ∈ iv l, v.oneCell' = true := by
  intro v hv
  simp only [iv, List.mem_map] at hv
  obtain ⟨x, _, rfl⟩ := hv
  rfl
theorem iv_length (l : List Nat) : (iv l).length = l.length := by simp [iv]
set_option maxRecDepth 100000 in
theorem cloneI_any (ad : Option Addr) (n cap : Nat) (l : List Nat) (w : World) (hl : l.length ≤ 1000000) (ho : Owns w 0 3 1 ad cap n (iv l)) :
    Calls Try.prog 38 #[.slice ad n cap] w fun e w' => ∃ ad' cap', e = .returned (.slice ad' n cap') ∧ Owns w' w.heap.size 3 1 ad' cap' n (iv l) ∧ Gr w w' := by
  have hn : n = l.length := by have := ho.1; rw [iv_length] at this; omega
  cases ad with
  | none =>
    obtain ⟨h0, rfl, h2⟩ := ho.nil_of
    have HE := fun w' => Lib.run_eql_slice_nil (P := Try.prog) w' 22 3 none n 0 0 0 Try.underlying22
    rw [h2]
    subst h0
    clear hn h2 ho
    go_enter Try.func38, Try.ntmps38
    go_wp2
    go_ret
    exact ⟨none, 0, rfl, Owns.empty _ _ _ _, Gr.refl _⟩
  | some a =>
    have HO := Lib.hid ho
    have HE := fun w' => Lib.run_eql_slice_nil (P := Try.prog) w' 22 3 (some a) n cap 0 0 Try.underlying22
    have hm1 : 0 + n ≤ maxLen := by unfold maxLen; omega
    have hm2 : (0 + n) * 8 ≤ 140737488355328 := by omega
    clear ho hn
    go_enter Try.func38, Try.ntmps38
    go_wp2_with (first
      | (at_builtin; go_must (refine wp_append elemI rfl _ _ rfl rfl (Owns.void w w.heap.size 3 1 (Nat.le_refl _)) rfl (Src.own (HO.out.gr (Gr.alloc _ _)) (iv_one l) Try.underlying22) hm1 hm2 (by simp) ?_); intro ad7 c7 w7 o7 k7 f7)
      | fail)
    go_ret
    refine ⟨ad7, c7, by simp, ?_, (Gr.alloc _ _).grown k7 (fun g h => by cases h; exact Nat.le_refl _)⟩
    simpa using o7
theorem bytes_part {w : World} {b k n : Nat} {l : List UInt8} (h : Blk w b 5 (bv l)) (hk : k + n ≤ l.length) : Bytes w (some ⟨b, k, none⟩) ((l.drop k).take n) := by
  have hb : Bytes w (some ⟨b, 0, none⟩) l := fun i hi => ⟨b, 0, rfl, by rw [Nat.zero_add]; exact h.cell (bv_get l i hi)⟩
  have := (hb.drop k).take n
  rw [Nat.zero_add] at this
  exact this
theorem bytesAt_len {p : PoolF} (hp : PoolOk p) {s : Nat} (hs : s < p.bytes.length) : (bytesAt p s).length = p.size := by
  unfold bytesAt
  rw [List.getD_eq_getElem?_getD, List.getElem?_eq_getElem hs]
  exact hp.bl _ (List.getElem_mem hs)
theorem loadF_ok {p : PoolF} {h : Hd} {s k : Nat} (e : pieceF p h = ((s, k), 0)) : loadF p h = (((bytesAt p s).drop k).take h.len.toNat, 0) := by unfold loadF; rw [e]; rfl
theorem loadF_err {p : PoolF} {h : Hd} {x : Nat × Nat} {n : Nat} (e : pieceF p h = (x, n + 1)) : loadF p h = ([], n + 1) := by unfold loadF; rw [e]; rfl
set_option maxRecDepth 100000 in
set_option maxHeartbeats 4000000 in
theorem Load_any (w : World) (S : Nat → Prop) (g : Nat) (p : PoolF) (hd : Hd) (h : PoolAt w S g p) (hp : PoolOk p) :
    Calls Try.prog 16 #[.pointer (some ⟨g, 0, none⟩), hdv hd] w fun e w' => ∃ ad cap, e = .returned (.tuple #[.slice ad (loadF p hd).1.length cap, .int .i64 ((loadF p hd).2 : Int)]) ∧ Owns w' w.heap.size 5 1 ad cap (loadF p hd).1.length (bv (loadF p hd).1) ∧ Gr w w' := by
  obtain ⟨ads, cs, adt, ct, A, C, bd, hx⟩ := h
  have HPC := Lib.hid (fun w' (k : Gr w w') => piece_any w' S g p ads adt cs ct A C bd hd (hx.gr k) hp)
  rcases hpf : pieceF p hd with ⟨⟨s, k⟩, e⟩
  cases e with
  | succ e =>
    rw [pieceV_err hpf] at HPC
    rw [loadF_err hpf]
    clear hx hpf hp
    obtain ⟨r, gn, of, ln⟩ := hd
    unfold hdv at *
    simp only at HPC ⊢
    go_enter Try.func16, Try.ntmps16
    go_wp2_with (first
      | (go_at_call 36; refine (HPC.out _ (Gr.alloc _ _)).mono ?_; rintro e w1 ⟨rfl, g1⟩)
      | (go_at_call 37; refine (clone_nil _).mono ?_; rintro e w2 ⟨rfl, rfl⟩)
      | fail)
    go_ret2
    exact ⟨none, 0, rfl, Owns.empty _ _ _ _, (Gr.alloc _ _).trans g1⟩
  | zero =>
    obtain ⟨i, o, l, -, hi, e2, e3, e4, e5, hl1, -, -, -, -, hkl, hs⟩ := pieceF_ok hp hpf
    have hbl := bytesAt_len hp hs
    have hs2 := hp.s2
    rw [pieceV_ok hpf] at HPC
    rw [loadF_ok hpf]
    have HX := Lib.hid hx
    have hlen : (((bytesAt p s).drop k).take hd.len.toNat).length = hd.len.toNat := by rw [e3, Int.toNat_natCast, List.length_take, List.length_drop]; omega
    have HB := Lib.hid (fun w' (kk : Gr w w') => bytes_part (n := hd.len.toNat) ((hx.gr kk).slab s hs) (by rw [e3, Int.toNat_natCast]; omega : k + hd.len.toNat ≤ (bytesAt p s).length))
    have h1 : 1 ≤ (((bytesAt p s).drop k).take hd.len.toNat).length := by rw [hlen, e3, Int.toNat_natCast]; exact hl1
    have h2 : (((bytesAt p s).drop k).take hd.len.toNat).length ≤ 1000000000 := by rw [hlen, e3, Int.toNat_natCast]; omega
    generalize ((bytesAt p s).drop k).take hd.len.toNat = B at *
    rw [← hlen] at HPC
    clear hx hpf hp hlen e2 e3 e4 e5 hbl
    obtain ⟨r, gn, of, ln⟩ := hd
    unfold hdv at *
    simp only at HPC ⊢
    go_enter Try.func16, Try.ntmps16
    go_wp2_with (first
      | (go_at_call 36; refine (HPC.out _ (Gr.alloc _ _)).mono ?_; rintro e w1 ⟨rfl, g1⟩; have hbb := HB.out _ ((Gr.alloc _ _).trans g1); have HC := Lib.hid (clone_any _ _ (p.size - k) B w1 rfl h1 h2 hbb))
      | (go_at_call 37; go_must (refine HC.out.mono ?_); rintro e w2 ⟨ad2, cp2, rfl, o2, g2⟩)
      | fail)
    go_ret2
    have hsz := ((Gr.alloc w (.cells #[.int .i64 r, .int .i64 gn, .int .i64 of, .int .i64 ln] 33)).trans g1).size
    exact ⟨ad2, cp2, rfl, o2.base hsz, ((Gr.alloc _ _).trans g1).trans g2⟩
set_option maxRecDepth 100000 in
set_option maxHeartbeats 4000000 in
theorem Slabs_any (w : World) (S : Nat → Prop) (g : Nat) (p : PoolF) (r : Int) (h : PoolAt w S g p) (hp : PoolOk p) :
    Calls Try.prog 18 #[.pointer (some ⟨g, 0, none⟩), .int .i64 r] w fun e w' => ∃ ad cap, e = .returned (.tuple #[.slice ad (slabsF p r).1.length cap, .int .i64 ((slabsF p r).2 : Int)]) ∧ Owns w' w.heap.size 3 1 ad cap (slabsF p r).1.length (iv (slabsF p r).1) ∧ Gr w w' := by
  have HLA := Lib.hid (land_any w S g p r h)
  cases hl : landF p r with
  | none =>
    rw [hl] at HLA
    have he : slabsF p r = ([], 7) := by unfold slabsF; rw [hl]
    rw [he]
    clear h hp he hl
    go_enter Try.func18, Try.ntmps18
    go_wp2_with (first
      | (go_at_call 34; refine HLA.out.mono ?_; rintro e w1 ⟨rfl, rfl⟩)
      | fail)
    go_ret2
    exact ⟨none, 0, rfl, Owns.empty _ _ _ _, Gr.refl _⟩
  | some i =>
    rw [hl] at HLA
    obtain ⟨rfl, hi, _⟩ := landF_some hl
    obtain ⟨ads, cs, adt, ct, A, C, bd, hx⟩ := h
    have he : slabsF p (i : Int) = ((landAt p i).slabs, 0) := by unfold slabsF; rw [hl]
    rw [he]
    obtain ⟨_, _, l2, _⟩ := hx.lcell hi
    have hlen := Nat.le_trans (hp.ld i hi).len hp.n2
    have HC := Lib.hid (cloneI_any (A i) (landAt p i).slabs.length (C i) (landAt p i).slabs w (by omega) (hx.land i hi))
    clear hx hp he hl
    go_enter Try.func18, Try.ntmps18
    go_wp2_with (first
      | (go_at_call 34; refine HLA.out.mono ?_; rintro e w1 ⟨rfl, rfl⟩)
      | (go_at_call 38; go_must (refine HC.out.mono ?_); rintro e w2 ⟨ad2, cp2, rfl, o2, g2⟩)
      | fail)
    go_ret2
    exact ⟨ad2, cp2, rfl, o2, g2⟩
set_option maxRecDepth 100000 in
set_option maxHeartbeats 4000000 in
theorem Raw_any (w : World) (S : Nat → Prop) (g : Nat) (p : PoolF) (r : Int) (h : PoolAt w S g p) (hp : PoolOk p) :
    Calls Try.prog 19 #[.pointer (some ⟨g, 0, none⟩), .int .i64 r] w fun e w' => ∃ ad cap, e = .returned (.tuple #[.slice ad (rawF p r).1.length cap, .int .i64 ((rawF p r).2 : Int)]) ∧ Owns w' w.heap.size 5 1 ad cap (rawF p r).1.length (bv (rawF p r).1) ∧ Gr w w' := by
  obtain ⟨ads, cs, adt, ct, A, C, bd, hx⟩ := h
  obtain ⟨_, c1, _⟩ := hx.head
  have hn2 := hp.n2
  by_cases h0 : r < 0
  · have he : rawF p r = ([], 1) := by unfold rawF; rw [if_pos (.inl h0)]
    rw [he]
    clear hx hp he
    go_enter Try.func19, Try.ntmps19
    go_wp2
    go_ret2
    exact ⟨none, 0, rfl, Owns.empty _ _ _ _, Gr.refl _⟩
  · obtain ⟨s, rfl⟩ : ∃ s : Nat, r = (s : Int) := ⟨r.toNat, by omega⟩
    by_cases h1 : s ≥ p.bytes.length
    · have he : rawF p (s : Int) = ([], 1) := by unfold rawF; rw [if_pos (.inr (by omega))]
      rw [he]
      clear hx hp he
      go_enter Try.func19, Try.ntmps19
      go_wp2
      go_ret2
      exact ⟨none, 0, rfl, Owns.empty _ _ _ _, Gr.refl _⟩
    · have hs : s < p.bytes.length := by omega
      have he : rawF p (s : Int) = (bytesAt p s, 0) := by unfold rawF; rw [if_neg (by omega), Int.toNat_natCast]
      rw [he]
      have hbl := bytesAt_len hp hs
      have hs1 := hp.s1
      have hs2 := hp.s2
      obtain ⟨br, hbr, _, zr⟩ := hx.row.at (slabV_get (bd := bd) (size := p.size) hs)
      rw [hbr] at c1
      have hb : Bytes w (some ⟨bd s, 0, none⟩) (bytesAt p s) := fun i hi => ⟨bd s, 0, rfl, by rw [Nat.zero_add]; exact (hx.slab s hs).cell (bv_get _ i hi)⟩
      have HC := Lib.hid (clone_any (some ⟨bd s, 0, none⟩) p.size p.size (bytesAt p s) w hbl.symm (by omega) (by omega) hb)
      rw [← hbl] at HC zr
      clear hx hp he hb hbl
      generalize bytesAt p s = B at *
      go_enter Try.func19, Try.ntmps19
      go_wp2_with (first
        | (go_at_call 37; go_must (refine HC.out.mono ?_); rintro e w2 ⟨ad2, cp2, rfl, o2, g2⟩)
        | fail)
      go_ret2
      exact ⟨ad2, cp2, rfl, o2, g2⟩
theorem storeF_err {p : PoolF} {h : Hd} {x : Nat × Nat} {n : Nat} {a : Int} {b : List UInt8} (e : pieceF p h = (x, n + 1)) : storeF p h a b = (n + 1, p) := by unfold storeF; rw [e]; rfl
theorem storeF_bad {p : PoolF} {h : Hd} {s k : Nat} {a : Int} {b : List UInt8} (e : pieceF p h = ((s, k), 0)) (hb : a < 0 ∨ a > h.len ∨ (b.length : Int) > h.len - a) : storeF p h a b = (1, p) := by
  unfold storeF; rw [e]; simp only; rw [if_pos hb]
theorem storeF_ok {p : PoolF} {h : Hd} {s k : Nat} {a : Int} {b : List UInt8} (e : pieceF p h = ((s, k), 0)) (hb : ¬ (a < 0 ∨ a > h.len ∨ (b.length : Int) > h.len - a)) :
    storeF p h a b = (0, setBytes p s (((bytesAt p s).take (k + a.toNat)) ++ b ++ ((bytesAt p s).drop (k + a.toNat + b.length)))) := by
  unfold storeF; rw [e]; simp only; rw [if_neg hb]; rfl
theorem bv_take (l : List UInt8) (n : Nat) : (bv l).take n = bv (l.take n) := by simp [bv]
theorem bv_drop (l : List UInt8) (n : Nat) : (bv l).drop n = bv (l.drop n) := by simp [bv]
set_option maxRecDepth 100000 in
set_option maxHeartbeats 4000000 in
theorem Store_any (w : World) (S : Nat → Prop) (g : Nat) (p : PoolF) (hd : Hd) (a : Int) (ad : Option Addr) (n cap : Nat) (b : List UInt8) (h : PoolAt w S g p) (hp : PoolOk p) (hb : Bytes w ad b) (hn : b.length = n) (hnm : n ≤ 9223372036854775807) :
    Calls Try.prog 14 #[.pointer (some ⟨g, 0, none⟩), hdv hd, .int .i64 a, .slice ad n cap] w fun e w' => e = .returned (.int .i64 ((storeF p hd a b).1 : Int)) ∧ Moved S g (storeF p hd a b).2 w w' S := by
  have HPO := Lib.hid h
  obtain ⟨ads, cs, adt, ct, A, C, bd, hx⟩ := h
  have HPC := Lib.hid (fun w' (k : Gr w w') => piece_any w' S g p ads adt cs ct A C bd hd (hx.gr k) hp)
  rcases hpf : pieceF p hd with ⟨⟨s, k⟩, e⟩
  cases e with
  | succ e =>
    rw [pieceV_err hpf] at HPC
    rw [storeF_err hpf]
    have he : (((e + 1 : Nat) : Int) != 0) = true := by simp; omega
    obtain ⟨e2, he2⟩ : ∃ e2, e2 = e + 1 := ⟨_, rfl⟩
    rw [← he2] at HPC he ⊢
    clear hx hpf hp he2 hb
    obtain ⟨r, gn, of, ln⟩ := hd
    unfold hdv at *
    simp only at HPC ⊢
    go_enter Try.func14, Try.ntmps14
    go_wp2_with (first
      | (go_at_call 36; go_must (refine (HPC.out _ (Gr.alloc _ _)).mono ?_); rintro e w1 ⟨rfl, g1⟩)
      | fail)
    go_ret
    exact ⟨rfl, (Moved.refl HPO.out).gr ((Gr.alloc _ _).trans g1)⟩
  | zero =>
    obtain ⟨i, o, l, -, hi, e2, e3, e4, e5, hl1, -, -, -, -, hkl, hs⟩ := pieceF_ok hp hpf
    have hbl := bytesAt_len hp hs
    have hs2 := hp.s2
    rw [pieceV_ok hpf] at HPC
    have HX := Lib.hid hx
    obtain ⟨r, gn, of, ln⟩ := hd
    simp only at e2 e3 e4 e5
    subst e3
    have hbs : ¬ (a < 0 ∨ a > (l : Int) ∨ (b.length : Int) > (l : Int) - a) → _ := fun hh => storeF_ok (a := a) (b := b) hpf hh
    have hbb : (a < 0 ∨ a > (l : Int) ∨ (b.length : Int) > (l : Int) - a) → _ := fun hh => storeF_bad (a := a) (b := b) hpf hh
    simp only [Int.toNat_natCast] at HPC
    have HBS := Lib.hid hbs
    have HBB := Lib.hid hbb
    have HB := Lib.hid hb
    clear hx hpf hp hbs hbb e2 e4 e5 hb
    unfold hdv at *
    simp only at HPC ⊢
    by_cases b1 : a < 0
    · have hbad : a < 0 ∨ a > (l : Int) ∨ (b.length : Int) > (l : Int) - a := .inl b1
      rw [HBB.out hbad]
      clear hbad
      go_enter Try.func14, Try.ntmps14
      go_wp2_with (first
        | (go_at_call 36; go_must (refine (HPC.out _ (Gr.alloc _ _)).mono ?_); rintro e w1 ⟨rfl, g1⟩)
        | fail)
      go_ret
      exact ⟨rfl, (Moved.refl HPO.out).gr ((Gr.alloc _ _).trans g1)⟩
    · obtain ⟨t, rfl⟩ : ∃ t : Nat, a = (t : Int) := ⟨a.toNat, by omega⟩
      by_cases b2 : t > l
      · have hbad : (t : Int) < 0 ∨ (t : Int) > (l : Int) ∨ (b.length : Int) > (l : Int) - (t : Int) := .inr (.inl (by omega))
        rw [HBB.out hbad]
        clear hbad
        go_enter Try.func14, Try.ntmps14
        go_wp2_with (first
          | (go_at_call 36; go_must (refine (HPC.out _ (Gr.alloc _ _)).mono ?_); rintro e w1 ⟨rfl, g1⟩)
          | fail)
        go_ret
        exact ⟨rfl, (Moved.refl HPO.out).gr ((Gr.alloc _ _).trans g1)⟩
      · by_cases b3 : n > l - t
        · have hbad : (t : Int) < 0 ∨ (t : Int) > (l : Int) ∨ (b.length : Int) > (l : Int) - (t : Int) := .inr (.inr (by omega))
          clear hn
          rw [HBB.out hbad]
          clear hbad
          go_enter Try.func14, Try.ntmps14
          go_wp2_with (first
            | (go_at_call 36; go_must (refine (HPC.out _ (Gr.alloc _ _)).mono ?_); rintro e w1 ⟨rfl, g1⟩)
            | fail)
          go_ret
          exact ⟨rfl, (Moved.refl HPO.out).gr ((Gr.alloc _ _).trans g1)⟩
        · rw [HBS.out (by omega)]
          rw [Int.toNat_natCast]
          have HN := Lib.hid hn
          have hf : k + t + n ≤ p.size := by omega
          have hnl : n ≤ l - t := by omega
          have HBL := Lib.hid hbl
          clear hn hbl
          go_enter Try.func14, Try.ntmps14
          go_wp2_with (first
            | (go_at_call 36; go_must (refine (HPC.out _ (Gr.alloc _ _)).mono ?_); rintro e w1 ⟨rfl, g1⟩)
            | ((with_reducible show Go.wpList _ _ _ (Oper.mk _ (Op.call (Call.mk (Callee.builtin Builtin.copy) _ _)) _ _ _ _ :: _) _ _)
               go_must (refine wp_copy elemB rfl _ _ rfl rfl (fun h0 => by rw [if_neg (by omega)]) rfl ((HX.out.gr ((Gr.alloc _ _).trans g1)).slab s hs) (HB.out.gr ((Gr.alloc _ _).trans g1)).row (by rw [bv_length]; exact HN.out) (by omega) (by rw [bv_length, HBL.out]; exact hf) (bv_one _) ?_); intro w2 q2 k2)
            | fail)
          all_goals
            go_ret
            have hgr := (Gr.alloc w (.cells #[.int .i64 r, .int .i64 gn, .int .i64 of, .int .i64 (l : Int)] 33)).trans g1
            refine ⟨rfl, ?_⟩
            rw [bv_take, bv_drop, ← bv_append, ← bv_append] at q2
            have hm := (HX.out.gr hgr).put_bytes hs _ q2 k2
            have hn := HN.out
            refine ⟨Chg.trans (S' := S) (hgr.chg (S := S)) (Chg.grown k2 (HX.out.sslab s hs)) (fun j hj => .inl hj), fun j hj => .inl hj, ads, cs, adt, ct, A, C, bd, ?_⟩
            rw [hn]
            rw [List.append_assoc] at hm
            exact hm
end Go.Proofs.Ytfnimpgphagnfaa
