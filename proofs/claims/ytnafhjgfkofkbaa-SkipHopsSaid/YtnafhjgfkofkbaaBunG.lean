/- Layer 11 (skip): a list of a law's own, and what its calls tell. -/
import Derived.Test.YtnafhjgfkofkbaaBunF
/- Layer 11 (skip): Insert refuses. -/
namespace Go.Proofs.Ytnafhjgfkofkbaa
set_option linter.unusedVariables false
set_option linter.unusedSimpArgs false
open Go.RowKit Ikey Varint
set_option maxRecDepth 100000 in
set_option maxHeartbeats 2000000 in
theorem Insert_no (w : World) (g gl : Nat) (L : Ls) (hb : Blk w gl 80 (lstV g L)) (k : List UInt8) (s d : Int) (v : List UInt8) (h : Int) (hv : v.length ≤ 9223372036854775807) (n : Nat) (hn : chkI L.fz L.fd k s d v h = n) (hn0 : n ≠ 0) :
    Calls Try.prog 12 #[.pointer (some ⟨gl, 0, none⟩), celV k s d v, .int .i64 h] w fun e w' => e = .returned (.int .i64 (n : Int)) ∧ Gr w w' := by
  have HCK := Lib.hid (fun w' (hg : Gr w w') => check_any w' g gl L (hb.gr hg) k s d v h hv)
  rw [hn] at HCK
  have hnb : ((n : Int) != 0) = true := by rw [bne_iff_ne]; omega
  have G1 := Lib.hid (Gr.alloc w (.cells #[.string (str k), .int .i64 s, .int .i64 d, .string (str v)] 41))
  clear hn hn0 hb
  unfold celV at HCK ⊢
  go_enter Try.func12, Try.ntmps12
  go_wp2_with (first
    | (go_at_call 40; go_must (refine (HCK.out _ G1.out).mono ?_); rintro e w2 ⟨rfl, g2⟩)
    | fail)
  go_ret
  exact ⟨rfl, G1.out.trans g2⟩
set_option maxRecDepth 100000 in
set_option maxHeartbeats 2000000 in
/-- no list -/
theorem Insert_nil (w : World) (k : List UInt8) (s d : Int) (v : List UInt8) (h : Int) :
    Calls Try.prog 12 #[.pointer none, celV k s d v, .int .i64 h] w fun e w' => e = .returned (.int .i64 1) ∧ Gr w w' := by
  have HCK : ∀ w, Calls Try.prog 40 #[.pointer none, celV k s d v, .int .i64 h] w fun e w' => e = .returned (.int .i64 1) ∧ Gr w w' := fun w => by
    unfold celV
    go_enter Try.func40, Try.ntmps40
    go_wp2
    go_ret
    exact ⟨rfl, Gr.alloc _ _⟩
  have H := Lib.hid HCK
  clear HCK
  unfold celV at H ⊢
  go_enter Try.func12, Try.ntmps12
  go_wp2_with (first
    | (go_at_call 40; go_must (refine (H.out _).mono ?_); rintro e w2 ⟨rfl, g2⟩)
    | fail)
  go_ret
  exact ⟨rfl, (Gr.alloc _ _).trans g2⟩
set_option maxRecDepth 100000 in
set_option maxHeartbeats 4000000 in
theorem Insert_there (w : World) (S : Nat → Prop) (g gl : Nat) (p : PoolF) (L : Ls) (A B : List Nd) (x : Nd) (c : Ce) (t : Int) (h : Sk w S g gl p L) (st : SkSt p L.r L.gen L.hd (A ++ x :: B)) (full : ∀ y ∈ A ++ x :: B, y.h = y.t)
    (hck : chkI L.fz L.fd c.key c.seq c.kind c.val t = 0) (hv : c.val.length ≤ 1000)
    (hA : ∀ y ∈ A, vless y.c.vr c.vr = true) (hB : ∀ y ∈ x :: B, vless y.c.vr c.vr = false) (hx : isV x.c c.vr = true) :
    Calls Try.prog 12 #[.pointer (some ⟨gl, 0, none⟩), celV c.key c.seq c.kind c.val, .int .i64 t] w fun e w' => e = .returned (.int .i64 8) ∧ Gr w w' := by
  have HCK := Lib.hid (fun w' (hg : Gr w w') => check_any w' g gl L (h.gr hg).blk c.key c.seq c.kind c.val t (by omega))
  rw [hck] at HCK
  have HBE := Lib.hid (fun w' (hg : Gr w w') => behind_any w' S g gl p L A (x :: B) c.vr (h.gr hg) st full hA hB)
  have hxm : x ∈ A ++ x :: B := by simp
  obtain ⟨n1, _⟩ := st.node x hxm
  have hs := nd_size n1
  have hfn : firstN 0 (x :: B) = some x := by rw [firstN_cons, if_pos (by have := full x hxm; have := n1.t1; omega)]
  rw [hfn] at HBE
  have hlk : linkF (some x) = (x.off, x.size) := rfl
  rw [hlk] at HBE
  have HTH := Lib.hid (fun w' (hg : Gr w w') => there_some w' S g gl p L (x.off, x.size) c.vr x.t _ x.c (h.gr hg) (st.ld A x B rfl) (by show 1 ≤ x.size; omega) n1.t1 n1.t2 n1.ok n1.vl)
  rw [hx] at HTH
  obtain ⟨R, hR⟩ : ∃ R : Nat → Nat × Nat, R = fun k => linkF (lastN k A) := ⟨_, rfl⟩
  rw [← hR] at HBE
  have G1 := Lib.hid (Gr.alloc w (.cells #[.string (str c.key), .int .i64 (c.seq : Int), .int .i64 (c.kind : Int), .string (str c.val)] 41))
  have B1 := Lib.hid (Blk.new w 41 #[.string (str c.key), .int .i64 (c.seq : Int), .int .i64 (c.kind : Int), .string (str c.val)])
  clear hck hA hB hx st full h hR hlk hfn n1 hxm
  unfold Ce.vr at HBE HTH
  unfold ver at HBE HTH
  simp only at HBE HTH
  unfold lnk at HBE HTH
  unfold celV at HCK ⊢
  simp only at HBE HTH
  obtain ⟨key, seq, kind, vl⟩ := c
  simp only at *
  go_enter Try.func12, Try.ntmps12
  go_wp2_with (first
    | (go_at_call 40; go_must (refine (HCK.out _ G1.out).mono ?_); rintro e w2 ⟨rfl, g2⟩
       have G2 := Lib.hid (G1.out.trans g2)
       have B2 := Lib.hid (B1.out.gr g2)
       obtain ⟨c0, c1, c2, c3, _⟩ := B2.out.four)
    | (go_at_call 41; go_must (refine (HBE.out _ G2.out).mono ?_); rintro e w3 ⟨rfl, g3⟩
       clear c0 c1 c2 c3
       have G3 := Lib.hid (G2.out.trans g3)
       have B3 := Lib.hid (B2.out.gr g3)
       have P3 := Lib.hid (Blk.of2a (w := w3) (cs := (rowV (fun _ => (0, 0)) 12).toArray) (t := 78) (o := .cells #[.int .i64 0, .int .i64 0] 77) (Gr.refl _))
       have N3 := Lib.hid (Blk.of2b (w := w3) (o := .cells (rowV (fun _ => (0, 0)) 12).toArray 78) (cs := #[.int .i64 0, .int .i64 0]) (t := 77) (Gr.refl _)))
    | ((with_reducible show Go.wpList _ _ _ (Oper.mk _ (Op.store 78 _ _) _ _ _ _ :: _) _ _); go_must (refine wp_store_row rfl _ _ _ rfl rfl (cs' := rowV R 12) rfl P3.out (n := 24) (by kernel_rfl) (rowV_len _ 12) (rowV_len _ 12) (rowV_one _ 12) ?_); intro w4 P4 k4
       have hw3 := G3.out.size
       have hbx := B3.out.lt
       have G4 := Lib.hid ((G3.out.trans ((Gr.alloc w3 (.cells (rowV (fun _ => (0, 0)) 12).toArray 78)).trans (Gr.alloc _ (.cells #[.int .i64 0, .int .i64 0] 77)))).grown k4 (fun k e => by cases e; exact hw3))
       have N4 := Lib.hid (N3.out.grown k4 (by simp))
       have B4 := Lib.hid (((B3.out.alloc (.cells (rowV (fun _ => (0, 0)) 12).toArray 78)).alloc (.cells #[.int .i64 0, .int .i64 0] 77)).grown k4 (by simp; omega))
       clear k4 P4)
    | ((with_reducible show Go.wpList _ _ _ (Oper.mk _ (Op.store 77 _ _) _ _ _ _ :: _) _ _); go_must (refine wp_store_row rfl _ _ _ rfl rfl (cs' := [.int .i64 (x.off : Int), .int .i64 (x.size : Int)]) rfl N4.out (n := 2) (by kernel_rfl) rfl rfl (fun v hv => by simp at hv; rcases hv with rfl | rfl <;> rfl) ?_); intro w5 N5 k5
       have G5 := Lib.hid (G4.out.grown k5 (fun k e => by cases e; omega))
       have B5 := Lib.hid (B4.out.grown k5 (by simp; omega))
       obtain ⟨n0, n1, _, _⟩ := N5.two
       obtain ⟨c0, c1, c2, c3, _⟩ := B5.out.four
       clear k5 N5)
    | (go_at_call 42; go_must (refine (HTH.out _ G5.out).mono ?_); rintro e w6 ⟨rfl, g6⟩
       have G6 := Lib.hid (G5.out.trans g6))
    | fail)
  go_ret
  exact ⟨rfl, G6.out⟩
end Go.Proofs.Ytnafhjgfkofkbaa
/- Layer 11 (skip): Get; New. -/
namespace Go.Proofs.Ytnafhjgfkofkbaa
set_option linter.unusedVariables false
set_option linter.unusedSimpArgs false
open Go.RowKit Ikey Varint
def clampF (s : Int) : Int := min (max s 0) 72057594037927935
def getN (B : List Nd) (key : List UInt8) (s : Int) : Option Ce :=
  match firstN 0 B with
  | some x => if 0 ≤ s ∧ x.c.key = key then some x.c else none
  | none => none
def zeC : Value := .agg #[.string ⟨#[]⟩, .int .i64 0, .int .i64 0, .string ⟨#[]⟩]
def ceO : Option Ce → Value
  | some c => .tuple #[ceV c, .int .i64 0]
  | none => .tuple #[zeC, .int .i64 7]
set_option maxRecDepth 100000 in
set_option maxHeartbeats 4000000 in
theorem Get_any (w : World) (S : Nat → Prop) (g gl : Nat) (p : PoolF) (L : Ls) (A B : List Nd) (key : List UInt8) (s : Int) (h : Sk w S g gl p L) (st : SkSt p L.r L.gen L.hd (A ++ B)) (full : ∀ x ∈ A ++ B, x.h = x.t) (hfd : L.fd = false)
    (hA : ∀ x ∈ A, vless x.c.vr ⟨key, clampF s, 1⟩ = true) (hB : ∀ x ∈ B, vless x.c.vr ⟨key, clampF s, 1⟩ = false) :
    Calls Try.prog 27 #[.pointer (some ⟨gl, 0, none⟩), .string (str key), .int .i64 s] w fun e w' => e = .returned (ceO (getN B key s)) ∧ Gr w w' := by
  have HBE := Lib.hid (fun w' (hg : Gr w w') => behind_any w' S g gl p L A B ⟨key, clampF s, 1⟩ (h.gr hg) st full hA hB)
  obtain ⟨R, hR⟩ : ∃ R : Nat → Nat × Nat, R = fun k => linkF (lastN k A) := ⟨_, rfl⟩
  rw [← hR] at HBE
  have hcl : clampF s = min (max s 0) 72057594037927935 := rfl
  have G1 := Lib.hid (Gr.alloc w (.cells #[.string ⟨#[]⟩, .int .i64 0, .int .i64 0, .string ⟨#[]⟩] 41))
  have B1 := Lib.hid (Blk.new w 41 #[.string ⟨#[]⟩, .int .i64 0, .int .i64 0, .string ⟨#[]⟩])
  obtain ⟨_, _, _, c30⟩ := lst_tail (h.gr G1.out).blk
  rw [hfd] at c30
  simp only at HBE
  rw [hcl] at HBE
  unfold ver at HBE
  clear hR hcl hA hB
  cases hf : firstN 0 B with
  | none =>
    have HX := Lib.hid (show getN B key s = none by unfold getN; rw [hf])
    rw [hf] at HBE
    unfold linkF lnk at HBE
    simp only at HBE
    clear hf st full h
    go_enter Try.func27, Try.ntmps27
    go_wp2_with (first
      | (go_at_call 41; go_must (refine (HBE.out _ G1.out).mono ?_); rintro e w3 ⟨rfl, g3⟩
         have G3 := Lib.hid (G1.out.trans g3)
         have B3 := Lib.hid (B1.out.gr g3)
         have P3 := Lib.hid (Blk.of2a (w := w3) (cs := (rowV (fun _ => (0, 0)) 12).toArray) (t := 78) (o := .cells #[.int .i64 0, .int .i64 0] 77) (Gr.refl _))
         have N3 := Lib.hid (Blk.of2b (w := w3) (o := .cells (rowV (fun _ => (0, 0)) 12).toArray 78) (cs := #[.int .i64 0, .int .i64 0]) (t := 77) (Gr.refl _)))
      | ((with_reducible show Go.wpList _ _ _ (Oper.mk _ (Op.store 78 _ _) _ _ _ _ :: _) _ _); go_must (refine wp_store_row rfl _ _ _ rfl rfl (cs' := rowV R 12) rfl P3.out (n := 24) (by kernel_rfl) (rowV_len _ 12) (rowV_len _ 12) (rowV_one _ 12) ?_); intro w4 P4 k4
         have hw3 := G3.out.size
         have hbx := B3.out.lt
         have G4 := Lib.hid ((G3.out.trans ((Gr.alloc w3 (.cells (rowV (fun _ => (0, 0)) 12).toArray 78)).trans (Gr.alloc _ (.cells #[.int .i64 0, .int .i64 0] 77)))).grown k4 (fun k e => by cases e; exact hw3))
         have N4 := Lib.hid (N3.out.grown k4 (by simp))
         have B4 := Lib.hid (((B3.out.alloc (.cells (rowV (fun _ => (0, 0)) 12).toArray 78)).alloc (.cells #[.int .i64 0, .int .i64 0] 77)).grown k4 (by simp; omega))
         clear k4 P4)
      | ((with_reducible show Go.wpList _ _ _ (Oper.mk _ (Op.store 77 _ _) _ _ _ _ :: _) _ _); go_must (refine wp_store_row rfl _ _ _ rfl rfl (cs' := [.int .i64 0, .int .i64 0]) rfl N4.out (n := 2) (by kernel_rfl) rfl rfl (fun v hv => by simp at hv; rcases hv with rfl | rfl <;> rfl) ?_); intro w5 N5 k5
         have G5 := Lib.hid (G4.out.grown k5 (fun k e => by cases e; omega))
         have B5 := Lib.hid (B4.out.grown k5 (by simp; omega))
         obtain ⟨n0, n1, _, _⟩ := N5.two
         obtain ⟨d0, d1, d2, d3, e0, e1, e2, e3⟩ := B5.out.four
         clear k5 N5)
      | fail)
    refine bodyPost_ret (v := ceO none) (by unfold ceO zeC; simp [results, Try.results27, go_sem, d0, d1, d2, d3]; try rfl) rfl ⟨by rw [HX.out], ?_⟩
    have hk : w.heap.size ≤ w.heap.size := Nat.le_refl _
    exact (((G5.out.setCell hk _).setCell hk _).setCell hk _).setCell hk _
  | some x =>
    obtain ⟨a1, b1, eB, _, _⟩ := firstN_some hf
    have hN : A ++ B = (A ++ a1) ++ x :: b1 := by rw [eB]; simp
    have hxm : x ∈ A ++ B := by rw [hN]; simp
    obtain ⟨n1, _⟩ := st.node x hxm
    have hs14 := (nd_size n1).1
    have hbl := nodeB_len x.t (fun k => linkF (firstN k b1)) x.c
    have HLD := Lib.hid (fun w' (hg' : Gr w w') => lload_any w' S g gl p L (x.off, x.size) _ (h.gr hg') (st.ld _ x b1 hN) (by omega))
    have HCE := Lib.hid (fun b cap w' hc hcm hb => cell_any b 0 cap _ x.t (fun k => linkF (firstN k b1)) x.c w' n1.t1 n1.t2 n1.ok n1.vl rfl hc hcm hb)
    have hxz : ((x.size : Int) == 0) = false := by rw [beq_eq_false_iff_ne]; omega
    have HX := Lib.hid (show getN B key s = if 0 ≤ s ∧ x.c.key = key then some x.c else none by unfold getN; rw [hf])
    rw [hf] at HBE
    have hlk : linkF (some x) = (x.off, x.size) := rfl
    rw [hlk] at HBE
    unfold lnk at HLD HBE
    unfold ceV at HCE
    simp only at HLD HCE HBE
    generalize nodeB x.t (fun k => linkF (firstN k b1)) x.c = bb at *
    clear hf eB hN hxm n1 hbl hlk st full h
    by_cases hs0 : s < 0
    · have HX2 := Lib.hid (show getN B key s = none by rw [HX.out, if_neg (fun e => by omega)])
      go_enter Try.func27, Try.ntmps27
      go_wp2_with (first
        | (go_at_call 41; go_must (refine (HBE.out _ G1.out).mono ?_); rintro e w3 ⟨rfl, g3⟩
           have G3 := Lib.hid (G1.out.trans g3)
           have B3 := Lib.hid (B1.out.gr g3)
           have P3 := Lib.hid (Blk.of2a (w := w3) (cs := (rowV (fun _ => (0, 0)) 12).toArray) (t := 78) (o := .cells #[.int .i64 0, .int .i64 0] 77) (Gr.refl _))
           have N3 := Lib.hid (Blk.of2b (w := w3) (o := .cells (rowV (fun _ => (0, 0)) 12).toArray 78) (cs := #[.int .i64 0, .int .i64 0]) (t := 77) (Gr.refl _)))
        | ((with_reducible show Go.wpList _ _ _ (Oper.mk _ (Op.store 78 _ _) _ _ _ _ :: _) _ _); go_must (refine wp_store_row rfl _ _ _ rfl rfl (cs' := rowV R 12) rfl P3.out (n := 24) (by kernel_rfl) (rowV_len _ 12) (rowV_len _ 12) (rowV_one _ 12) ?_); intro w4 P4 k4
           have hw3 := G3.out.size
           have hbx := B3.out.lt
           have G4 := Lib.hid ((G3.out.trans ((Gr.alloc w3 (.cells (rowV (fun _ => (0, 0)) 12).toArray 78)).trans (Gr.alloc _ (.cells #[.int .i64 0, .int .i64 0] 77)))).grown k4 (fun k e => by cases e; exact hw3))
           have N4 := Lib.hid (N3.out.grown k4 (by simp))
           have B4 := Lib.hid (((B3.out.alloc (.cells (rowV (fun _ => (0, 0)) 12).toArray 78)).alloc (.cells #[.int .i64 0, .int .i64 0] 77)).grown k4 (by simp; omega))
           clear k4 P4)
        | ((with_reducible show Go.wpList _ _ _ (Oper.mk _ (Op.store 77 _ _) _ _ _ _ :: _) _ _); go_must (refine wp_store_row rfl _ _ _ rfl rfl (cs' := [.int .i64 (x.off : Int), .int .i64 (x.size : Int)]) rfl N4.out (n := 2) (by kernel_rfl) rfl rfl (fun v hv => by simp at hv; rcases hv with rfl | rfl <;> rfl) ?_); intro w5 N5 k5
           have G5 := Lib.hid (G4.out.grown k5 (fun k e => by cases e; omega))
           have B5 := Lib.hid (B4.out.grown k5 (by simp; omega))
           obtain ⟨n0, n1, _, _⟩ := N5.two
           obtain ⟨d0, d1, d2, d3, e0, e1, e2, e3⟩ := B5.out.four
           clear k5 N5)
        | fail)
      refine bodyPost_ret (v := ceO none) (by unfold ceO zeC; simp [results, Try.results27, go_sem, d0, d1, d2, d3]; try rfl) rfl ⟨by rw [HX2.out], ?_⟩
      have hk : w.heap.size ≤ w.heap.size := Nat.le_refl _
      exact (((G5.out.setCell hk _).setCell hk _).setCell hk _).setCell hk _
    · have hs1 : 0 ≤ s := by omega
      by_cases hk : x.c.key = key
      · have HX2 := Lib.hid (show getN B key s = some x.c by rw [HX.out, if_pos ⟨hs1, hk⟩])
        subst hk
        go_enter Try.func27, Try.ntmps27
        go_wp2_with (first
          | (go_at_call 41; go_must (refine (HBE.out _ G1.out).mono ?_); rintro e w3 ⟨rfl, g3⟩
             have G3 := Lib.hid (G1.out.trans g3)
             have B3 := Lib.hid (B1.out.gr g3)
             have P3 := Lib.hid (Blk.of2a (w := w3) (cs := (rowV (fun _ => (0, 0)) 12).toArray) (t := 78) (o := .cells #[.int .i64 0, .int .i64 0] 77) (Gr.refl _))
             have N3 := Lib.hid (Blk.of2b (w := w3) (o := .cells (rowV (fun _ => (0, 0)) 12).toArray 78) (cs := #[.int .i64 0, .int .i64 0]) (t := 77) (Gr.refl _)))
          | ((with_reducible show Go.wpList _ _ _ (Oper.mk _ (Op.store 78 _ _) _ _ _ _ :: _) _ _); go_must (refine wp_store_row rfl _ _ _ rfl rfl (cs' := rowV R 12) rfl P3.out (n := 24) (by kernel_rfl) (rowV_len _ 12) (rowV_len _ 12) (rowV_one _ 12) ?_); intro w4 P4 k4
             have hw3 := G3.out.size
             have hbx := B3.out.lt
             have G4 := Lib.hid ((G3.out.trans ((Gr.alloc w3 (.cells (rowV (fun _ => (0, 0)) 12).toArray 78)).trans (Gr.alloc _ (.cells #[.int .i64 0, .int .i64 0] 77)))).grown k4 (fun k e => by cases e; exact hw3))
             have N4 := Lib.hid (N3.out.grown k4 (by simp))
             have B4 := Lib.hid (((B3.out.alloc (.cells (rowV (fun _ => (0, 0)) 12).toArray 78)).alloc (.cells #[.int .i64 0, .int .i64 0] 77)).grown k4 (by simp; omega))
             clear k4 P4)
          | ((with_reducible show Go.wpList _ _ _ (Oper.mk _ (Op.store 77 _ _) _ _ _ _ :: _) _ _); go_must (refine wp_store_row rfl _ _ _ rfl rfl (cs' := [.int .i64 (x.off : Int), .int .i64 (x.size : Int)]) rfl N4.out (n := 2) (by kernel_rfl) rfl rfl (fun v hv => by simp at hv; rcases hv with rfl | rfl <;> rfl) ?_); intro w5 N5 k5
             have G5 := Lib.hid (G4.out.grown k5 (fun k e => by cases e; omega))
             have B5 := Lib.hid (B4.out.grown k5 (by simp; omega))
             obtain ⟨n0, n1, _, _⟩ := N5.two
             obtain ⟨d0, d1, d2, d3, e0, e1, e2, e3⟩ := B5.out.four
             clear k5 N5)
          | (go_at_call 55; go_must (refine (HLD.out _ G5.out).mono ?_); rintro e w6 ⟨v, rfl, g6, sl, rfl, gb, cap, rfl, hc1, hc2, hb⟩; have HBY := Lib.hid hb; clear hb)
          | (go_at_call 56; go_must (refine (HCE.out _ _ _ hc1 hc2 HBY.out).mono ?_); rintro e w7 ⟨rfl, g7⟩
             have G7 := Lib.hid ((G5.out.trans (g6.trans g7)).trans (Gr.alloc w7 (.cells #[.string (str x.c.key), .int .i64 (x.c.seq : Int), .int .i64 (x.c.kind : Int), .string (str x.c.val)] 41)))
             have B7 := Lib.hid ((B5.out.gr (g6.trans g7)).alloc (.cells #[.string (str x.c.key), .int .i64 (x.c.seq : Int), .int .i64 (x.c.kind : Int), .string (str x.c.val)] 41))
             have hbw7 : w.heap.size < w7.heap.size := (B5.out.gr (g6.trans g7)).lt
             obtain ⟨x0, x1, x2, x3, y0, y1, y2, y3⟩ := B7.out.four)
          | ((with_reducible show Go.wpList _ _ _ (Oper.mk _ (Op.store 41 (Operand.tmp 6) _) _ _ _ _ :: _) _ _); go_must (refine wp_store_row rfl _ _ _ rfl rfl (cs' := [.string (str x.c.key), .int .i64 (x.c.seq : Int), .int .i64 (x.c.kind : Int), .string (str x.c.val)]) rfl B7.out (n := 4) (by kernel_rfl) rfl rfl (fun v hv => by simp at hv; first | (rcases hv with rfl | rfl | rfl | rfl <;> rfl) | (rcases hv with rfl | rfl <;> rfl)) ?_); intro w8 B8 k8
             have G8 := Lib.hid (G7.out.grown k8 (fun k e => by cases e; exact Nat.le_refl _))
             obtain ⟨z0, z1, z2, z3, _⟩ := B8.four
             clear k8 B8)
          | fail)
        refine bodyPost_ret (v := ceO (some x.c)) (by unfold ceO ceV; simp [results, Try.results27, go_sem, z0, z1, z2, z3]; try rfl) rfl ⟨by rw [HX2.out], G8.out⟩
      · have HX2 := Lib.hid (show getN B key s = none by rw [HX.out, if_neg (fun e => hk e.2)])
        have b1 : (x.c.key == key) = false := by rw [beq_eq_false_iff_ne]; exact hk
        have b2 : (x.c.key != key) = true := by rw [bne_iff_ne]; exact hk
        clear hk
        go_enter Try.func27, Try.ntmps27
        go_wp2_with (first
          | (go_at_call 41; go_must (refine (HBE.out _ G1.out).mono ?_); rintro e w3 ⟨rfl, g3⟩
             have G3 := Lib.hid (G1.out.trans g3)
             have B3 := Lib.hid (B1.out.gr g3)
             have P3 := Lib.hid (Blk.of2a (w := w3) (cs := (rowV (fun _ => (0, 0)) 12).toArray) (t := 78) (o := .cells #[.int .i64 0, .int .i64 0] 77) (Gr.refl _))
             have N3 := Lib.hid (Blk.of2b (w := w3) (o := .cells (rowV (fun _ => (0, 0)) 12).toArray 78) (cs := #[.int .i64 0, .int .i64 0]) (t := 77) (Gr.refl _)))
          | ((with_reducible show Go.wpList _ _ _ (Oper.mk _ (Op.store 78 _ _) _ _ _ _ :: _) _ _); go_must (refine wp_store_row rfl _ _ _ rfl rfl (cs' := rowV R 12) rfl P3.out (n := 24) (by kernel_rfl) (rowV_len _ 12) (rowV_len _ 12) (rowV_one _ 12) ?_); intro w4 P4 k4
             have hw3 := G3.out.size
             have hbx := B3.out.lt
             have G4 := Lib.hid ((G3.out.trans ((Gr.alloc w3 (.cells (rowV (fun _ => (0, 0)) 12).toArray 78)).trans (Gr.alloc _ (.cells #[.int .i64 0, .int .i64 0] 77)))).grown k4 (fun k e => by cases e; exact hw3))
             have N4 := Lib.hid (N3.out.grown k4 (by simp))
             have B4 := Lib.hid (((B3.out.alloc (.cells (rowV (fun _ => (0, 0)) 12).toArray 78)).alloc (.cells #[.int .i64 0, .int .i64 0] 77)).grown k4 (by simp; omega))
             clear k4 P4)
          | ((with_reducible show Go.wpList _ _ _ (Oper.mk _ (Op.store 77 _ _) _ _ _ _ :: _) _ _); go_must (refine wp_store_row rfl _ _ _ rfl rfl (cs' := [.int .i64 (x.off : Int), .int .i64 (x.size : Int)]) rfl N4.out (n := 2) (by kernel_rfl) rfl rfl (fun v hv => by simp at hv; rcases hv with rfl | rfl <;> rfl) ?_); intro w5 N5 k5
             have G5 := Lib.hid (G4.out.grown k5 (fun k e => by cases e; omega))
             have B5 := Lib.hid (B4.out.grown k5 (by simp; omega))
             obtain ⟨n0, n1, _, _⟩ := N5.two
             obtain ⟨d0, d1, d2, d3, e0, e1, e2, e3⟩ := B5.out.four
             clear k5 N5)
          | (go_at_call 55; go_must (refine (HLD.out _ G5.out).mono ?_); rintro e w6 ⟨v, rfl, g6, sl, rfl, gb, cap, rfl, hc1, hc2, hb⟩; have HBY := Lib.hid hb; clear hb)
          | (go_at_call 56; go_must (refine (HCE.out _ _ _ hc1 hc2 HBY.out).mono ?_); rintro e w7 ⟨rfl, g7⟩
             have G7 := Lib.hid ((G5.out.trans (g6.trans g7)).trans (Gr.alloc w7 (.cells #[.string (str x.c.key), .int .i64 (x.c.seq : Int), .int .i64 (x.c.kind : Int), .string (str x.c.val)] 41)))
             have B7 := Lib.hid ((B5.out.gr (g6.trans g7)).alloc (.cells #[.string (str x.c.key), .int .i64 (x.c.seq : Int), .int .i64 (x.c.kind : Int), .string (str x.c.val)] 41))
             have hbw7 : w.heap.size < w7.heap.size := (B5.out.gr (g6.trans g7)).lt
             obtain ⟨x0, x1, x2, x3, y0, y1, y2, y3⟩ := B7.out.four)
          | ((with_reducible show Go.wpList _ _ _ (Oper.mk _ (Op.store 41 (Operand.tmp 6) _) _ _ _ _ :: _) _ _); go_must (refine wp_store_row rfl _ _ _ rfl rfl (cs' := [.string ⟨#[]⟩, .int .i64 0, .int .i64 0, .string ⟨#[]⟩]) rfl B7.out (n := 4) (by kernel_rfl) rfl rfl (fun v hv => by simp at hv; first | (rcases hv with rfl | rfl | rfl | rfl <;> rfl) | (rcases hv with rfl | rfl <;> rfl)) ?_); intro w8 B8 k8
             have G8 := Lib.hid (G7.out.grown k8 (fun k e => by cases e; exact Nat.le_refl _))
             obtain ⟨z0, z1, z2, z3, _⟩ := B8.four
             clear k8 B8)
          | fail)
        refine bodyPost_ret (v := ceO none) (by unfold ceO zeC; simp [results, Try.results27, go_sem, z0, z1, z2, z3]; try rfl) rfl ⟨by rw [HX2.out], G8.out⟩
end Go.Proofs.Ytnafhjgfkofkbaa
/- Layer 11 (skip): New; how many, how much; freed. -/
namespace Go.Proofs.Ytnafhjgfkofkbaa
set_option linter.unusedVariables false
set_option linter.unusedSimpArgs false
open Go.RowKit Ikey Varint
def newL (r : Nat) : Ls := ⟨r, 0, fun _ => (0, 0), 0, 0, false, false⟩
set_option maxRecDepth 100000 in
set_option maxHeartbeats 1000000 in
theorem New_list (w : World) (S : Nat → Prop) (g : Nat) (p p' : PoolF) (r : Nat) (h : PoolAt w S g p) (hp : PoolOk p) (hgen : ∀ i, i < 256 → (landAt p i).gen ≤ 1000000000) (hs : 2048 ≤ p.size) (hm : makeR p = (r, 0, p')) :
    Calls Try.prog 10 #[.pointer (some ⟨g, 0, none⟩)] w fun e w' => ∃ gl, e = .returned (.tuple #[.pointer (some ⟨gl, 0, none⟩), .int .i64 0]) ∧ Moved S g p' w w' S ∧ Blk w' gl 80 (lstV g (newL r)) ∧ w.heap.size ≤ gl ∧ ¬ S gl := by
  have HSz := Lib.hid (Size_any w S g p h)
  have HM := Lib.hid (Make_any w S g p h hp hgen)
  rw [hm] at HM
  have hlt := h.lt
  have hsb : decide ((p.size : Int) < 2048) = false := by simp; omega
  have hsI : (2048 : Int) ≤ (p.size : Int) := by omega
  have HLT := Lib.hid hlt
  clear h hp hgen hm hs hlt
  simp only at HM
  go_enter Try.func10, Try.ntmps10
  go_wp2_with (first
    | (go_at_call 38; go_must (refine HSz.out.mono ?_); rintro e w1 ⟨rfl, rfl⟩)
    | (go_at_call 39; go_must (refine HM.out.mono ?_); rintro e w2 ⟨rfl, m2⟩)
    | fail)
  go_ret2
  refine ⟨w2.heap.size, rfl, m2.gr (Gr.alloc _ _), ?_, m2.chg.size, fun e => by have := HLT.out _ e; have := m2.chg.size; omega⟩
  have := Blk.new w2 80 (lstV g (newL r)).toArray
  exact this
set_option maxRecDepth 100000 in
set_option maxHeartbeats 1000000 in
theorem New_small (w : World) (S : Nat → Prop) (g : Nat) (p : PoolF) (h : PoolAt w S g p) (hs : p.size < 2048) :
    Calls Try.prog 10 #[.pointer (some ⟨g, 0, none⟩)] w fun e w' => e = .returned (.tuple #[.pointer none, .int .i64 1]) ∧ w = w' := by
  have HSz := Lib.hid (Size_any w S g p h)
  have hsI : (p.size : Int) < 2048 := by omega
  clear h hs
  go_enter Try.func10, Try.ntmps10
  go_wp2_with (first
    | (go_at_call 38; go_must (refine HSz.out.mono ?_); rintro e w1 ⟨rfl, rfl⟩)
    | fail)
  go_ret2
  exact ⟨rfl, rfl⟩
theorem New_nil (w : World) : Calls Try.prog 10 #[.pointer none] w fun e w' => e = .returned (.tuple #[.pointer none, .int .i64 1]) ∧ w = w' := by
  go_enter Try.func10, Try.ntmps10
  go_wp2
  go_ret2
  exact ⟨rfl, rfl⟩
theorem Count_any (w : World) (g gl : Nat) (L : Ls) (h : Blk w gl 80 (lstV g L)) :
    Calls Try.prog 25 #[.pointer (some ⟨gl, 0, none⟩)] w fun e w' => e = .returned (.int .i64 (if L.fd = true then 0 else (L.cnt : Int))) ∧ w = w' := by
  obtain ⟨c0, _, _, c3⟩ := lst_tail h
  cases hd : L.fd with
  | true =>
    rw [hd] at c3
    go_enter Try.func25, Try.ntmps25
    go_wp2
    go_ret
    exact ⟨rfl, rfl⟩
  | false =>
    rw [hd] at c3
    go_enter Try.func25, Try.ntmps25
    go_wp2
    go_ret
    exact ⟨rfl, rfl⟩
theorem Weight_any (w : World) (g gl : Nat) (L : Ls) (h : Blk w gl 80 (lstV g L)) :
    Calls Try.prog 26 #[.pointer (some ⟨gl, 0, none⟩)] w fun e w' => e = .returned (.int .i64 (if L.fd = true then 0 else (L.wt : Int))) ∧ w = w' := by
  obtain ⟨_, c1, _, c3⟩ := lst_tail h
  cases hd : L.fd with
  | true =>
    rw [hd] at c3
    go_enter Try.func26, Try.ntmps26
    go_wp2
    go_ret
    exact ⟨rfl, rfl⟩
  | false =>
    rw [hd] at c3
    go_enter Try.func26, Try.ntmps26
    go_wp2
    go_ret
    exact ⟨rfl, rfl⟩
end Go.Proofs.Ytnafhjgfkofkbaa
namespace Go.Proofs.Ytnafhjgfkofkbaa
set_option linter.unusedVariables false
set_option linter.unusedSimpArgs false
open Go.RowKit Ikey Varint
def cellsN (N : List Nd) : List Ce := N.map (·.c)
def aheadC (v : Vr) (c : Ce) : Bool := vless c.vr v
/-- Insert, of a row of cells -/
def insF (C : List Ce) (fz : Bool) (k : List UInt8) (s d : Int) (v : List UInt8) (h : Int) : Nat × List Ce :=
  if chkI fz false k s d v h ≠ 0 then (chkI fz false k s d v h, C)
  else match C.dropWhile (aheadC ⟨k, s, d⟩) with
    | [] => (0, C.takeWhile (aheadC ⟨k, s, d⟩) ++ [⟨k, s.toNat, d.toNat, v⟩])
    | x :: B => if isV x ⟨k, s, d⟩ = true then (8, C) else (0, C.takeWhile (aheadC ⟨k, s, d⟩) ++ ⟨k, s.toNat, d.toNat, v⟩ :: x :: B)
def weighF : List Ce → Nat
  | [] => 0
  | c :: C => (c.key.length + c.val.length + 8) + weighF C
theorem weighF_append : ∀ A B : List Ce, weighF (A ++ B) = weighF A + weighF B
  | [], B => by simp [weighF]
  | a :: A, B => by rw [List.cons_append, weighF, weighF, weighF_append A B]; omega
/-- Get -/
def getC (C : List Ce) (key : List UInt8) (s : Int) : Option Ce :=
  match C.dropWhile (aheadC ⟨key, clampF s, 1⟩) with
  | x :: _ => if 0 ≤ s ∧ x.key = key then some x else none
  | [] => none
theorem take_map (q : Ce → Bool) : ∀ N : List Nd, (cellsN N).takeWhile q = cellsN (N.takeWhile fun x => q x.c)
  | [] => rfl
  | x :: N => by
    unfold cellsN
    rw [List.map_cons, List.takeWhile_cons, List.takeWhile_cons]
    cases h : q x.c with
    | true => simp only [if_true, List.map_cons]; congr 1; exact take_map q N
    | false => simp
theorem drop_map (q : Ce → Bool) : ∀ N : List Nd, (cellsN N).dropWhile q = cellsN (N.dropWhile fun x => q x.c)
  | [] => rfl
  | x :: N => by
    unfold cellsN
    rw [List.map_cons, List.dropWhile_cons, List.dropWhile_cons]
    cases h : q x.c with
    | true => simp only [if_true]; exact drop_map q N
    | false => simp
/-- what comes ahead of a version is a beginning of the nodes -/
theorem split_sorted (v : Vr) : ∀ {N : List Nd}, N.Pairwise Asc → (∀ x ∈ N.takeWhile (fun x => aheadC v x.c), vless x.c.vr v = true) ∧ (∀ x ∈ N.dropWhile (fun x => aheadC v x.c), vless x.c.vr v = false)
  | [], _ => ⟨fun x h => by simp at h, fun x h => by simp at h⟩
  | y :: N, h => by
    rw [List.pairwise_cons] at h
    cases hq : aheadC v y.c with
    | true =>
      obtain ⟨h1, h2⟩ := split_sorted v h.2
      rw [List.takeWhile_cons, List.dropWhile_cons]
      simp only [hq, if_true]
      refine ⟨fun x hx => ?_, h2⟩
      rcases List.mem_cons.1 hx with rfl | hx
      · exact hq
      · exact h1 x hx
    | false =>
      rw [List.takeWhile_cons, List.dropWhile_cons]
      simp only [hq, Bool.false_eq_true, if_false]
      refine ⟨fun x hx => by simp at hx, fun x hx => ?_⟩
      rcases List.mem_cons.1 hx with rfl | hx
      · exact hq
      · cases hx2 : vless x.c.vr v with
        | false => rfl
        | true =>
          have := vless_trans (h.1 x hx) hx2
          unfold aheadC at hq
          rw [this] at hq; cases hq
theorem isV_iff {c : Ce} {v : Vr} : isV c v = true ↔ c.vr = v := by
  unfold isV Ce.vr
  obtain ⟨k, s, d⟩ := v
  simp [and_assoc]
/-- a list of a law's own -/
structure Sl (w0 w : World) (S : Nat → Prop) (g gl : Nat) (p : PoolF) (L : Ls) (N : List Nd) : Prop where
  sk : Sk w S g gl p L
  st : SkSt p L.r L.gen L.hd N
  full : ∀ x ∈ N, x.h = x.t
  cnt : L.cnt = N.length
  wt : L.wt = weighF (cellsN N)
  fd : L.fd = false
  gr : Gr w0 w
  base : ∀ j, S j → w0.heap.size ≤ j
  bl : w0.heap.size ≤ gl
theorem Sl.more {w0 w w' : World} {S : Nat → Prop} {g gl : Nat} {p : PoolF} {L : Ls} {N : List Nd} (h : Sl w0 w S g gl p L N) (k : Gr w w') : Sl w0 w' S g gl p L N :=
  ⟨h.sk.gr k, h.st, h.full, h.cnt, h.wt, h.fd, h.gr.trans k, h.base, h.bl⟩
theorem weigh_le {p : PoolF} {r gen : Nat} {hd : Nat → Nat × Nat} : ∀ {N : List Nd}, (∀ x ∈ N, NdOk x) → weighF (cellsN N) ≤ 1100 * N.length
  | [], _ => by simp [cellsN, weighF]
  | x :: N, h => by
    have h1 := weigh_le (p := p) (r := r) (gen := gen) (hd := hd) (N := N) (fun y hy => h y (List.mem_cons_of_mem _ hy))
    have h2 := nd_size (h x List.mem_cons_self)
    have h3 := (h x List.mem_cons_self).vl
    unfold cellsN at h1 ⊢
    rw [List.map_cons, weighF, List.length_cons]
    omega
/-- what a list's call does to a law's world -/
structure Did (S : Nat → Prop) (gl : Nat) (w w' : World) (S' : Nat → Prop) : Prop where
  chg : Chg (fun j => S j ∨ j = gl) w w'
  sub : ∀ j, S' j → S j ∨ w.heap.size ≤ j
theorem Did.of_gr {S : Nat → Prop} {gl : Nat} {w w' : World} (h : Gr w w') : Did S gl w w' S := ⟨h.chg, fun _ hj => .inl hj⟩
theorem Did.gr {S S' : Nat → Prop} {gl : Nat} {w0 w w' : World} (h : Did S gl w w' S') (k : Gr w0 w) (hb : ∀ j, S j → w0.heap.size ≤ j) (hl : w0.heap.size ≤ gl) : Gr w0 w' :=
  h.chg.gr k (fun j hj => by
    rcases hj with hj | rfl
    · exact hb j hj
    · exact hl)
theorem Insert_sl {w0 w : World} {S : Nat → Prop} {g gl : Nat} {p : PoolF} {L : Ls} {N : List Nd} (h : Sl w0 w S g gl p L N) (k : List UInt8) (s d : Int) (v : List UInt8) (t : Int) (hv : v.length ≤ 9223372036854775807) (hi : 1 ≤ countF p) (hN : N.length ≤ 1000) :
    Calls Try.prog 12 #[.pointer (some ⟨gl, 0, none⟩), celV k s d v, .int .i64 t] w fun e w' => e = .returned (.int .i64 ((insF (cellsN N) L.fz k s d v t).1 : Int)) ∧
      ∃ p' S' L' N', Sl w0 w' S' g gl p' L' N' ∧ cellsN N' = (insF (cellsN N) L.fz k s d v t).2 ∧ N'.length ≤ N.length + 1 ∧ (∀ x ∈ N, x ∈ N') ∧ L'.fz = L.fz ∧ L'.r = L.r ∧ Kp L.r p p' ∧ countF p ≤ countF p' + 1 ∧ Did S gl w w' S' := by
  by_cases hc : chkI L.fz false k s d v t = 0
  case neg =>
    have hI : insF (cellsN N) L.fz k s d v t = (chkI L.fz false k s d v t, cellsN N) := by unfold insF; rw [if_pos hc]
    rw [hI]
    refine (Insert_no w g gl L h.sk.blk k s d v t hv _ (by rw [h.fd]) hc).mono ?_
    rintro e w' ⟨h1, h2⟩
    exact ⟨h1, p, S, L, N, h.more h2, rfl, Nat.le_succ _, fun x hx => hx, rfl, rfl, Kp.refl _ _, Nat.le_succ _, Did.of_gr h2⟩
  case pos =>
    have hck := hc
    unfold chkI at hck
    have hfz : (L.fz || false) = false := by
      cases hb : (L.fz || false) with
      | false => rfl
      | true => rw [hb] at hck; simp at hck
    rw [hfz, if_neg (by decide)] at hck
    have hnb : ¬ (okV k s d = false ∨ t < 1 ∨ 12 < t) := fun e => by rw [if_pos e] at hck; cases hck
    rw [if_neg hnb] at hck
    have hv1 : v.length ≤ 1000 := by
      by_cases e : 1000 < v.length
      · rw [if_pos e] at hck; cases hck
      · omega
    have hok : okV k s d = true := by
      cases e : okV k s d with
      | true => rfl
      | false => exact absurd (.inl e) hnb
    have ht1 : 1 ≤ t := by have : ¬ t < 1 := fun e => hnb (.inr (.inl e)); omega
    have ht2 : t ≤ 12 := by have : ¬ 12 < t := fun e => hnb (.inr (.inr e)); omega
    obtain ⟨o1, o2, o3, o4, o5⟩ := okV_of hok
    have es : s = ((s.toNat : Nat) : Int) := by omega
    have ed : d = ((d.toNat : Nat) : Int) := by omega
    have et : t = ((t.toNat : Nat) : Int) := by omega
    have hvr : (⟨k, s.toNat, d.toNat, v⟩ : Ce).vr = ⟨k, s, d⟩ := by unfold Ce.vr; simp only; rw [← es, ← ed]
    obtain ⟨hA, hB⟩ := split_sorted ⟨k, s, d⟩ h.st.sorted
    have hsp : N = N.takeWhile (fun x => aheadC ⟨k, s, d⟩ x.c) ++ N.dropWhile (fun x => aheadC ⟨k, s, d⟩ x.c) := (List.takeWhile_append_dropWhile).symm
    have htk := take_map (aheadC ⟨k, s, d⟩) N
    have hdr := drop_map (aheadC ⟨k, s, d⟩) N
    generalize N.takeWhile (fun x => aheadC ⟨k, s, d⟩ x.c) = A at *
    generalize N.dropWhile (fun x => aheadC ⟨k, s, d⟩ x.c) = B at *
    have hck2 : chkI L.fz L.fd k ((s.toNat : Nat) : Int) ((d.toNat : Nat) : Int) v t = 0 := by rw [← es, ← ed, h.fd]; exact hc
    have hwt : L.wt ≤ 1000000000 := by
      have := weigh_le (p := p) (r := 0) (gen := 0) (hd := L.hd) (fun x hx => (h.st.node x hx).1)
      rw [h.wt]; omega
    have hcn : L.cnt ≤ 1000000 := by rw [h.cnt]; omega
    have stN := h.st
    have fullN := h.full
    rw [hsp] at stN fullN
    have ok : ∀ (hBs : ∀ x ∈ B, vless (⟨k, s.toNat, d.toNat, v⟩ : Ce).vr x.c.vr = true) (hI : insF (cellsN N) L.fz k s d v t = (0, cellsN A ++ ⟨k, s.toNat, d.toNat, v⟩ :: cellsN B)),
        Calls Try.prog 12 #[.pointer (some ⟨gl, 0, none⟩), celV k s d v, .int .i64 t] w fun e w' => e = .returned (.int .i64 ((insF (cellsN N) L.fz k s d v t).1 : Int)) ∧
      ∃ p' S' L' N', Sl w0 w' S' g gl p' L' N' ∧ cellsN N' = (insF (cellsN N) L.fz k s d v t).2 ∧ N'.length ≤ N.length + 1 ∧ (∀ x ∈ N, x ∈ N') ∧ L'.fz = L.fz ∧ L'.r = L.r ∧ Kp L.r p p' ∧ countF p ≤ countF p' + 1 ∧ Did S gl w w' S' := by
      intro hBs hI
      rw [hI]
      have := Insert_ok w S g gl p L A B ⟨k, s.toNat, d.toNat, v⟩ t.toNat h.sk stN fullN (by simpa using hfz) h.fd (by omega) (by omega) (by rw [← es, ← ed]; exact hok) hv1 (fun x hx => by rw [hvr]; exact hA x hx) hBs hi hcn hwt
      simp only at this
      rw [← es, ← ed, ← et] at this
      refine this.mono ?_
      rintro e w' ⟨h1, p', S', hd', o, s1, s2, s3, s4, s5, s6⟩
      have did : Did S gl w w' S' := ⟨s5, s6⟩
      refine ⟨h1, p', S', _, _, ⟨s1, s2, fun x hx => ?_, ?_, ?_, rfl, did.gr h.gr h.base h.bl, fun j hj => ?_, h.bl⟩, by simp [cellsN], by rw [hsp]; simp; omega, fun x hx => ?_, (by simpa using hfz.symm), rfl, s3, s4, did⟩
      · rw [List.mem_append, List.mem_cons] at hx
        rcases hx with hx | rfl | hx
        · exact fullN x (List.mem_append_left _ hx)
        · rfl
        · exact fullN x (List.mem_append_right _ hx)
      · show L.cnt + 1 = _
        rw [h.cnt, hsp]; simp; omega
      · show L.wt + _ = _
        rw [h.wt, hsp]
        simp only [cellsN, List.map_append, List.map_cons, weighF_append, weighF]
        omega
      · rcases s6 j hj with h2 | h2
        · exact h.base j h2
        · exact Nat.le_trans h.gr.size h2
      · rw [hsp] at hx
        rcases List.mem_append.1 hx with hx | hx
        · exact List.mem_append_left _ hx
        · exact List.mem_append_right _ (List.mem_cons_of_mem _ hx)
    cases B with
    | nil =>
      refine ok (fun x hx => by simp at hx) ?_
      unfold insF
      rw [if_neg (fun e => e hc), hdr, htk]
      rfl
    | cons x B =>
      by_cases hx : isV x.c ⟨k, s, d⟩ = true
      · have hI : insF (cellsN N) L.fz k s d v t = (8, cellsN N) := by
          unfold insF
          rw [if_neg (fun e => e hc), hdr]
          show (if isV x.c ⟨k, s, d⟩ = true then _ else _) = _
          rw [if_pos hx]
        rw [hI]
        have := Insert_there w S g gl p L A B x ⟨k, s.toNat, d.toNat, v⟩ t h.sk stN fullN hck2 hv1 (fun x hx => by rw [hvr]; exact hA x hx) (fun x hx => by rw [hvr]; exact hB x hx) (by rw [hvr]; exact hx)
        simp only at this
        rw [← es, ← ed] at this
        refine this.mono ?_
        rintro e w' ⟨h1, h2⟩
        exact ⟨h1, p, S, L, N, h.more h2, rfl, Nat.le_succ _, fun x hx => hx, rfl, rfl, Kp.refl _ _, Nat.le_succ _, Did.of_gr h2⟩
      · have hxl : vless (⟨k, s, d⟩ : Vr) x.c.vr = true := by
          have h1 : (⟨k, s, d⟩ : Vr) ≠ x.c.vr := fun e => hx (isV_iff.2 e.symm)
          rw [vless_tri h1, hB x List.mem_cons_self]
          rfl
        refine ok (fun y hy => ?_) ?_
        · rw [hvr]
          rcases List.mem_cons.1 hy with rfl | hy
          · exact hxl
          · have hs := h.st.sorted
            rw [hsp] at hs
            exact vless_trans hxl ((pair_at hs).2 y hy)
        · unfold insF
          rw [if_neg (fun e => e hc), hdr, htk]
          show (if isV x.c ⟨k, s, d⟩ = true then _ else _) = _
          rw [if_neg hx]
          rfl
theorem firstN_zero {B : List Nd} (h : ∀ x ∈ B, 0 < x.h) : firstN 0 B = B.head? := by
  cases B with
  | nil => rfl
  | cons x B => rw [firstN_cons, if_pos (h x List.mem_cons_self)]; rfl
theorem Get_sl {w0 w : World} {S : Nat → Prop} {g gl : Nat} {p : PoolF} {L : Ls} {N : List Nd} (h : Sl w0 w S g gl p L N) (key : List UInt8) (s : Int) :
    Calls Try.prog 27 #[.pointer (some ⟨gl, 0, none⟩), .string (str key), .int .i64 s] w fun e w' => e = .returned (ceO (getC (cellsN N) key s)) ∧ Gr w w' := by
  obtain ⟨hA, hB⟩ := split_sorted ⟨key, clampF s, 1⟩ h.st.sorted
  have hsp : N = N.takeWhile (fun x => aheadC ⟨key, clampF s, 1⟩ x.c) ++ N.dropWhile (fun x => aheadC ⟨key, clampF s, 1⟩ x.c) := (List.takeWhile_append_dropWhile).symm
  have hdr := drop_map (aheadC ⟨key, clampF s, 1⟩) N
  generalize N.takeWhile (fun x => aheadC ⟨key, clampF s, 1⟩ x.c) = A at *
  generalize N.dropWhile (fun x => aheadC ⟨key, clampF s, 1⟩ x.c) = B at *
  have stN := h.st
  have fullN := h.full
  rw [hsp] at stN fullN
  have := Get_any w S g gl p L A B key s h.sk stN fullN h.fd hA hB
  have e : getN B key s = getC (cellsN N) key s := by
    unfold getN getC
    rw [hdr, firstN_zero (fun x hx => by
      have h1 := fullN x (List.mem_append_right _ hx)
      have h2 := (stN.node x (List.mem_append_right _ hx)).1.t1
      omega)]
    cases B <;> rfl
  rw [e] at this
  exact this
end Go.Proofs.Ytnafhjgfkofkbaa
