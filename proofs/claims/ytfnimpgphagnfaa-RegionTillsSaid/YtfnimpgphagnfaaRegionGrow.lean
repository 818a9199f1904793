/- Layer 1 (region): grow walked. -/
import Derived.Test.YtfnimpgphagnfaaRegionFns
import Derived.Test.YtfnimpgphagnfaaRegionPut
namespace Go.Proofs.Ytfnimpgphagnfaa
set_option linter.unusedVariables false
set_option linter.unusedSimpArgs false
open Go.RowKit
set_option maxRecDepth 100000 in
theorem grow_any (w : World) (S : Nat → Prop) (g : Nat) (p : PoolF) (i : Nat) (hi : i < 256) (h : PoolAt w S g p) (hp : PoolOk p) :
    Calls Try.prog 35 #[.pointer (some ⟨g, 0, none⟩), .pointer (some ⟨g, 3 + i * 4, none⟩)] w fun e w' =>
      match idleF p with
      | none => e = .returned (.bool false) ∧ w = w'
      | some s => e = .returned (.bool true) ∧ ∃ S', Moved S g (growAt p i s) w w' S' := by
  obtain ⟨ads, cs, adt, ct, A, C, bd, hx⟩ := h
  obtain ⟨c0, c1, c2⟩ := hx.head
  have hln := hp.ln
  have HIX := Lib.hid (Index_any w p adt ct hx.tak.row (by rw [hp.tk]; exact hp.n2))
  cases hs : idleF p with
  | none =>
    have e : idleI p = -1 := by unfold idleI; rw [hs]
    rw [e] at HIX
    clear hx hs e hp hln
    go_enter Try.func35, Try.ntmps35
    go_wp2_with (first
      | (go_at_call 42; refine HIX.out.mono ?_; rintro e w1 ⟨rfl, rfl⟩)
      | fail)
    go_ret
    exact ⟨rfl, rfl⟩
  | some s =>
    have e : idleI p = (s : Int) := by unfold idleI; rw [hs]
    rw [e] at HIX
    obtain ⟨hst, _, _⟩ := idleF_some hs
    have hsb : s < p.bytes.length := by rw [← hp.tk]; exact hst
    have hbl : (bytesAt p s).length = p.size := by
      unfold bytesAt
      rw [List.getD_eq_getElem?_getD, List.getElem?_eq_getElem hsb]
      exact hp.bl _ (List.getElem_mem hsb)
    have hsz := hp.s1
    have hcap := (hp.ld i hi).cap hp
    have hlen := Nat.le_trans (hp.ld i hi).len hp.n2
    have hsz2 := hp.s2
    obtain ⟨bt, rfl, _, hc1⟩ := hx.tak.at (taken_get _ s hst)
    have hf1 := hx.tak.unfrozen rfl (show s < p.taken.length * 1 by omega)
    have hx1 := hx.put_taken rfl hst true
    obtain ⟨d0, d1, d2⟩ := hx1.head
    have hrow : (slabV bd (setTaken p s true).size (setTaken p s true).bytes.length)[s]? = some (.slice (some ⟨bd s, 0, none⟩) p.size p.size) := by show (slabV bd p.size p.bytes.length)[s]? = _; simp [slabV, hsb]
    obtain ⟨b2, rfl, _, hc2⟩ := hx1.row.at hrow
    have HX1 := Lib.hid hx1
    have HP := Lib.hid hp
    clear hx hx1 hs e hp
    go_enter Try.func35, Try.ntmps35
    go_wp2_with (first
      | (go_at_call 42; refine HIX.out.mono ?_; rintro e w1 ⟨rfl, rfl⟩)
      | ((with_reducible show Go.wpList _ _ _ (Oper.mk _ (Op.call (Call.mk (Callee.builtin Builtin.clear) _ _)) _ _ _ _ :: _) _ _); go_must (refine wp_clear elemB rfl rfl rfl _ rfl rfl (HX1.out.slab s hsb) (by rw [bv_length]; exact hbl) (by omega) ?_); intro w2 q2 k2
         rw [bv_replicate] at q2
         have hx2 := HX1.out.put_bytes hsb (List.replicate p.size 0) q2 k2
         obtain ⟨e0, e1, e2⟩ := hx2.head
         obtain ⟨l0, l1, l2, l3⟩ := hx2.lcell hi
         have f3 := hx2.blk.frozen (3 + i * 4 + 3)
         have HX2 := Lib.hid hx2
         have HC2 := Lib.hid (Chg.trans (Chg.grown (grown_set w bt s (.bool true)) (HX1.out.stak _ rfl)) (Chg.grown k2 (HX1.out.sslab s hsb)) (fun j hj => .inl hj))
         clear hx2 q2 k2)
      | fail)
    have e0' : w2.cell? ⟨g, 0, none⟩ = some (.int .i64 (p.size : Int)) := e0
    have l2' : w2.cell? ⟨g, 3 + i * 4 + 2, none⟩ = some (.slice (A i) (landAt p i).slabs.length (C i)) := l2
    have l3' : w2.cell? ⟨g, 3 + i * 4 + 3, none⟩ = some (.int .i64 ((landAt p i).fill : Int)) := l3
    obtain ⟨m, hm⟩ : ∃ m, m = (landAt p i).slabs.length * p.size := ⟨_, rfl⟩
    have hmi : ((landAt p i).slabs.length : Int) * (p.size : Int) = (m : Int) := by rw [hm]; simp
    have hmm : m ≤ 268435456 := by rw [hm]; exact hcap
    have HM := Lib.hid hm
    have HHC := Lib.hid hcap
    clear e0 e1 e2 l0 l1 l2 l3 hm hcap c0 c1 c2 d0 d1 d2 hc1 hc2 hf1
    have hw : IntKind.i64.wrap (m : Int) = (m : Int) := by rw [IntKind.wrap_i64]; omega
    have hx3 : PX ((w2.setCell ⟨g, 3 + i * 4 + 3, none⟩ (.int .i64 (m : Int))).alloc (.cells #[.int .i64 (s : Int)] 3)).drew S g (fillAt (setBytes (setTaken p s true) s (List.replicate p.size 0)) i m) _ cs _ ct A C bd := ((HX2.out.put_fill hln hi m).gr (Gr.alloc _ _)).gr (Gr.drew _)
    have hA : landAt (fillAt (setBytes (setTaken p s true) s (List.replicate p.size 0)) i m) i = ⟨(landAt p i).there, (landAt p i).gen, (landAt p i).slabs, m⟩ := (landAt_set _ i i _ (by show i < p.lands.length; omega)).trans (if_pos rfl)
    have hlo := hx3.land i hi
    rw [hA] at hlo
    have HLO := Lib.hid hlo
    have HX3 := Lib.hid hx3
    have HA := Lib.hid hA
    have HC3 := Lib.hid (Chg.trans HC2.out (Chg.trans (Chg.grown (grown_set w2 g (3 + i * 4 + 3) (.int .i64 (m : Int))) HX2.out.sg) (((Gr.alloc _ (.cells #[.int .i64 (s : Int)] 3)).trans (Gr.drew _)).chg (S := S)) (fun j hj => .inl hj)) (fun j hj => .inl hj))
    clear hlo hx3 hA
    have hm1 : (landAt p i).slabs.length + 1 ≤ maxLen := by unfold maxLen; omega
    have hm2 : ((landAt p i).slabs.length + 1) * 8 ≤ 140737488355328 := by omega
    go_still_tail 13, (by kernel_rfl)
    clear hmi hw
    go_wp2_with (first
      | (at_builtin; go_must (refine wp_append elemI rfl _ _ rfl rfl HLO.out rfl ((src_cell _ (.int .i64 (s : Int)) _ rfl Try.underlying22 _ (by simp)).gr (Gr.drew _)) hm1 hm2 (Nat.zero_le _) ?_); intro ad5 c5 w5 o5 k5 f5
         have b5 : Blk w5 g 81 _ := HX3.out.blk.grown k5 (fun e => by
           cases hAi : A i with
           | none => rw [hAi] at e; cases e
           | some x => rw [hAi] at e; exact HX3.out.blk.owns_ne (HX3.out.land i hi) (by decide) x hAi (Option.some.inj e).symm)
         have z5 := b5.cell (poolV_land (k := 2) hi (by decide))
         have q5 := b5.frozen (3 + i * 4 + 2)
         have hmv := HX3.out.put_slab (s := s) (by show (p.lands.set i _).length = 256; rw [List.length_set]; exact hln) hi k5 (by rw [HA.out]; simpa [iv] using o5) f5
         rw [HA.out] at hmv
         have HMV := Lib.hid hmv
         clear b5 hmv o5 k5 f5)
      | fail)
    go_ret
    obtain ⟨S', hmv⟩ := HMV.out
    have e : setLand (fillAt (setBytes (setTaken p s true) s (List.replicate p.size 0)) i m) i ⟨(landAt p i).there, (landAt p i).gen, (landAt p i).slabs ++ [s], m⟩ = growAt p i s := by
      have := HM.out
      subst this
      unfold setLand fillAt setBytes setTaken growAt
      simp only [List.set_set]
    rw [e] at hmv
    exact ⟨rfl, S', hmv.after HC3.out⟩
end Go.Proofs.Ytfnimpgphagnfaa
