/- Layer 16 (keep): keys and weight walked. -/
import Derived.Test.YtpaogoehgkoaeaaGreatDoorKeepM
import Derived.Test.YtpaogoehgkoaeaaGreatDoorTabRuns
namespace Go.Proofs.YtpaogoehgkoaeaaGreatDoor
set_option linter.unusedVariables false
set_option linter.unusedSimpArgs false
open Go.RowKit Tab
theorem src_cv {u e' : TypeId} {w : World} {ad : Option Addr} {n cap : Nat} {l : List Ci} (h : Row w ad (cv l)) (hn : n = l.length) (hu : Tryz.prog.underlying u = some (.slice e')) : Src Tryz.prog u w 4 (.slice ad n cap) n (cv l) :=
  ⟨by rw [cv_length, hn], cv_one l, .inl ⟨ad, cap, _, rfl, h, hu⟩⟩
theorem flat_take {G : List (List Ci)} (i : Nat) : (G.take i).flatten.length ≤ G.flatten.length := by
  have h := congrArg List.length (congrArg List.flatten (List.take_append_drop i G))
  rw [List.flatten_append, List.length_append] at h
  omega
theorem grp_get {G : List (List Ci)} {i : Nat} (h : i < G.length) : G[i].length ≤ G.flatten.length := by
  have h1 : (G.take (i + 1)).flatten.length ≤ G.flatten.length := flat_take _
  have h2 : ((some G[i]).toList).flatten.length = G[i].length := by simp
  rw [List.take_add_one, List.getElem?_eq_getElem h, List.flatten_append, List.length_append, h2] at h1
  omega
theorem grp_count : ∀ {A : List (List Ci)}, (∀ g ∈ A, g ≠ []) → A.length ≤ A.flatten.length
  | [], _ => Nat.le_refl _
  | g :: A, h => by
    have h1 := grp_count (A := A) (fun x hx => h x (List.mem_cons_of_mem _ hx))
    have h2 := h g (by simp)
    have h3 : 1 ≤ g.length := by
      cases g with
      | nil => exact absurd rfl h2
      | cons => simp
    rw [List.flatten_cons, List.length_append, List.length_cons]
    omega
theorem group_emit {l : List Ci} {i : Nat} {now : List Ci} (hi : i < l.length) (h : i + 1 = l.length ∨ ∃ h2 : i + 1 < l.length, l[i + 1].key ≠ l[i].key) : groupG now (l.drop i) = (now ++ [l[i]]) :: groupG [] (l.drop (i + 1)) := by
  rw [List.drop_eq_getElem_cons hi, groupG, if_pos]
  rcases h with h | ⟨h2, h⟩
  · exact .inl (List.drop_eq_nil_of_le (by omega))
  · refine .inr ?_
    rw [List.drop_eq_getElem_cons h2]
    exact h
theorem group_on {l : List Ci} {i : Nat} {now : List Ci} (hi : i < l.length) (h2 : i + 1 < l.length) (h : l[i + 1].key = l[i].key) : groupG now (l.drop i) = groupG (now ++ [l[i]]) (l.drop (i + 1)) := by
  rw [List.drop_eq_getElem_cons hi, groupG, if_neg]
  rintro (k | k)
  · have := List.drop_eq_nil_iff.1 k; omega
  · rw [List.drop_eq_getElem_cons h2] at k
    exact k h
/-- while the groups are laid -/
structure KeI (w : World) (l : List Ci) (i f : Nat) (out : List (List Ci)) (ado : Option Addr) (co : Nat) (wr : World) : Prop where
  eq : groupF l = out ++ groupG ((l.drop f).take (i - f)) (l.drop i)
  own : ∃ vs, Owns wr w.heap.size 22 1 ado co out.length vs ∧ SlsOf out vs w
  gr : Gr w wr
  len : out.length ≤ i
  f : f ≤ i
set_option maxRecDepth 100000 in
set_option maxHeartbeats 4000000 in
theorem kkeys_any (ad : Option Addr) (cap : Nat) (l : List Ci) (w : World) (hr : Row w ad (cv l)) (hl : l.length ≤ 5000) (hc : l.length ≤ cap) :
    Calls Tryz.prog 39 #[.slice ad l.length cap] w (RetL w (groupF l)) := by
  have HR := Lib.hid hr
  have HI0 := Lib.hid (show KeI w l 0 0 [] none 0 w from ⟨by simp [groupF], ⟨[], Owns.empty _ _ _ _, SlsOf.nil _⟩, Gr.refl _, Nat.zero_le _, Nat.le_refl _⟩)
  clear hr
  go_enter Tryz.func39, Tryz.ntmps39
  go_wp2
  go_loopw [3, 4, 8] (fun vo vf vi wr => ∃ (i f : Nat) (out : List (List Ci)) (ado : Option Addr) (co : Nat), vi = .int .i64 (i : Int) ∧ vf = .int .i64 (f : Int) ∧ vo = .slice ado out.length co ∧ i ≤ l.length ∧ KeI w l i f out ado co wr) (fun _ _ vi _ => l.length - (intOf vi).toNat)
  case atStart => exact ⟨0, 0, [], none, 0, rfl, rfl, rfl, Nat.zero_le _, HI0.out⟩
  case round =>
    clear HI0
    obtain ⟨i, f, out, ado, co, rfl, rfl, rfl, hi, hI⟩ := hrel
    by_cases hlt : i < l.length
    · obtain ⟨b, off, hade, e0, _, _, _⟩ := (HR.out.gr hI.gr).ci i hlt
      subst hade
      have HEm := Lib.hid (group_emit (now := (l.drop f).take (i - f)) hlt)
      have HOn := Lib.hid (group_on (now := (l.drop f).take (i - f)) hlt)
      have HNow := Lib.hid (runs_now hI.f hlt)
      have HSub := Lib.hid (HR.out.sub_cv f (i + 1 - f))
      have hl9 := hI.len
      have hf9 := hI.f
      obtain ⟨vs, hO, hS⟩ := hI.own
      have HEq := Lib.hid hI.eq
      have HGr := Lib.hid hI.gr
      have HO := Lib.hid hO
      have HS := Lib.hid hS
      have hgs := hI.gr.size
      have HN := Lib.hid (fun h2 : i + 1 < l.length => (HR.out.gr hI.gr).ci (i + 1) h2)
      clear hI hO hS
      have m1 : out.length + 1 ≤ maxLen := by unfold maxLen; omega
      have m2 : (out.length + 1) * 24 ≤ 140737488355328 := by omega
      have hw1 : IntKind.i64.wrap ((i : Int) + 1) = (i : Int) + 1 := by rw [IntKind.wrap_i64]; omega
      have hw2 : (0 : Int) ≤ (i : Int) + 1 := by omega
      have hw3 : ((i : Int) + 1).toNat = i + 1 := by omega
      by_cases hlast : i + 1 = l.length
      · have hem := HEm.out (.inl hlast)
        have hb2 : ((i : Int) + 1 == (l.length : Int)) = true := by simp; omega
        clear HEm HOn HN e0 hlast
        go_upto_region 6 with (fail)
        have HEm := Lib.hid hem
        clear hem
        go_quiet (fail)
        clear hw1 hw2 hw3
        generalize hgn : wr.drewN _ = wq at *
        have gq : Gr wr wq := by rw [← hgn]; exact Gr.drewN _ _
        clear hgn
        have HGq := Lib.hid gq
        have hgs2 := gq.size
        clear gq
        go_wp2_with (first
          | (at_builtin; go_must (refine wp_append elemL rfl _ _ rfl rfl ((HO.out.gr HGq.out).gr (Gr.alloc _ _)) rfl (src_cellg _ (.slice (some ⟨b, off + f * 4, none⟩) (i + 1 - f) (cap - f)) rfl Tryz.underlying27 _ (by simp)) m1 m2 (by simp; omega) ?_); intro ad5 c5 w5 o5 k5 f5
             have HO5 := Lib.hid o5; have HK5 := Lib.hid k5
             clear o5 k5 f5)
          | fail)
        go_roundw
        case rel =>
          have G5 := ((HGr.out.trans HGq.out).trans (Gr.alloc _ _)).grown HK5.out (fun k hk => by
            obtain ⟨y, hy, e⟩ := Option.map_eq_some_iff.1 hk
            exact e ▸ (HO.out.lt y hy).1)
          refine ⟨i + 1, i + 1, out ++ [(l.drop f).take (i + 1 - f)], ad5, c5, by go_num, by go_num, by simp, hlt, ⟨?_, ⟨_, by rw [List.length_append]; exact HO5.out, ?_⟩, G5, by simp; omega, Nat.le_refl _⟩⟩
          · rw [HEq.out, HEm.out, HNow.out, Nat.sub_self, List.take_zero, List.append_assoc]; rfl
          · exact SlsOf.snoc HS.out ⟨_, _, by rw [List.length_take, List.length_drop]; congr 1; omega, by rw [List.length_take, List.length_drop]; omega, HSub.out⟩
        case measure => simp [intOf]; omega
      · have h2 : i + 1 < l.length := by omega
        obtain ⟨b', off', ee, z0, _, _, _⟩ := HN.out h2
        cases ee
        have hb2 : ((i : Int) + 1 == (l.length : Int)) = false := by simp; omega
        by_cases hk : l[i + 1].key = l[i].key
        · have HOn2 := Lib.hid (HOn.out h2 hk)
          rw [hk] at z0
          generalize l[i].key = k0 at z0 e0
          clear HEm HOn HN hlast hk
          go_upto_region 6 with (fail)
          go_quiet (fail)
          clear hw1 hw2 hw3
          generalize hgn : wr.drewN _ = wq at *
          have gq : Gr wr wq := by rw [← hgn]; exact Gr.drewN _ _
          clear hgn
          have HGq := Lib.hid gq
          clear gq
          go_wp2
          go_roundw
          case rel => exact ⟨i + 1, f, out, ado, co, by go_num, rfl, rfl, hlt, ⟨by rw [HEq.out, HOn2.out, HNow.out], ⟨vs, HO.out.gr HGq.out, HS.out⟩, HGr.out.trans HGq.out, by omega, by omega⟩⟩
          case measure => simp [intOf]; omega
        · have hem := HEm.out (.inr ⟨h2, hk⟩)
          have hs1 : (l[i + 1].key == l[i].key) = false := by rw [beq_eq_false_iff_ne]; exact hk
          have hs2 : (l[i + 1].key != l[i].key) = true := by rw [bne_iff_ne]; exact hk
          generalize l[i + 1].key = k1 at z0 hs1 hs2
          generalize l[i].key = k0 at e0 hs1 hs2
          clear HEm HOn HN hlast hk
          go_upto_region 6 with (fail)
          have HEm := Lib.hid hem
          clear hem
          go_quiet (fail)
          clear hw1 hw2 hw3
          generalize hgn : wr.drewN _ = wq at *
          have gq : Gr wr wq := by rw [← hgn]; exact Gr.drewN _ _
          clear hgn
          have HGq := Lib.hid gq
          have hgs2 := gq.size
          clear gq
          go_wp2_with (first
            | (at_builtin; go_must (refine wp_append elemL rfl _ _ rfl rfl ((HO.out.gr HGq.out).gr (Gr.alloc _ _)) rfl (src_cellg _ (.slice (some ⟨b, off + f * 4, none⟩) (i + 1 - f) (cap - f)) rfl Tryz.underlying27 _ (by simp)) m1 m2 (by simp; omega) ?_); intro ad5 c5 w5 o5 k5 f5
               have HO5 := Lib.hid o5; have HK5 := Lib.hid k5
               clear o5 k5 f5)
            | fail)
          go_roundw
          case rel =>
            have G5 := ((HGr.out.trans HGq.out).trans (Gr.alloc _ _)).grown HK5.out (fun k hk => by
              obtain ⟨y, hy, e⟩ := Option.map_eq_some_iff.1 hk
              exact e ▸ (HO.out.lt y hy).1)
            refine ⟨i + 1, i + 1, out ++ [(l.drop f).take (i + 1 - f)], ad5, c5, by go_num, by go_num, by simp, hlt, ⟨?_, ⟨_, by rw [List.length_append]; exact HO5.out, ?_⟩, G5, by simp; omega, Nat.le_refl _⟩⟩
            · rw [HEq.out, HEm.out, HNow.out, Nat.sub_self, List.take_zero, List.append_assoc]; rfl
            · exact SlsOf.snoc HS.out ⟨_, _, by rw [List.length_take, List.length_drop]; congr 1; omega, by rw [List.length_take, List.length_drop]; omega, HSub.out⟩
          case measure => simp [intOf]; omega
    · obtain rfl : i = l.length := by omega
      obtain ⟨vs, hO, hS⟩ := hI.own
      have HEq := Lib.hid (show groupF l = out by rw [hI.eq, List.drop_length, groupG, List.append_nil])
      have HGr := Lib.hid hI.gr
      have HO := Lib.hid hO
      have HS := Lib.hid hS
      clear hI hO hS
      go_wp2
      go_ret
      rw [HEq.out]
      exact ⟨ado, co, vs, rfl, HO.out, HS.out.gr HGr.out, HGr.out⟩
end Go.Proofs.YtpaogoehgkoaeaaGreatDoor
