/- Layer 14 (table): runs walked. -/
import Derived.Test.YtpaogoehgkoaeaaGreatDoorQTabPair
namespace Go.Proofs.YtpaogoehgkoaeaaGreatDoor
set_option linter.unusedVariables false
set_option linter.unusedSimpArgs false
open Go.RowKit Tab
/-- a slice that reads as these cells -/
def SlOf (r : List Ci) (v : Value) (w : World) : Prop := ∃ ad cap, v = .slice ad r.length cap ∧ r.length ≤ cap ∧ Row w ad (cv r)
theorem SlOf.gr {r : List Ci} {v : Value} {w w' : World} (h : SlOf r v w) (k : Gr w w') : SlOf r v w' := by
  obtain ⟨ad, cap, e, hc, hr⟩ := h
  exact ⟨ad, cap, e, hc, hr.gr k⟩
/-- slices that read as these rows of cells -/
def SlsOf (L : List (List Ci)) (vs : List Value) (w : World) : Prop := vs.length = L.length ∧ ∀ i (h : i < L.length), ∃ v, vs[i]? = some v ∧ SlOf L[i] v w
theorem SlsOf.gr {L : List (List Ci)} {vs : List Value} {w w' : World} (h : SlsOf L vs w) (k : Gr w w') : SlsOf L vs w' := ⟨h.1, fun i hi => by
  obtain ⟨v, e, hv⟩ := h.2 i hi
  exact ⟨v, e, hv.gr k⟩⟩
theorem SlsOf.nil (w : World) : SlsOf [] [] w := ⟨rfl, fun i hi => by simp at hi⟩
theorem SlsOf.snoc {L : List (List Ci)} {vs : List Value} {w : World} {r : List Ci} {v : Value} (h : SlsOf L vs w) (hv : SlOf r v w) : SlsOf (L ++ [r]) (vs ++ [v]) w := by
  refine ⟨by simp [h.1], fun i hi => ?_⟩
  by_cases hi2 : i < L.length
  · obtain ⟨u, e, hu⟩ := h.2 i hi2
    exact ⟨u, by rw [List.getElem?_append_left (by rw [h.1]; exact hi2)]; exact e, by rw [List.getElem_append_left hi2]; exact hu⟩
  · have e : i = L.length := by simp at hi; omega
    subst e
    refine ⟨v, by rw [← h.1]; simp, ?_⟩
    simpa using hv
/-- rows of cells of its own -/
def RetL (w : World) (L : List (List Ci)) : Ending → World → Prop := fun x w' => ∃ ad cap vs, x = .returned (.slice ad L.length cap) ∧ Owns w' w.heap.size 22 1 ad cap L.length vs ∧ SlsOf L vs w' ∧ Gr w w'
theorem Row.sub_cv {w : World} {b off : Nat} {l : List Ci} (h : Row w (some ⟨b, off, none⟩) (cv l)) (k n : Nat) : Row w (some ⟨b, off + k * 4, none⟩) (cv ((l.drop k).take n)) := by
  rw [cv_take, cv_drop]
  exact (h.drop_ (k * 4)).take_ (n * 4)
theorem runsG_emit {size : Int} {l : List Ci} {i n : Nat} {now : List Ci} (hi : i < l.length) (h : size ≤ ((n + sizeC l[i] : Nat) : Int) ∨ i + 1 = l.length) : runsG size now n (l.drop i) = (now ++ [l[i]]) :: runsG size [] 0 (l.drop (i + 1)) := by
  rw [List.drop_eq_getElem_cons hi, runsG, if_pos]
  rcases h with h | h
  · exact .inl h
  · exact .inr (List.drop_eq_nil_of_le (by omega))
theorem runsG_on {size : Int} {l : List Ci} {i n : Nat} {now : List Ci} (hi : i < l.length) (h1 : ¬ size ≤ ((n + sizeC l[i] : Nat) : Int)) (h2 : ¬ i + 1 = l.length) : runsG size now n (l.drop i) = runsG size (now ++ [l[i]]) (n + sizeC l[i]) (l.drop (i + 1)) := by
  rw [List.drop_eq_getElem_cons hi, runsG, if_neg]
  rintro (h | h)
  · exact h1 h
  · have := List.drop_eq_nil_iff.1 h; omega
theorem runs_now {l : List Ci} {f i : Nat} (hf : f ≤ i) (hi : i < l.length) : (l.drop f).take (i - f) ++ [l[i]] = (l.drop f).take (i + 1 - f) := by
  rw [show i + 1 - f = (i - f) + 1 by omega, List.take_add_one, List.getElem?_drop, show f + (i - f) = i by omega, List.getElem?_eq_getElem hi]
  rfl
theorem src_cellg {u e e' : TypeId} (w : World) (v : Value) (hv : v.oneCell' = true) (hu : Tryz.prog.underlying u = some (.slice e')) (gb : Nat) (hg : gb = w.heap.size) :
    Src Tryz.prog u (w.alloc (.cells #[v] e)) 1 (.slice (some ⟨gb, 0, none⟩) 1 1) 1 [v] := by
  subst hg; exact src_cell w v hv hu
theorem elemL : Elem Tryz.prog 27 22 (.slice none 0 0) 1 24 := ⟨by kernel_rfl, by kernel_rfl, rfl, by decide⟩
/-- while the runs are laid -/
structure RuI (w : World) (size : Int) (l : List Ci) (i f n : Nat) (out : List (List Ci)) (ado : Option Addr) (co : Nat) (wr : World) : Prop where
  eq : runsF size l = out ++ runsG size ((l.drop f).take (i - f)) n (l.drop i)
  own : ∃ vs, Owns wr w.heap.size 22 1 ado co out.length vs ∧ SlsOf out vs w
  gr : Gr w wr
  n : n ≤ i * 2000
  len : out.length ≤ i
  f : f ≤ i
set_option maxRecDepth 100000 in
set_option maxHeartbeats 4000000 in
theorem runs_any (ad : Option Addr) (cap : Nat) (l : List Ci) (size : Int) (w : World) (hr : Row w ad (cv l)) (hl : l.length ≤ 5000) (hc : l.length ≤ cap) (hsz : ∀ c ∈ l, sizeC c ≤ 2000) :
    Calls Tryz.prog 45 #[.slice ad l.length cap, .int .i64 size] w (RetL w (runsF size l)) := by
  have HR := Lib.hid hr
  have HSZ := Lib.hid hsz
  have HI0 := Lib.hid (show RuI w size l 0 0 0 [] none 0 w from ⟨by simp [runsF], ⟨[], Owns.empty _ _ _ _, SlsOf.nil _⟩, Gr.refl _, Nat.zero_le _, Nat.zero_le _, Nat.le_refl _⟩)
  clear hr hsz
  go_enter Tryz.func45, Tryz.ntmps45
  go_wp2
  go_loopw [5, 6, 7, 13] (fun vo vn vf vi wr => ∃ (i f n : Nat) (out : List (List Ci)) (ado : Option Addr) (co : Nat), vi = .int .i64 (i : Int) ∧ vf = .int .i64 (f : Int) ∧ vn = .int .i64 (n : Int) ∧ vo = .slice ado out.length co ∧ i ≤ l.length ∧ RuI w size l i f n out ado co wr) (fun _ _ _ vi _ => l.length - (intOf vi).toNat)
  case atStart => exact ⟨0, 0, 0, [], none, 0, rfl, rfl, rfl, rfl, Nat.zero_le _, HI0.out⟩
  case round =>
    clear HI0
    obtain ⟨i, f, n, out, ado, co, rfl, rfl, rfl, rfl, hi, hI⟩ := hrel
    by_cases hlt : i < l.length
    · obtain ⟨b, off, hade, e0, e1, e2, e3⟩ := (HR.out.gr hI.gr).ci i hlt
      subst hade
      have hsc := HSZ.out l[i] (List.getElem_mem hlt)
      have HEm := Lib.hid (runsG_emit (size := size) (n := n) (now := (l.drop f).take (i - f)) hlt)
      have HOn := Lib.hid (runsG_on (size := size) (n := n) (now := (l.drop f).take (i - f)) hlt)
      have HNow := Lib.hid (runs_now hI.f hlt)
      have HSub := Lib.hid (HR.out.sub_cv f (i + 1 - f))
      have hn9 := hI.n
      have hl9 := hI.len
      have hf9 := hI.f
      obtain ⟨vs, hO, hS⟩ := hI.own
      have HEq := Lib.hid hI.eq
      have HGr := Lib.hid hI.gr
      have HO := Lib.hid hO
      have HS := Lib.hid hS
      have hgs := hI.gr.size
      have HPr := Lib.hid (fun w' => pair_any l[i] w')
      have hsl : sizeC l[i] = (pairC l[i]).1.length + l[i].val.length := rfl
      obtain ⟨K, hK⟩ : ∃ K, K = (pairC l[i]).1 := ⟨_, rfl⟩
      rw [← hK] at HPr hsl
      obtain ⟨sc, hsc2⟩ : ∃ sc, sc = sizeC l[i] := ⟨_, rfl⟩
      rw [← hsc2] at hsc hsl HEm HOn
      have hsn : (K.length : Int) + (l[i].val.length : Int) = (sc : Int) := by omega
      have hKl : K.length ≤ 2000 := by omega
      have hVl : l[i].val.length ≤ 2000 := by omega
      clear hI hK hsc2 hO hS
      generalize hx : l[i] = c at HPr HEm HOn HNow hsl hsn hVl e0 e1 e2 e3
      obtain ⟨ck, cs, cd, cval⟩ := c
      simp only at HPr hsl hsn hVl e0 e1 e2 e3
      have m1 : out.length + 1 ≤ maxLen := by unfold maxLen; omega
      have m2 : (out.length + 1) * 24 ≤ 140737488355328 := by omega
      clear hx HR HSZ hsl
      by_cases hge : size ≤ (n : Int) + (sc : Int)
      · have hem := HEm.out (.inl (by omega))
        clear HEm HOn
        have HEm := Lib.hid hem
        clear hem
        go_wp2_with (first
          | (go_at_call 93; refine (HPr.out _).mono ?_; rintro e w2 ⟨rfl, g2⟩
             have G2 := (Gr.alloc wr (.cells #[.string (str ck), .int .i64 cs, .int .i64 cd, .string (str cval)] 56)).trans g2
             have G3 := Lib.hid ((G2.trans (Gr.alloc w2 (.cells #[.string (str K), .string (str cval)] 105))).trans (Gr.alloc _ (.cells #[.slice (some ⟨b, off + f * 4, none⟩) (i + 1 - f) (cap - f)] 22)))
             clear g2 G2)
          | (at_builtin; go_must (refine wp_append elemL rfl _ _ rfl rfl (HO.out.gr G3.out) rfl (src_cellg _ (.slice (some ⟨b, off + f * 4, none⟩) (i + 1 - f) (cap - f)) rfl Tryz.underlying27 _ (by simp)) m1 m2 (Nat.le_trans hgs G3.out.size) ?_); intro ad5 c5 w5 o5 k5 f5
             have HO5 := Lib.hid o5; have HK5 := Lib.hid k5
             clear o5 k5 f5)
          | fail)
        go_roundw
        case rel =>
          have G5 := (HGr.out.trans G3.out).grown HK5.out (fun k hk => by
            obtain ⟨y, hy, e⟩ := Option.map_eq_some_iff.1 hk
            exact e ▸ (HO.out.lt y hy).1)
          refine ⟨i + 1, i + 1, 0, out ++ [(l.drop f).take (i + 1 - f)], ad5, c5, by go_num, by go_num, rfl, by simp, hlt, ⟨?_, ⟨_, by rw [List.length_append]; exact HO5.out, ?_⟩, G5, Nat.zero_le _, by simp; omega, Nat.le_refl _⟩⟩
          · rw [HEq.out, HEm.out, HNow.out, Nat.sub_self, List.take_zero, List.append_assoc]; rfl
          · exact SlsOf.snoc HS.out ⟨_, _, by rw [List.length_take, List.length_drop]; congr 1; omega, by rw [List.length_take, List.length_drop]; omega, HSub.out⟩
        case measure => simp [intOf]; omega
      · by_cases hlast : i + 1 = l.length
        · have hem := HEm.out (.inr hlast)
          have hb2 : ((i : Int) == (l.length : Int) - 1) = true := by simp; omega
          clear HEm HOn hlast
          have HEm := Lib.hid hem
          clear hem
          go_wp2_with (first
            | (go_at_call 93; refine (HPr.out _).mono ?_; rintro e w2 ⟨rfl, g2⟩
               have G2 := (Gr.alloc wr (.cells #[.string (str ck), .int .i64 cs, .int .i64 cd, .string (str cval)] 56)).trans g2
               have G3 := Lib.hid ((G2.trans (Gr.alloc w2 (.cells #[.string (str K), .string (str cval)] 105))).trans (Gr.alloc _ (.cells #[.slice (some ⟨b, off + f * 4, none⟩) (i + 1 - f) (cap - f)] 22)))
               clear g2 G2)
            | (at_builtin; go_must (refine wp_append elemL rfl _ _ rfl rfl (HO.out.gr G3.out) rfl (src_cellg _ (.slice (some ⟨b, off + f * 4, none⟩) (i + 1 - f) (cap - f)) rfl Tryz.underlying27 _ (by simp)) m1 m2 (Nat.le_trans hgs G3.out.size) ?_); intro ad5 c5 w5 o5 k5 f5
               have HO5 := Lib.hid o5; have HK5 := Lib.hid k5
               clear o5 k5 f5)
            | fail)
          go_roundw
          case rel =>
            have G5 := (HGr.out.trans G3.out).grown HK5.out (fun k hk => by
              obtain ⟨y, hy, e⟩ := Option.map_eq_some_iff.1 hk
              exact e ▸ (HO.out.lt y hy).1)
            refine ⟨i + 1, i + 1, 0, out ++ [(l.drop f).take (i + 1 - f)], ad5, c5, by go_num, by go_num, rfl, by simp, hlt, ⟨?_, ⟨_, by rw [List.length_append]; exact HO5.out, ?_⟩, G5, Nat.zero_le _, by simp; omega, Nat.le_refl _⟩⟩
            · rw [HEq.out, HEm.out, HNow.out, Nat.sub_self, List.take_zero, List.append_assoc]; rfl
            · exact SlsOf.snoc HS.out ⟨_, _, by rw [List.length_take, List.length_drop]; congr 1; omega, by rw [List.length_take, List.length_drop]; omega, HSub.out⟩
          case measure => simp [intOf]; omega
        · have HOn2 := Lib.hid (HOn.out (by omega) hlast)
          have hb2 : ((i : Int) == (l.length : Int) - 1) = false := by simp; omega
          clear HEm HOn hlast
          go_wp2_with (first
            | (go_at_call 93; refine (HPr.out _).mono ?_; rintro e w2 ⟨rfl, g2⟩
               have G2 := (Gr.alloc wr (.cells #[.string (str ck), .int .i64 cs, .int .i64 cd, .string (str cval)] 56)).trans g2
               have G3 := Lib.hid (G2.trans (Gr.alloc w2 (.cells #[.string (str K), .string (str cval)] 105)))
               clear g2 G2)
            | fail)
          go_roundw
          case rel =>
            refine ⟨i + 1, f, n + sc, out, ado, co, by go_num, rfl, by go_num, rfl, hlt, ⟨?_, ⟨vs, HO.out.gr G3.out, HS.out⟩, HGr.out.trans G3.out, by omega, by omega, by omega⟩⟩
            rw [HEq.out, HOn2.out, HNow.out]
          case measure => simp [intOf]; omega
    · obtain rfl : i = l.length := by omega
      obtain ⟨vs, hO, hS⟩ := hI.own
      have HEq := Lib.hid (show runsF size l = out by rw [hI.eq, List.drop_length, runsG, List.append_nil])
      have HGr := Lib.hid hI.gr
      have HO := Lib.hid hO
      have HS := Lib.hid hS
      clear hI hO hS
      go_wp2
      go_ret
      rw [HEq.out]
      exact ⟨ado, co, vs, rfl, HO.out, HS.out.gr HGr.out, HGr.out⟩
end Go.Proofs.YtpaogoehgkoaeaaGreatDoor
