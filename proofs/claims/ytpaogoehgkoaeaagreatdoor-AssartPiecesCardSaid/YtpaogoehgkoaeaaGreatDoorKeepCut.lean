/- Layer 16 (keep): weight and Cut walked, where all is right. -/
import Derived.Test.YtpaogoehgkoaeaaGreatDoorKeepOne
import Derived.Test.YtpaogoehgkoaeaaGreatDoorKeepRight
namespace Go.Proofs.YtpaogoehgkoaeaaGreatDoor
set_option linter.unusedVariables false
set_option linter.unusedSimpArgs false
open Go.RowKit Tab
theorem weight_take {l : List Ci} {i : Nat} (h : i < l.length) : weightF (l.take (i + 1)) = weightF (l.take i) + (l[i].key.length + l[i].val.length) := by
  unfold weightF
  rw [List.take_add_one, List.getElem?_eq_getElem h, List.map_append, List.sum_append]
  simp
theorem weight_le {l : List Ci} (hk : ∀ c ∈ l, c.key.length + c.val.length ≤ 1100) : weightF l ≤ l.length * 1100 := by
  induction l with
  | nil => exact Nat.le_refl _
  | cons c l ih =>
    have h1 := hk c (by simp)
    have h2 := ih (fun x hx => hk x (List.mem_cons_of_mem _ hx))
    unfold weightF at *
    rw [List.map_cons, List.sum_cons, List.length_cons]
    omega
set_option maxRecDepth 100000 in
theorem weight_any (ad : Option Addr) (cap : Nat) (l : List Ci) (w : World) (hr : Row w ad (cv l)) (hl : l.length ≤ 5000) (hk : ∀ c ∈ l, c.key.length + c.val.length ≤ 1100) :
    Calls Tryz.prog 40 #[.slice ad l.length cap] w fun e w' => e = .returned (.int .i64 (weightF l : Nat)) ∧ Gr w w' := by
  have HR := Lib.hid hr
  have HK := Lib.hid hk
  clear hr hk
  go_enter Tryz.func40, Tryz.ntmps40
  go_wp2
  go_loopw [3, 8] (fun vn vi wr => ∃ i : Nat, vi = .int .i64 (i : Int) ∧ vn = .int .i64 (weightF (l.take i) : Nat) ∧ i ≤ l.length ∧ weightF (l.take i) ≤ i * 1100 ∧ Gr w wr) (fun _ vi _ => l.length - (intOf vi).toNat)
  case atStart => exact ⟨0, rfl, rfl, Nat.zero_le _, Nat.zero_le _, Gr.refl _⟩
  case round =>
    obtain ⟨i, rfl, rfl, hi, hn, hG⟩ := hrel
    by_cases hlt : i < l.length
    · obtain ⟨b, off, hade, e0, e1, e2, e3⟩ := (HR.out.gr hG).ci i hlt
      subst hade
      have HW := Lib.hid (weight_take hlt)
      have hc := HK.out l[i] (List.getElem_mem hlt)
      have HG := Lib.hid hG
      clear hG
      generalize l[i] = c at *
      obtain ⟨ck, cs, cd, cval⟩ := c
      simp only at e0 e1 e2 e3 hc
      generalize weightF (l.take i) = n at *
      have GB := Lib.hid (Gr.alloc wr (.cells #[.string (str ck), .int .i64 cs, .int .i64 cd, .string (str cval)] 56))
      go_wp2
      go_roundw
      case rel => exact ⟨i + 1, by go_num, by rw [HW.out]; go_num, hlt, by rw [HW.out]; simp only; omega, HG.out.trans GB.out⟩
      case measure => simp [intOf]; omega
    · obtain rfl : i = l.length := by omega
      rw [List.take_length]
      go_wp2
      go_ret
      exact ⟨rfl, hG⟩
theorem Owns.typ {w : World} {B B2 : Nat} {e e2 : TypeId} {s s2 : Nat} {ad ad2 : Option Addr} {c c2 n n2 : Nat} {xs xs2 : List Value} (o : Owns w B e s ad c n xs) (o2 : Owns w B2 e2 s2 ad2 c2 n2 xs2) (he : e ≠ e2) : ∀ a, ad = some a → some a.block ≠ ad2.map (·.block) := by
  intro a ha hb
  obtain ⟨_, _, _, ⟨h, _⟩ | ⟨g, cur, fr, h, _, h1, _⟩⟩ := o
  · rw [h] at ha; cases ha
  · rw [h] at ha
    cases ha
    obtain ⟨_, _, _, ⟨k, _⟩ | ⟨g2, cur2, fr2, k, _, k1, _⟩⟩ := o2
    · rw [k] at hb; cases hb
    · rw [k] at hb
      simp only [Option.map_some, Option.some.injEq] at hb
      subst hb
      rw [h1] at k1
      cases k1
      exact he rfl
/-- pieces, each a slice of its own below a block -/
def PcsOf (w0 B : Nat) (X : List (List (List Ci))) (vs : List Value) (w : World) : Prop := vs.length = X.length ∧ ∀ i (h : i < X.length), ∃ ad cap, vs[i]? = some (.slice ad X[i].flatten.length cap) ∧ Owns w w0 56 4 ad cap X[i].flatten.length (cv X[i].flatten) ∧ ∀ a, ad = some a → a.block < B
theorem PcsOf.gr {w0 B : Nat} {X : List (List (List Ci))} {vs : List Value} {w w' : World} (h : PcsOf w0 B X vs w) (k : Gr w w') : PcsOf w0 B X vs w' := ⟨h.1, fun i hi => by
  obtain ⟨ad, cap, h1, h2, h3⟩ := h.2 i hi
  exact ⟨ad, cap, h1, h2.gr k, h3⟩⟩
theorem PcsOf.grown {w0 B : Nat} {X : List (List (List Ci))} {vs : List Value} {w w' : World} {row : Option Nat} (h : PcsOf w0 B X vs w) (k : w.grownBy w' row)
    (hn : ∀ ad cap n xs, Owns w w0 56 4 ad cap n xs → (∀ a, ad = some a → a.block < B) → ∀ a, ad = some a → some a.block ≠ row) : PcsOf w0 B X vs w' := ⟨h.1, fun i hi => by
  obtain ⟨ad, cap, h1, h2, h3⟩ := h.2 i hi
  refine ⟨ad, cap, h1, ?_, h3⟩
  exact h2.grown k (fun a ha => hn _ _ _ _ h2 h3 a ha)⟩
theorem PcsOf.mono {w0 B B' : Nat} {X : List (List (List Ci))} {vs : List Value} {w : World} (h : PcsOf w0 B X vs w) (hB : B ≤ B') : PcsOf w0 B' X vs w := ⟨h.1, fun i hi => by
  obtain ⟨ad, cap, h1, h2, h3⟩ := h.2 i hi
  exact ⟨ad, cap, h1, h2, fun a ha => Nat.lt_of_lt_of_le (h3 a ha) hB⟩⟩
theorem PcsOf.base {w0 w1 B : Nat} {X : List (List (List Ci))} {vs : List Value} {w : World} (h : PcsOf w0 B X vs w) (hb : w1 ≤ w0) : PcsOf w1 B X vs w := ⟨h.1, fun i hi => by
  obtain ⟨ad, cap, h1, h2, h3⟩ := h.2 i hi
  exact ⟨ad, cap, h1, h2.base hb, h3⟩⟩
theorem PcsOf.snoc {w0 B : Nat} {X : List (List (List Ci))} {vs : List Value} {w : World} {now : List (List Ci)} {ad : Option Addr} {cap : Nat} (h : PcsOf w0 B X vs w) (ho : Owns w w0 56 4 ad cap now.flatten.length (cv now.flatten)) (hb : ∀ a, ad = some a → a.block < B) :
    PcsOf w0 B (X ++ [now]) (vs ++ [.slice ad now.flatten.length cap]) w := by
  refine ⟨by simp [h.1], fun i hi => ?_⟩
  by_cases hi2 : i < X.length
  · obtain ⟨ad', cap', h1, h2, h3⟩ := h.2 i hi2
    rw [List.getElem_append_left hi2]
    exact ⟨ad', cap', by rw [List.getElem?_append_left (by rw [h.1]; exact hi2)]; exact h1, h2, h3⟩
  · have e : i = X.length := by simp at hi; omega
    subst e
    rw [List.getElem_append_right (Nat.le_refl _)]
    simp only [Nat.sub_self, List.getElem_singleton]
    exact ⟨ad, cap, by rw [← h.1]; simp, ho, hb⟩
/-- the piece that is on is laid -/
theorem Pcs_emit {w0 B B0 : Nat} {X : List (List (List Ci))} {vs vs2 : List Value} {w w5 : World} {now : List (List Ci)} {nf : List Ci} (hnf : nf = now.flatten) {ado adn : Option Addr} {co cn no : Nat} (h : PcsOf w0 B X vs w) (hB : B ≤ w.heap.size) (hN : Owns w B 56 4 adn cn nf.length (cv nf)) (h0 : w0 ≤ B) (hO : Owns w B0 22 1 ado co no vs2) (k : w.grownBy w5 (ado.map (·.block))) :
    PcsOf w0 w5.heap.size (X ++ [now]) (vs ++ [.slice adn nf.length cn]) w5 := by
  subst hnf
  have h5 := (h.grown k (fun ad cap n xs o _ => o.typ hO (by decide))).mono (Nat.le_trans hB k.size)
  have hN5 := hN.grown k (hN.typ hO (by decide))
  exact h5.snoc (hN5.base h0) (fun a ha => (hN5.lt a ha).2)
/-- while the pieces are laid -/
def CuI (w : World) (G : List (List Ci)) (size : Int) (i : Nat) (out : List (List (List Ci))) (now : List (List Ci)) (n : Nat) (ado : Option Addr) (co : Nat) (adn : Option Addr) (cn : Nat) (wr : World) : Prop :=
  ∃ B vs, w.heap.size ≤ B ∧ B ≤ wr.heap.size ∧ cutG size [] 0 G = out ++ cutG size now n (G.drop i) ∧ out.flatten ++ now = G.take i ∧ Owns wr w.heap.size 22 1 ado co out.length vs ∧ PcsOf w.heap.size B out vs wr ∧ Owns wr B 56 4 adn cn now.flatten.length (cv now.flatten) ∧ Gr w wr ∧ n ≤ i * 10000000 ∧ out.length ≤ i
theorem cut_emit {size : Int} {G : List (List Ci)} {i n : Nat} {now : List (List Ci)} (hi : i < G.length) (h : size ≤ (n : Int)) : cutG size now n (G.drop i) = now :: cutG size [G[i]] (weightF G[i] + 16 * G[i].length) (G.drop (i + 1)) := by
  rw [List.drop_eq_getElem_cons hi, cutG, if_pos h]
theorem cut_on {size : Int} {G : List (List Ci)} {i n : Nat} {now : List (List Ci)} (hi : i < G.length) (h : ¬ size ≤ (n : Int)) : cutG size now n (G.drop i) = cutG size (now ++ [G[i]]) (n + (weightF G[i] + 16 * G[i].length)) (G.drop (i + 1)) := by
  rw [List.drop_eq_getElem_cons hi, cutG, if_neg h]
/-- pieces, and the word -/
def RetPcs (w : World) (X : List (List (List Ci))) : Ending → World → Prop := fun x w' => ∃ ad cap vs, x = .returned (.tuple #[.slice ad X.length cap, .int .i64 0]) ∧ Owns w' w.heap.size 22 1 ad cap X.length vs ∧ PcsOf w.heap.size w'.heap.size X vs w' ∧ Gr w w'
theorem flat_mem {G : List (List Ci)} {g : List Ci} {c : Ci} (hg : g ∈ G) (hc : c ∈ g) : c ∈ G.flatten := List.mem_flatten.2 ⟨g, hg, hc⟩
theorem flat_len0 {A : List (List Ci)} (h : ∀ g ∈ A, g ≠ []) : A = [] ∨ 0 < A.flatten.length := by
  cases A with
  | nil => exact .inl rfl
  | cons g A =>
    right
    have := h g (by simp)
    rw [List.flatten_cons, List.length_append]
    cases g with
    | nil => exact absurd rfl this
    | cons => simp; omega
set_option maxRecDepth 100000 in
set_option maxHeartbeats 4000000 in
theorem Cut_ok (ad : Option Addr) (cap : Nat) (l : List Ci) (size : Int) (w : World) (hr : Row w ad (cv l)) (hl : l.length ≤ 5000) (hc : l.length ≤ cap) (ho : ordF l = true) (hk : ∀ c ∈ l, c.key.length + c.val.length ≤ 1100) (hs : 1 ≤ size) (hs2 : size ≤ 1000000) :
    Calls Tryz.prog 8 #[.slice ad l.length cap, .int .i64 size] w (RetPcs w (piecesF l size)) := by
  have HRi := Lib.hid (right_ok ad cap l w hr hl ho)
  have HKy := Lib.hid (fun w' (g : Gr w w') => kkeys_any ad cap l w' (hr.gr g) hl hc)
  have hGl : (groupF l).flatten.length ≤ 5000 := by rw [groupF_flat]; exact hl
  have HGk := Lib.hid (show ∀ g ∈ groupF l, ∀ c ∈ g, c.key.length + c.val.length ≤ 1100 from fun g hg c hc => hk c (by rw [← groupF_flat l]; exact flat_mem hg hc))
  have HGn := Lib.hid (groupF_grp l).ne
  have HP := Lib.hid (show piecesF l size = cutG size [] 0 (groupF l) from rfl)
  have d1 : decide (size < 1) = false := decide_eq_false (by omega)
  clear hr hk
  rw [HP.out]
  clear HP
  go_enter Tryz.func8, Tryz.ntmps8
  go_wp2_with (first
    | (go_at_call 38; go_must (refine HRi.out.mono ?_); rintro e w1 ⟨rfl, g1⟩)
    | (go_at_call 39; go_must (refine (HKy.out _ g1).mono ?_); rintro e w2 ⟨adv, cpv, vsG, rfl, ov, hv, g2⟩)
    | fail)
  have HG0 := Lib.hid (g1.trans g2)
  have HV := Lib.hid hv
  have HOv := Lib.hid ov
  clear g1 g2 hv ov HKy HRi
  generalize groupF l = G at *
  have HI0 := Lib.hid (show CuI w2 G size 0 [] [] 0 none 0 none 0 w2 from ⟨w2.heap.size, [], Nat.le_refl _, Nat.le_refl _, by simp, rfl, Owns.empty _ _ _ _, ⟨rfl, fun i hi => by simp at hi⟩, Owns.empty _ _ _ _, Gr.refl _, Nat.zero_le _, Nat.zero_le _⟩)
  go_loopw [6, 7, 8, 21] (fun vo vw vn vi wr => ∃ (i n : Nat) (out : List (List (List Ci))) (now : List (List Ci)) (ado : Option Addr) (co : Nat) (adn : Option Addr) (cn : Nat), vi = .int .i64 (i : Int) ∧ vn = .int .i64 (n : Int) ∧ vo = .slice ado out.length co ∧ vw = .slice adn now.flatten.length cn ∧ i ≤ G.length ∧ CuI w2 G size i out now n ado co adn cn wr) (fun _ _ _ vi _ => G.length - (intOf vi).toNat)
  case atStart => exact ⟨0, 0, [], [], none, 0, none, 0, rfl, rfl, rfl, rfl, Nat.zero_le _, HI0.out⟩
  case round =>
    clear HI0
    obtain ⟨i, n, out, now, ado, co, adn, cn, rfl, rfl, rfl, rfl, hi, B, vs, hB0, hB, hE, hT, hO, hP, hN, hG, hn, hol⟩ := hrel
    have hnl : now.flatten.length ≤ 5000 := by
      have h1 := congrArg List.length (congrArg List.flatten hT)
      rw [List.flatten_append, List.length_append] at h1
      have h2 : (G.take i).flatten.length ≤ G.flatten.length := flat_take _
      omega
    obtain ⟨nf, hnf⟩ : ∃ nf, nf = now.flatten := ⟨_, rfl⟩
    rw [← hnf] at hN hnl ⊢
    have HNf := Lib.hid hnf
    clear hnf
    have hil : i ≤ 5000 := by
      have := grp_count HGn.out
      omega
    have m1 : out.length + 1 ≤ maxLen := by unfold maxLen; omega
    have m2 : (out.length + 1) * 24 ≤ 140737488355328 := by omega
    by_cases hlt : i < G.length
    · obtain ⟨v, hvi, adg, cg, rfl, hcg, hrg⟩ := HV.out.2 i hlt
      obtain ⟨b, off, hadv, z0⟩ := HOv.out.row i _ hvi
      subst hadv
      have z0 := hG.cell z0
      have hgl : G[i].length ≤ 5000 := Nat.le_trans (grp_get hlt) hGl
      have hgw := weight_le (HGk.out _ (List.getElem_mem hlt))
      have HWt := Lib.hid (fun w' (g : Gr w2 w') => weight_any adg cg G[i] w' (hrg.gr g) hgl (HGk.out _ (List.getElem_mem hlt)))
      have HRg := Lib.hid hrg
      have HT2 := Lib.hid (show out.flatten ++ now ++ [G[i]] = G.take (i + 1) by rw [hT, List.take_add_one, List.getElem?_eq_getElem hlt]; rfl)
      have HCe := Lib.hid (fun h => cut_emit (size := size) (n := n) (now := now) hlt h)
      have HCo := Lib.hid (fun h => cut_on (size := size) (n := n) (now := now) hlt h)
      have HE := Lib.hid hE
      have HO := Lib.hid hO
      have HPc := Lib.hid hP
      have HN := Lib.hid hN
      have HG := Lib.hid hG
      have hgs := hG.size
      clear hE hT hO hP hN hG hrg hvi hcg
      generalize G[i] = g at *
      by_cases hge : size ≤ (n : Int)
      · have HE2 := Lib.hid (show cutG size [] 0 G = (out ++ [now]) ++ cutG size [g] (weightF g + 16 * g.length) (G.drop (i + 1)) by rw [HE.out, HCe.out hge, List.append_assoc]; rfl)
        have dge : decide (size ≤ (n : Int)) = true := decide_eq_true hge
        clear HE HCe HCo
        have T1 : RowKit.Hid True := trivial
        generalize weightF g = wg at *
        have m3 : 0 + g.length ≤ maxLen := by unfold maxLen; omega
        have m4 : (0 + g.length) * 48 ≤ 140737488355328 := by omega
        clear hn
        go_wp2_with (first
          | (at_builtin; clear T1; go_must (refine wp_append elemL rfl _ _ rfl rfl (HO.out.gr (Gr.alloc _ _)) rfl (src_cellg _ (.slice adn nf.length cn) rfl Tryz.underlying27 _ rfl) m1 m2 (Nat.le_trans hgs (Gr.alloc _ _).size) ?_); intro ad5 c5 w5 o5 k5 f5
             have HO5 := Lib.hid o5
             have HP5 := Lib.hid (Pcs_emit HNf.out (HPc.out.gr (Gr.alloc wr (.cells #[.slice adn nf.length cn] 22))) (Nat.le_trans hB (Gr.alloc _ _).size) (HN.out.gr (Gr.alloc _ _)) hB0 (HO.out.gr (Gr.alloc _ _)) k5)
             have HG5 := Lib.hid ((HG.out.trans (Gr.alloc _ _)).grown k5 (fun k hk => by
               obtain ⟨y, hy, e⟩ := Option.map_eq_some_iff.1 hk
               exact e ▸ (HO.out.lt y hy).1))
             clear o5 k5 f5)
          | (at_builtin; go_must (refine wp_append elemC rfl _ _ rfl rfl (Owns.empty w5 w5.heap.size 56 4) rfl (src_cv (HRg.out.gr HG5.out) rfl Tryz.underlying22) m3 m4 (Nat.le_refl _) ?_); intro ad6 c6 w6 o6 k6 f6
             have HN6 := Lib.hid o6
             have G56 := (Gr.refl w5).grown k6 (fun k hk => by cases hk)
             have HO6 := Lib.hid (HO5.out.gr G56)
             have HP6 := Lib.hid (HP5.out.gr G56)
             have HG6 := Lib.hid (HG5.out.trans G56)
             have hs6 := G56.size
             clear o6 k6 f6 G56)
          | (go_at_call 40; go_must (refine (HWt.out w6 HG6.out).mono ?_); rintro e w7 ⟨rfl, g7⟩)
          | fail)
        go_roundw
        case rel =>
          refine ⟨i + 1, wg + 16 * g.length, out ++ [now], [g], ad5, c5, ad6, c6, by go_num, by go_num, by simp, by simp, hlt, w5.heap.size, _, HG5.out.size, Nat.le_trans hs6 g7.size, HE2.out, ?_, by rw [List.length_append]; exact HO6.out.gr g7, HP6.out.gr g7, ?_, HG6.out.trans g7, by omega, by simp; omega⟩
          · rw [List.flatten_append]; simpa using HT2.out
          · have := HN6.out.gr g7
            simpa using this
        case measure => simp [intOf]; omega
      · have HE2 := Lib.hid (show cutG size [] 0 G = out ++ cutG size (now ++ [g]) (n + (weightF g + 16 * g.length)) (G.drop (i + 1)) by rw [HE.out, HCo.out hge])
        have dge : decide (size ≤ (n : Int)) = false := decide_eq_false hge
        clear HE HCe HCo
        generalize weightF g = wg at *
        have m3 : nf.length + g.length ≤ maxLen := by unfold maxLen; omega
        have m4 : (nf.length + g.length) * 48 ≤ 140737488355328 := by omega
        have hn2 : n ≤ 50000000000 := by omega
        go_wp2_with (first
          | (at_builtin; go_must (refine wp_append elemC rfl _ _ rfl rfl HN.out rfl (src_cv (HRg.out.gr HG.out) rfl Tryz.underlying22) m3 m4 hB ?_); intro ad6 c6 w6 o6 k6 f6
             have HN6 := Lib.hid o6
             have HO6 := Lib.hid (HO.out.grown k6 (HO.out.typ HN.out (by decide)))
             have HP6 := Lib.hid (HPc.out.grown k6 (fun ad cap n xs o hb a ha e => by
               obtain ⟨y, hy, e9⟩ := Option.map_eq_some_iff.1 e.symm
               have h1 := hb a ha
               have h2 := (HN.out.lt y hy).1
               omega))
             have HG6 := Lib.hid (HG.out.grown k6 (fun k hk => by
               obtain ⟨y, hy, e⟩ := Option.map_eq_some_iff.1 hk
               exact e ▸ Nat.le_trans hB0 (HN.out.lt y hy).1))
             have hs6 := k6.size
             clear o6 k6 f6)
          | (go_at_call 40; go_must (refine (HWt.out w6 HG6.out).mono ?_); rintro e w7 ⟨rfl, g7⟩)
          | fail)
        go_roundw
        case rel =>
          refine ⟨i + 1, n + (wg + 16 * g.length), out, now ++ [g], ado, co, ad6, c6, by go_num, by go_num, rfl, by rw [List.flatten_append, List.length_append, ← HNf.out]; simp, hlt, B, vs, hB0, Nat.le_trans hB (Nat.le_trans hs6 g7.size), HE2.out, ?_, HO6.out.gr g7, HP6.out.gr g7, ?_, HG6.out.trans g7, by omega, by omega⟩
          · rw [← List.append_assoc]; exact HT2.out
          · have := HN6.out.gr g7
            rw [List.flatten_append, List.length_append, cv_append, ← HNf.out]
            simpa using this
        case measure => simp [intOf]; omega
    · obtain rfl : i = G.length := by omega
      rw [List.take_length] at hT
      have HE := Lib.hid (show cutG size [] 0 G = out ++ (if now = [] then [] else [now]) by rw [hE, List.drop_length, cutG])
      have hnn : ∀ g ∈ now, g ≠ [] := fun g hg => HGn.out g (by rw [← hT]; exact List.mem_append_right _ hg)
      have HO := Lib.hid hO
      have HPc := Lib.hid hP
      have HN := Lib.hid hN
      have HG := Lib.hid hG
      have hgs := hG.size
      clear hE hT hO hP hN hG
      rcases flat_len0 hnn with h0 | h0
      · subst h0
        obtain rfl : nf = [] := HNf.out
        have HE2 := Lib.hid (show cutG size [] 0 G = out by rw [HE.out, if_pos rfl, List.append_nil])
        clear HE hnn
        go_wp2
        go_ret2
        rw [HE2.out]
        exact ⟨ado, co, vs, rfl, HO.out.base HG0.out.size, (HPc.out.mono hB).base HG0.out.size, HG0.out.trans HG.out⟩
      · have HE2 := Lib.hid (show cutG size [] 0 G = out ++ [now] by rw [HE.out, if_neg (fun e => by subst e; simp at h0)])
        rw [← HNf.out] at h0
        have d2 : decide (0 < nf.length) = true := decide_eq_true h0
        clear HE hnn
        go_wp2_with (first
          | (at_builtin; go_must (refine wp_append elemL rfl _ _ rfl rfl (HO.out.gr (Gr.alloc _ _)) rfl (src_cellg _ (.slice adn nf.length cn) rfl Tryz.underlying27 _ rfl) m1 m2 (Nat.le_trans hgs (Gr.alloc _ _).size) ?_); intro ad5 c5 w5 o5 k5 f5
             have HO5 := Lib.hid o5
             have HP5 := Lib.hid (Pcs_emit HNf.out (HPc.out.gr (Gr.alloc wr (.cells #[.slice adn nf.length cn] 22))) (Nat.le_trans hB (Gr.alloc _ _).size) (HN.out.gr (Gr.alloc _ _)) hB0 (HO.out.gr (Gr.alloc _ _)) k5)
             have HG5 := Lib.hid ((HG.out.trans (Gr.alloc _ _)).grown k5 (fun k hk => by
               obtain ⟨y, hy, e⟩ := Option.map_eq_some_iff.1 hk
               exact e ▸ (HO.out.lt y hy).1))
             clear o5 k5 f5)
          | fail)
        go_ret2
        rw [HE2.out]
        exact ⟨ad5, c5, _, by simp, by rw [List.length_append]; exact HO5.out.base HG0.out.size, HP5.out.base HG0.out.size, HG0.out.trans HG5.out⟩
end Go.Proofs.YtpaogoehgkoaeaaGreatDoor
