/- Layer 8 (frame): Scan. -/
import Derived.Test.YtmjhffohfppnaaaFrameTake
namespace Go.Proofs.Ytmjhffohfppnaaa
set_option linter.unusedVariables false
set_option linter.unusedSimpArgs false
open Go.RowKit Fr
/-- keys, as Go's values -/
def sv (l : List (List UInt8)) : List Value := l.map fun s => .string (str s)
theorem elemS : Elem Try.prog 31 9 (.string ⟨#[]⟩) 1 16 := ⟨by kernel_rfl, by kernel_rfl, rfl, by decide⟩
/-- a row that lies elsewhere is as it was, behind an append -/
theorem Owns.apart {w w' : World} {base : Nat} {e : TypeId} {ad ad' : Option Addr} {cap n : Nat} {xs : List Value} {o : Obj} (h : Owns w base e 1 ad cap n xs) (g : (w.alloc o).grownBy w' (ad'.map (·.block))) (hd : ∀ a a', ad = some a → ad' = some a' → a.block ≠ a'.block) : Owns w' base e 1 ad cap n xs :=
  (h.gr (Gr.alloc w o)).grown g (fun a ha hb => by
    cases ad' with
    | none => cases hb
    | some a' => exact hd a a' ha rfl (Option.some.inj hb))
theorem src_cell {P : Program} {u e e' : TypeId} (w : World) (v : Value) (hv : v.oneCell' = true) (hu : P.underlying u = some (.slice e')) :
    Src P u (w.alloc (.cells #[v] e)) 1 (.slice (some ⟨w.heap.size, 0, none⟩) 1 1) 1 [v] :=
  ⟨rfl, fun x hx => by rw [List.mem_singleton.1 hx]; exact hv, .inl ⟨_, _, e', rfl, Row.alloc w _ e (0, 0) _ rfl, hu⟩⟩
theorem sv_length (l : List (List UInt8)) : (sv l).length = l.length := by simp [sv]
theorem sv_append (l m : List (List UInt8)) : sv (l ++ m) = sv l ++ sv m := by simp [sv]
theorem take_all (l : List UInt8) (a : Nat) (ad : Option Addr) (cap : Nat) (w : World) (hl : l.length ≤ 100000000) (ha : a ≤ l.length) (hc : l.length ≤ cap) (hm : cap ≤ maxLen) (hb : Bytes w ad l) :
    Calls Try.prog 24 #[.slice ad l.length cap, .int .i64 (a : Int)] w (RetT w ((ad.map (·.block)).getD 0) (takeF l a)) := by
  rcases Nat.lt_or_ge l.length (a + padF a + 7) with h | h
  · rw [take_short h]
    exact (take_off l a ad cap w hl ha h).mono fun e w' ⟨he, hg⟩ => ⟨_, _, _, _, _, _, he, hg, rfl⟩
  · obtain ⟨b, off, rfl⟩ : ∃ b off, ad = some ⟨b, off, .none⟩ := let ⟨x, y, e, _⟩ := hb 0 (by omega); ⟨x, y, e⟩
    exact take_on l a _ b off cap w hl rfl h hc hm hb
/-- what hands back texts of its own, and a number -/
def RetS (w : World) (x : List (List UInt8) × Nat) : Ending → World → Prop := fun e w' =>
  ∃ ad cap, e = .returned (.tuple #[.slice ad x.1.length cap, .int .i64 (x.2 : Int)]) ∧ Owns w' w.heap.size 9 1 ad cap x.1.length (sv x.1) ∧ Gr w w'
theorem kinds {k : UInt8} (h1 : 1 ≤ k.toNat) (h2 : k.toNat ≤ 4) : k = 1 ∨ k = 2 ∨ k = 3 ∨ k = 4 := by
  have : k.toNat = 1 ∨ k.toNat = 2 ∨ k.toNat = 3 ∨ k.toNat = 4 := by omega
  rcases this with h | h | h | h
  · exact .inl (UInt8.toNat_inj.1 h)
  · exact .inr (.inl (UInt8.toNat_inj.1 h))
  · exact .inr (.inr (.inl (UInt8.toNat_inj.1 h)))
  · exact .inr (.inr (.inr (UInt8.toNat_inj.1 h)))
theorem apart1 {w1 : World} {B : Nat} {e : TypeId} {adr ado ad3 : Option Addr} {cap n : Nat} {xs : List Value} (f : ∀ x, ad3 = some x → adr = some x ∨ w1.heap.size ≤ x.block) (hap : ∀ x y, adr = some x → ado = some y → x.block ≠ y.block) (ho : Owns w1 B e 1 ado cap n xs) :
    ∀ x y, ad3 = some x → ado = some y → x.block ≠ y.block := by
  intro x y hx hy
  rcases f x hx with h | h
  · exact hap x y h hy
  · have := (ho.lt y hy).2; omega
theorem apart2 {N : Nat} {ado ad3 ad4 : Option Addr} (f : ∀ y, ad4 = some y → ado = some y ∨ N ≤ y.block) (hap : ∀ x y, ad3 = some x → ado = some y → x.block ≠ y.block) (h3 : ∀ x, ad3 = some x → x.block < N) :
    ∀ x y, ad3 = some x → ad4 = some y → x.block ≠ y.block := by
  intro x y hx hy
  rcases f y hy with h | h
  · exact hap x y hx h
  · have := h3 x hx; omega
theorem ne_row {adr ado : Option Addr} (hap : ∀ x y, adr = some x → ado = some y → x.block ≠ y.block) : ∀ y, ado = some y → some y.block ≠ adr.map (·.block) := by
  intro y hy e
  cases adr with
  | none => cases e
  | some x => exact hap x y rfl hy (Option.some.inj e).symm
theorem ne_row' {adr ado : Option Addr} (hap : ∀ x y, adr = some x → ado = some y → x.block ≠ y.block) : ∀ x, adr = some x → some x.block ≠ ado.map (·.block) := by
  intro x hx e
  cases ado with
  | none => cases e
  | some y => exact hap x y hx rfl (Option.some.inj e)
theorem row_from {w : World} {B : Nat} {e : TypeId} {ad : Option Addr} {size cap n : Nat} {xs : List Value} (ho : Owns w B e size ad cap n xs) : ∀ k, ad.map (·.block) = some k → B ≤ k := by
  intro k hk
  cases ad with
  | none => cases hk
  | some x => cases hk; exact (ho.lt x rfl).1
/-- the state of the scan -/
structure ScanAt (w : World) (l : List UInt8) (a e : Nat) (o : Bool) (r : List UInt8) (out : List (List UInt8)) (adr ado : Option Addr) (capr capo : Nat) (wr : World) : Prop where
  ha : a ≤ l.length
  hr : r.length ≤ a
  ho : out.length ≤ a
  gr : Gr w wr
  ownr : Owns wr w.heap.size 5 1 adr capr r.length (bv r)
  owno : Owns wr w.heap.size 9 1 ado capo out.length (sv out)
  apart : ∀ x y, adr = some x → ado = some y → x.block ≠ y.block
  same : scanF l = scanW l a e o r out
set_option maxRecDepth 100000 in
set_option maxHeartbeats 4000000 in
theorem Scan_any (l : List UInt8) (ad : Option Addr) (cap : Nat) (w : World) (hl : l.length ≤ 100000000) (hc : l.length ≤ cap) (hm : cap ≤ maxLen) (hb : Bytes w ad l) :
    Calls Try.prog 16 #[.slice ad l.length cap] w (RetS w (scanF l)) := by
  have hmx : maxLen ≤ 9223372036854775807 := by decide
  have HB := Lib.hid hb; clear hb
  have HMX := Lib.hid hm
  go_enter Try.func16, Try.ntmps16
  go_wp2
  go_loopw [4, 5, 6, 7, 8, 9, 10, 11, 12] (fun vo vr va ve vop _ _ _ _ wr => ∃ (a e : Nat) (o : Bool) (r : List UInt8) (out : List (List UInt8)) (adr ado : Option Addr) (capr capo : Nat), vo = .slice ado out.length capo ∧ vr = .slice adr r.length capr ∧ va = .int .i64 (a : Int) ∧ ve = .int .i64 (e : Int) ∧ vop = .bool o ∧ ScanAt w l a e o r out adr ado capr capo wr) (fun _ _ va _ _ _ _ _ _ _ => l.length - (intOf va).toNat)
  case atStart => exact ⟨0, 0, false, [], [], none, none, 0, 0, rfl, rfl, rfl, rfl, rfl, Nat.zero_le _, Nat.zero_le _, Nat.zero_le _, Gr.refl _, Owns.empty _ _ _ _, Owns.empty _ _ _ _, (fun x y h => by cases h), rfl⟩
  case round =>
    obtain ⟨a, e, o, r, out, adr, ado, capr, capo, rfl, rfl, rfl, rfl, rfl, ha, hr, ho, hgw, ownr, owno, hap, hsame⟩ := hrel
    have HTK := Lib.hid (take_all l a ad cap wr hl ha hc hm (HB.out.gr hgw))
    have HAP := Lib.hid hap; have HS := Lib.hid hsame
    clear hap hsame
    cases hT : takeF l a with
    | none =>
      rw [hT] at HTK
      have HN := Lib.hid (scanW_none (e := e) (o := o) (r := r) (out := out) hT)
      clear hT
      go_wp2_with (go_at_call 24; refine HTK.out.mono ?_; rintro x w1 ⟨k1, ad1, sl1, cap1, t1, ok, rfl, g1, hok⟩; obtain rfl : ok = false := hok)
      go_ret2
      refine ⟨ado, capo, ?_, ?_, hgw.trans g1⟩
      · rw [HS.out, HN.out]; rfl
      · rw [HS.out, HN.out]; exact owno.gr g1
    | some T =>
      obtain ⟨k, s, t⟩ := T
      rw [hT] at HTK
      have hlt := take_lt hT
      have HN := Lib.hid (scanW_some (e := e) (o := o) (r := r) (out := out) hT)
      clear hT
      have q6 : a + 7 + s.length ≤ t := by omega
      obtain ⟨q1, q2, q3, q4, q5, q7⟩ := hlt
      clear q5 q7
      --clear * - q1 q2 q3 q4 q6 HTK HN HS HAP ha hr ho hgw ownr owno hl hc hmx HB HMX
      have hkn : (o = false ∧ k.toNat = 1) ∨ (o = false ∧ k.toNat = 2) ∨ (o = true ∧ k.toNat = 3) ∨ (o = true ∧ k.toNat = 4) ∨ (o = true ∧ k.toNat = 1) ∨ (o = true ∧ k.toNat = 2) ∨ (o = false ∧ k.toNat = 3) ∨ (o = false ∧ k.toNat = 4) := by
        cases o <;> simp <;> omega
      have hB : w.heap.size ≤ wr.heap.size := hgw.size
      have m1 : r.length + s.length ≤ maxLen := by unfold maxLen; omega
      have m1' : (r.length + s.length) * 1 ≤ 140737488355328 := by omega
      have m0 : 0 + s.length ≤ maxLen := by unfold maxLen; omega
      have m0' : (0 + s.length) * 1 ≤ 140737488355328 := by omega
      have m2 : out.length + 1 ≤ maxLen := by unfold maxLen; omega
      have m2' : (out.length + 1) * 16 ≤ 140737488355328 := by omega
      rcases hkn with ⟨rfl, hk⟩ | ⟨rfl, hk⟩ | ⟨rfl, hk⟩ | ⟨rfl, hk⟩ | ⟨rfl, hk⟩ | ⟨rfl, hk⟩ | ⟨rfl, hk⟩ | ⟨rfl, hk⟩
      · have KV := Lib.hid (show (k.toNat : Int) = 1 by omega)
        have hk3 : k = 1 := UInt8.toNat_inj.1 hk
        rw [hk3, show midF 1 = false from rfl, show goesF 1 = false from rfl] at HN
        clear hk hk3
        go_wp2_with (first
          | (go_at_call 24; refine HTK.out.mono ?_; rintro x w1 ⟨k1, ad1, sl1, cap1, t1, ok, rfl, g1, hok, hk1, hsl1, _, _, ht1, hbs, _⟩; obtain rfl : ok = true := hok; have hk9 := hk1.trans KV.out; clear hk1; subst hk9; subst hsl1; subst ht1; have hbs1 := hbs.gr g1; have hB1 := Nat.le_trans hB g1.size; have ownr1 := ownr.gr g1; have owno1 := owno.gr g1; have ownz := Owns.empty w1 w.heap.size 5 1)
          | (at_builtin; refine wp_append elemB rfl _ _ rfl rfl ownz rfl (Src.bytes hbs1 rfl Try.underlying22) m0 m0' hB1 ?_; intro ad3 cap3 w3 o3 k3 f3; simp only [List.nil_append, Nat.zero_add] at o3; have owno2 := owno1.grown k3 (fun _ _ e => by cases e); have hs3 := run_string (P := Try.prog) Try.underlying22 Try.underlying5 Try.underlying9 (cap := cap3) rfl o3.bytes; have hB2 : w.heap.size ≤ (w3.alloc (.cells #[.string (str s)] 9)).heap.size := Nat.le_trans (Nat.le_trans hB1 k3.size) (Gr.alloc _ _).size; clear owno1)
          | (at_builtin; go_must (refine wp_append elemS rfl _ _ rfl rfl (owno2.gr (Gr.alloc _ _)) rfl (src_cell _ _ rfl Try.underlying31) m2 m2' hB2 ?_); intro ad4 cap4 w4 o4 k4 f4))
        go_roundw
        case rel =>
          have hap3 := apart1 (adr := .none) f3 (fun x y h => by cases h) (owno.gr g1)
          have o3' := o3.gr (Gr.alloc w3 (.cells #[.string (str s)] 9))
          exact ⟨t, t, false, s, out ++ [s], ad3, ad4, cap3, cap4, by rw [List.length_append]; rfl, rfl, rfl, rfl, rfl, q2, by omega, by rw [List.length_append]; show out.length + 1 ≤ t; omega, (((hgw.trans g1).grown k3 (fun _ e => by cases e)).trans (Gr.alloc _ _)).grown k4 (row_from owno2), o3'.grown k4 (ne_row' hap3), by rw [List.length_append, sv_append]; exact o4, apart2 f4 hap3 (fun x hx => (o3'.lt x hx).2), by rw [HS.out, HN.out]; rfl⟩
        case measure => simp [intOf]; omega
      · have KV := Lib.hid (show (k.toNat : Int) = 2 by omega)
        have hk3 : k = 2 := UInt8.toNat_inj.1 hk
        rw [hk3, show midF 2 = false from rfl, show goesF 2 = true from rfl] at HN
        clear hk hk3
        go_wp2_with (first
          | (go_at_call 24; refine HTK.out.mono ?_; rintro x w1 ⟨k1, ad1, sl1, cap1, t1, ok, rfl, g1, hok, hk1, hsl1, _, _, ht1, hbs, _⟩; obtain rfl : ok = true := hok; have hk9 := hk1.trans KV.out; clear hk1; subst hk9; subst hsl1; subst ht1; have hbs1 := hbs.gr g1; have hB1 := Nat.le_trans hB g1.size; have ownr1 := ownr.gr g1; have owno1 := owno.gr g1; have ownz := Owns.empty w1 w.heap.size 5 1)
          | (at_builtin; refine wp_append elemB rfl _ _ rfl rfl ownz rfl (Src.bytes hbs1 rfl Try.underlying22) m0 m0' hB1 ?_; intro ad3 cap3 w3 o3 k3 f3; simp only [List.nil_append, Nat.zero_add] at o3))
        go_roundw
        case rel =>
          exact ⟨t, e, true, s, out, ad3, ado, cap3, capo, rfl, rfl, rfl, rfl, rfl, q2, by omega, by omega, (hgw.trans g1).grown k3 (fun _ e => by cases e), o3, owno1.grown k3 (fun _ _ e => by cases e), apart1 (adr := .none) f3 (fun x y h => by cases h) owno1, by rw [HS.out, HN.out]; rfl⟩
        case measure => simp [intOf]; omega
      · have KV := Lib.hid (show (k.toNat : Int) = 3 by omega)
        have hk3 : k = 3 := UInt8.toNat_inj.1 hk
        rw [hk3, show midF 3 = true from rfl, show goesF 3 = true from rfl] at HN
        clear hk hk3
        go_wp2_with (first
          | (go_at_call 24; refine HTK.out.mono ?_; rintro x w1 ⟨k1, ad1, sl1, cap1, t1, ok, rfl, g1, hok, hk1, hsl1, _, _, ht1, hbs, _⟩; obtain rfl : ok = true := hok; have hk9 := hk1.trans KV.out; clear hk1; subst hk9; subst hsl1; subst ht1; have hbs1 := hbs.gr g1; have hB1 := Nat.le_trans hB g1.size; have ownr1 := ownr.gr g1; have owno1 := owno.gr g1; have ownz := Owns.empty w1 w.heap.size 5 1)
          | (at_builtin; refine wp_append elemB rfl _ _ rfl rfl ownr1 rfl (Src.bytes hbs1 rfl Try.underlying22) m1 m1' hB1 ?_; intro ad3 cap3 w3 o3 k3 f3))
        go_roundw
        case rel =>
          exact ⟨t, e, true, r ++ s, out, ad3, ado, cap3, capo, rfl, by rw [List.length_append], rfl, rfl, rfl, by omega, by rw [List.length_append]; omega, by omega, (hgw.trans g1).grown k3 (row_from ownr1), by rw [List.length_append, bv_append]; exact o3, owno1.grown k3 (ne_row HAP.out), apart1 f3 HAP.out owno1, by rw [HS.out, HN.out]; rfl⟩
        case measure => simp [intOf]; omega
      · have KV := Lib.hid (show (k.toNat : Int) = 4 by omega)
        have hk3 : k = 4 := UInt8.toNat_inj.1 hk
        rw [hk3, show midF 4 = true from rfl, show goesF 4 = false from rfl] at HN
        clear hk hk3
        go_wp2_with (first
          | (go_at_call 24; refine HTK.out.mono ?_; rintro x w1 ⟨k1, ad1, sl1, cap1, t1, ok, rfl, g1, hok, hk1, hsl1, _, _, ht1, hbs, _⟩; obtain rfl : ok = true := hok; have hk9 := hk1.trans KV.out; clear hk1; subst hk9; subst hsl1; subst ht1; have hbs1 := hbs.gr g1; have hB1 := Nat.le_trans hB g1.size; have ownr1 := ownr.gr g1; have owno1 := owno.gr g1; have ownz := Owns.empty w1 w.heap.size 5 1)
          | (at_builtin; refine wp_append elemB rfl _ _ rfl rfl ownr1 rfl (Src.bytes hbs1 rfl Try.underlying22) m1 m1' hB1 ?_; intro ad3 cap3 w3 o3 k3 f3; rw [← bv_append] at o3; have owno2 := owno1.grown k3 (ne_row HAP.out); have hs3 := run_string (P := Try.prog) Try.underlying22 Try.underlying5 Try.underlying9 (cap := cap3) (l := r ++ s) (len := r.length + s.length) List.length_append o3.bytes; have hB2 : w.heap.size ≤ (w3.alloc (.cells #[.string (str (r ++ s))] 9)).heap.size := Nat.le_trans (Nat.le_trans hB1 k3.size) (Gr.alloc _ _).size; clear owno1)
          | (at_builtin; go_must (refine wp_append elemS rfl _ _ rfl rfl (owno2.gr (Gr.alloc _ _)) rfl (src_cell _ _ rfl Try.underlying31) m2 m2' hB2 ?_); intro ad4 cap4 w4 o4 k4 f4))
        go_roundw
        case rel =>
          have hap3 := apart1 f3 HAP.out (owno.gr g1)
          have o3' := o3.gr (Gr.alloc w3 (.cells #[.string (str (r ++ s))] 9))
          exact ⟨t, t, false, r ++ s, out ++ [r ++ s], ad3, ad4, cap3, cap4, by rw [List.length_append]; rfl, by rw [List.length_append], rfl, rfl, rfl, q2, by rw [List.length_append]; omega, by rw [List.length_append]; show out.length + 1 ≤ t; omega, (((hgw.trans g1).grown k3 (row_from ownr1)).trans (Gr.alloc _ _)).grown k4 (row_from owno2), by rw [List.length_append]; exact o3'.grown k4 (ne_row' hap3), by rw [List.length_append, sv_append]; exact o4, apart2 f4 hap3 (fun x hx => (o3'.lt x hx).2), by rw [HS.out, HN.out]; rfl⟩
        case measure => simp [intOf]; omega
      · have KV := Lib.hid (show (k.toNat : Int) = 1 by omega)
        have hk3 : k = 1 := UInt8.toNat_inj.1 hk
        rw [hk3, show midF 1 = false from rfl, show goesF 1 = false from rfl] at HN
        clear hk hk3
        go_wp2_with (go_at_call 24; refine HTK.out.mono ?_; rintro x w1 ⟨k1, ad1, sl1, cap1, t1, ok, rfl, g1, hok, hk1, hsl1, _, _, ht1, hbs, _⟩; obtain rfl : ok = true := hok; have hk9 := hk1.trans KV.out; clear hk1; subst hk9; subst hsl1; subst ht1)
        go_ret2
        refine ⟨ado, capo, ?_, ?_, hgw.trans g1⟩
        · rw [HS.out, HN.out]; rfl
        · rw [HS.out, HN.out]; exact owno.gr g1
      · have KV := Lib.hid (show (k.toNat : Int) = 2 by omega)
        have hk3 : k = 2 := UInt8.toNat_inj.1 hk
        rw [hk3, show midF 2 = false from rfl, show goesF 2 = true from rfl] at HN
        clear hk hk3
        go_wp2_with (go_at_call 24; refine HTK.out.mono ?_; rintro x w1 ⟨k1, ad1, sl1, cap1, t1, ok, rfl, g1, hok, hk1, hsl1, _, _, ht1, hbs, _⟩; obtain rfl : ok = true := hok; have hk9 := hk1.trans KV.out; clear hk1; subst hk9; subst hsl1; subst ht1)
        go_ret2
        refine ⟨ado, capo, ?_, ?_, hgw.trans g1⟩
        · rw [HS.out, HN.out]; rfl
        · rw [HS.out, HN.out]; exact owno.gr g1
      · have KV := Lib.hid (show (k.toNat : Int) = 3 by omega)
        have hk3 : k = 3 := UInt8.toNat_inj.1 hk
        rw [hk3, show midF 3 = true from rfl, show goesF 3 = true from rfl] at HN
        clear hk hk3
        go_wp2_with (go_at_call 24; refine HTK.out.mono ?_; rintro x w1 ⟨k1, ad1, sl1, cap1, t1, ok, rfl, g1, hok, hk1, hsl1, _, _, ht1, hbs, _⟩; obtain rfl : ok = true := hok; have hk9 := hk1.trans KV.out; clear hk1; subst hk9; subst hsl1; subst ht1)
        go_ret2
        refine ⟨ado, capo, ?_, ?_, hgw.trans g1⟩
        · rw [HS.out, HN.out]; rfl
        · rw [HS.out, HN.out]; exact owno.gr g1
      · have KV := Lib.hid (show (k.toNat : Int) = 4 by omega)
        have hk3 : k = 4 := UInt8.toNat_inj.1 hk
        rw [hk3, show midF 4 = true from rfl, show goesF 4 = false from rfl] at HN
        clear hk hk3
        go_wp2_with (go_at_call 24; refine HTK.out.mono ?_; rintro x w1 ⟨k1, ad1, sl1, cap1, t1, ok, rfl, g1, hok, hk1, hsl1, _, _, ht1, hbs, _⟩; obtain rfl : ok = true := hok; have hk9 := hk1.trans KV.out; clear hk1; subst hk9; subst hsl1; subst ht1)
        go_ret2
        refine ⟨ado, capo, ?_, ?_, hgw.trans g1⟩
        · rw [HS.out, HN.out]; rfl
        · rw [HS.out, HN.out]; exact owno.gr g1
end Go.Proofs.Ytmjhffohfppnaaa
