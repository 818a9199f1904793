/- Layer 14 (table): what TableAsks leans on. -/
import Derived.Test.YtlfbelocdpboeaaDoorTabPartsM
import Derived.Test.YtlfbelocdpboeaaDoorOpenG
namespace Go.Proofs.YtlfbelocdpboeaaDoor
set_option linter.unusedVariables false
set_option linter.unusedSimpArgs false
open Go.RowKit Tab
/-- cells of its own, and an error's number -/
def RetCe (w : World) (p : List Ci × Int) : Ending → World → Prop := fun e w' => ∃ ad cap, e = .returned (.tuple #[.slice ad p.1.length cap, .int .i64 p.2]) ∧ Owns w' w.heap.size 44 4 ad cap p.1.length (cv p.1) ∧ Gr w w'
def fromE (C : List Ci) (v : Vr) (most : Int) : List Ci × Int := if most < 0 then ([], 1) else ((C.filter (fun c => !vless c.vr v)).take most.toNat, 0)
def aheadE (C : List Ci) (v : Vr) (most : Int) : List Ci × Int := if most < 0 then ([], 1) else ((C.filter (fun c => vless c.vr v)).reverse.take most.toNat, 0)
theorem fromE_len (C : List Ci) (v : Vr) (most : Int) : (fromE C v most).1.length ≤ C.length := by
  unfold fromE
  split
  · exact Nat.zero_le _
  · simp only [List.length_take]
    have := List.length_filter_le (fun c => !vless c.vr v) C
    omega
theorem aheadE_len (C : List Ci) (v : Vr) (most : Int) : (aheadE C v most).1.length ≤ C.length := by
  unfold aheadE
  split
  · exact Nat.zero_le _
  · simp only [List.length_take, List.length_reverse]
    have := List.length_filter_le (fun c => vless c.vr v) C
    omega
theorem RetCe.none_ {w : World} {C : List Ci} {e : Ending} {w' : World} (h : e = .returned (.tuple #[.slice none 0 0, .int .i64 1]) ∧ Gr w w') : RetCe w ([], 1) e w' := ⟨none, 0, h.1, Owns.empty _ _ _ _, h.2⟩
theorem Built.fromE {C : List Ci} {f : List UInt8} (h : Built C f) (w : World) (g : Nat) (ht : TabAt w g C f) (v : Vr) (most : Int) :
    Calls Tryd.prog 11 #[.pointer (some ⟨g, 0, none⟩), ver v.key v.seq v.kind, .int .i64 most] w (RetCe w (fromE C v most)) := by
  unfold Go.Proofs.YtlfbelocdpboeaaDoor.fromE
  split
  · rename_i hm
    exact (tFrom_neg w g v most hm).mono fun e w' k => RetCe.none_ (C := C) k
  · exact h.from_ w g ht v most (by omega)
theorem Built.aheadE {C : List Ci} {f : List UInt8} (h : Built C f) (w : World) (g : Nat) (ht : TabAt w g C f) (v : Vr) (most : Int) (h1 : most ≤ 9223372036854775807) :
    Calls Tryd.prog 21 #[.pointer (some ⟨g, 0, none⟩), ver v.key v.seq v.kind, .int .i64 most] w (RetCe w (aheadE C v most)) := by
  unfold Go.Proofs.YtlfbelocdpboeaaDoor.aheadE
  split
  · rename_i hm
    exact (tAhead_neg w g v most hm).mono fun e w' k => RetCe.none_ (C := C) k
  · exact h.ahead w g ht v most (by omega) h1
theorem rFromE (w : World) (g : Nat) (C : List Ci) (v : Vr) (most : Int) (h : RefAt w g C) (hl : C.length ≤ 500000000) :
    Calls Tryd.prog 20 #[.pointer (some ⟨g, 0, none⟩), ver v.key v.seq v.kind, .int .i64 most] w (RetCe w (fromE C v most)) := by
  unfold fromE
  split
  · rename_i hm
    exact (rFrom_neg w _ v most hm).mono fun e w' k => RetCe.none_ (C := C) k
  · exact rFrom_any w g C v most h hl (by omega)
theorem rAheadE (w : World) (g : Nat) (C : List Ci) (v : Vr) (most : Int) (h : RefAt w g C) (hl : C.length ≤ 500000000) :
    Calls Tryd.prog 22 #[.pointer (some ⟨g, 0, none⟩), ver v.key v.seq v.kind, .int .i64 most] w (RetCe w (aheadE C v most)) := by
  unfold aheadE
  split
  · rename_i hm
    exact (rAhead_neg w _ v most hm).mono fun e w' k => RetCe.none_ (C := C) k
  · exact rAhead_any w g C v most h hl (by omega)
theorem none_any (w : World) : Calls Tryd.prog 15 #[] w fun e w' => e = .returned (.pointer none) ∧ w = w' := by
  go_enter Tryd.func15, Tryd.ntmps15
  go_wp2
  go_ret
  exact ⟨rfl, rfl⟩
theorem keys_next {R : List Ci} {i : Nat} (h : i < R.length) : keysF (R.take (i + 1)) = addK (keysF (R.take i)) R[i].key := by
  unfold keysF
  rw [List.take_succ_eq_append_getElem h, List.map_append]
  exact once_snoc _ _
theorem keys_few (R : List Ci) (i : Nat) : (keysF (R.take i)).length ≤ i := by
  have h1 := keys_len (R.take i)
  rw [List.length_take] at h1
  omega
theorem addK_last {K : List (List UInt8)} {k : List UInt8} (h : 0 < K.length) : addK K k = if K[K.length - 1] = k then K else K ++ [k] := by
  unfold addK
  rw [List.getLast?_eq_getElem?, List.getElem?_eq_getElem (by omega)]
  by_cases he : K[K.length - 1] = k
  · rw [if_pos (by rw [he]), if_pos he]
  · rw [if_neg (fun e => he (Option.some.inj e)), if_neg he]
theorem sv_append (a b : List (List UInt8)) : sv (a ++ b) = sv a ++ sv b := by simp [sv]
theorem Row.ask5 {w : World} {ad : Option Addr} {l : List Ak} (h : Row w ad (akv l)) (i : Nat) (hi : i < l.length) :
    ∃ b off, ad = some ⟨b, off, none⟩ ∧ w.cell? ⟨b, off + i * 5, none⟩ = some (.int .i64 l[i].what) ∧ w.cell? ⟨b, off + i * 5 + 1, none⟩ = some (.string (str l[i].ver.key)) ∧ w.cell? ⟨b, off + i * 5 + 2, none⟩ = some (.int .i64 l[i].ver.seq) ∧ w.cell? ⟨b, off + i * 5 + 3, none⟩ = some (.int .i64 l[i].ver.kind) ∧ w.cell? ⟨b, off + i * 5 + 4, none⟩ = some (.int .i64 l[i].most) := by
  obtain ⟨b, off, e, hc⟩ := h.ask i hi
  exact ⟨b, off, e, hc 0 _ rfl, hc 1 _ rfl, hc 2 _ rfl, hc 3 _ rfl, hc 4 _ rfl⟩
/-- a cell of one's own is marked -/
theorem Owns.mark {w : World} {base : Nat} {ad : Option Addr} {cap n : Nat} {D : List Ci} (h : Owns w base 44 4 ad cap n (cv D)) (hn : D.length = n) {g i : Nat} (had : ad = some ⟨g, 0, .none⟩) (hi : i < n) (x : UInt8) :
    ∃ D' : List Ci, D'.length = n ∧ Owns ((((w.setCell ⟨g, i * 4, none⟩ (.string ⟨#[]⟩)).setCell ⟨g, i * 4 + 1, none⟩ (.int .i64 0)).setCell ⟨g, i * 4 + 2, none⟩ (.int .i64 0)).setCell ⟨g, i * 4 + 3, none⟩ (.string ⟨#[x]⟩)) base 44 4 ad cap n (cv D') := by
  subst hn
  refine ⟨D.set i ⟨[], 0, 0, [x]⟩, List.length_set, ?_⟩
  have := h.cell4 had hi ⟨[], 0, 0, [x]⟩
  rwa [List.length_set] at this
theorem Row.ne_ {w w' : World} {ad : Option Addr} {vs : List Value} {b : Nat} (h : Row w ad vs) (k : w.grownBy w' (some b)) (ha : ∀ a, ad = some a → a.block ≠ b) : Row w' ad vs := fun i u hi => by
  obtain ⟨g, o, e, hc⟩ := h i u hi
  subst e
  have h1 := ha _ rfl
  have h2 := World.block_lt_of_cell? w _ hc
  refine ⟨g, o, rfl, ?_⟩
  have hne : some g ≠ some b := fun e => by cases e; exact h1 rfl
  have hblk : w'.heap[g]? = w.heap[g]? := k.block g h2 hne
  unfold World.cell? at hc ⊢
  simp only at hc ⊢
  rw [hblk]; exact hc
theorem RefAt.ne_ {w w' : World} {g b : Nat} {C : List Ci} {ad : Option Addr} {cc : Nat} {z : Value} (h1 : Blk w g 52 [.slice ad C.length cc, z]) (h2 : Row w ad (cv C)) (k : w.grownBy w' (some b)) (hg : g ≠ b) (ha : ∀ a, ad = some a → a.block ≠ b) : RefAt w' g C :=
  ⟨ad, cc, z, (k.block g h1.lt (fun e => hg (by cases e; rfl))).trans h1, h2.ne_ k ha⟩
end Go.Proofs.YtlfbelocdpboeaaDoor
