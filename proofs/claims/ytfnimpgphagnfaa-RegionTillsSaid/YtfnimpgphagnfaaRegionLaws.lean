/- Layer 1 (region): the pool's calls, as a law uses them; fertile. -/
import Derived.Test.YtfnimpgphagnfaaRegionOk2
import Derived.Test.YtfnimpgphagnfaaRegionAlloc
import Derived.Test.YtfnimpgphagnfaaRegionNew
namespace Go.Proofs.Ytfnimpgphagnfaa
set_option linter.unusedVariables false
set_option linter.unusedSimpArgs false
open Go.RowKit
/-- a pool of a law's own -/
structure Pl (w0 w : World) (S : Nat → Prop) (g : Nat) (p : PoolF) : Prop where
  gr : Gr w0 w
  pool : PoolAt w S g p
  ok : PoolOk p
  base : ∀ j, S j → w0.heap.size ≤ j
section
variable {w0 w w' : World} {S S' : Nat → Prop} {g : Nat} {p p' : PoolF}
theorem Pl.moved (h : Pl w0 w S g p) (k : Moved S g p' w w' S') (ok' : PoolOk p') : Pl w0 w' S' g p' :=
  ⟨k.chg.gr h.gr h.base, k.pool, ok', fun j hj => by
    rcases k.sub j hj with h1 | h1
    · exact h.base j h1
    · exact Nat.le_trans h.gr.size h1⟩
theorem Pl.more (h : Pl w0 w S g p) (k : Gr w w') : Pl w0 w' S g p := ⟨h.gr.trans k, h.pool.gr k, h.ok, h.base⟩
theorem make_ok2 (h : PoolOk p) : PoolOk (makeR p).2.2 := by
  unfold makeR
  cases hm : makeF p with
  | none => exact h
  | some i =>
    obtain ⟨h1, h2, _⟩ := makeF_some hm
    exact make_ok h h1 h2
theorem Make_pl (h : Pl w0 w S g p) (hgen : ∀ i, i < 256 → (landAt p i).gen ≤ 1000000000) {r e : Nat} (he : makeR p = (r, e, p')) :
    Calls Try.prog 12 #[.pointer (some ⟨g, 0, none⟩)] w fun x w' => x = .returned (.tuple #[.int .i64 (r : Int), .int .i64 (e : Int)]) ∧ Moved S g p' w w' S ∧ Pl w0 w' S g p' := by
  refine (Make_any w S g p h.pool h.ok hgen).mono fun x w' ⟨h1, h2⟩ => ?_
  have h3 := h.moved h2 (make_ok2 h.ok)
  rw [he] at h1 h2 h3
  exact ⟨h1, h2, h3⟩
theorem Alloc_pl (h : Pl w0 w S g p) {r n a : Int} {x : Hd} {e : Nat} (he : allocF p r n a = (x, e, p')) :
    Calls Try.prog 13 #[.pointer (some ⟨g, 0, none⟩), .int .i64 r, .int .i64 n, .int .i64 a] w fun y w' => y = .returned (.tuple #[.agg #[.int .i64 x.region, .int .i64 x.gen, .int .i64 x.off, .int .i64 x.len], .int .i64 (e : Int)]) ∧ ∃ S', Moved S g p' w w' S' ∧ Pl w0 w' S' g p' := by
  refine (Alloc_any w S g p r n a h.pool h.ok).mono fun y w' ⟨h1, S', h2⟩ => ?_
  have h3 := h.moved h2 (alloc_ok h.ok r n a)
  rw [he] at h1 h2 h3
  exact ⟨h1, S', h2, h3⟩
theorem Store_pl (h : Pl w0 w S g p) {x : Hd} {t : Int} {ad : Option Addr} {n cap : Nat} {b : List UInt8} {e : Nat} (hb : Bytes w ad b) (hn : b.length = n) (hnm : n ≤ 9223372036854775807) (he : storeF p x t b = (e, p')) :
    Calls Try.prog 14 #[.pointer (some ⟨g, 0, none⟩), .agg #[.int .i64 x.region, .int .i64 x.gen, .int .i64 x.off, .int .i64 x.len], .int .i64 t, .slice ad n cap] w fun y w' => y = .returned (.int .i64 (e : Int)) ∧ Moved S g p' w w' S ∧ Pl w0 w' S g p' := by
  refine (Store_any w S g p x t ad n cap b h.pool h.ok hb hn hnm).mono fun y w' ⟨h1, h2⟩ => ?_
  have h3 := h.moved h2 (store_ok h.ok x t b)
  rw [he] at h1 h2 h3
  exact ⟨h1, h2, h3⟩
theorem Free_pl (h : Pl w0 w S g p) {r : Int} {e : Nat} (he : freeF p r = (e, p')) :
    Calls Try.prog 17 #[.pointer (some ⟨g, 0, none⟩), .int .i64 r] w fun y w' => y = .returned (.int .i64 (e : Int)) ∧ Moved S g p' w w' S ∧ Pl w0 w' S g p' := by
  refine (Free_any w S g p r h.pool h.ok).mono fun y w' ⟨h1, h2⟩ => ?_
  have h3 := h.moved h2 (free_ok h.ok r)
  rw [he] at h1 h2 h3
  exact ⟨h1, h2, h3⟩
theorem Load_pl (h : Pl w0 w S g p) {x : Hd} {b : List UInt8} {e : Nat} (he : loadF p x = (b, e)) :
    Calls Try.prog 16 #[.pointer (some ⟨g, 0, none⟩), .agg #[.int .i64 x.region, .int .i64 x.gen, .int .i64 x.off, .int .i64 x.len]] w fun y w' => ∃ ad cap, y = .returned (.tuple #[.slice ad b.length cap, .int .i64 (e : Int)]) ∧ Owns w' w.heap.size 5 1 ad cap b.length (bv b) ∧ Gr w w' := by
  have := Load_any w S g p x h.pool h.ok
  rw [he] at this
  exact this
theorem Slabs_pl (h : Pl w0 w S g p) {r : Int} {b : List Nat} {e : Nat} (he : slabsF p r = (b, e)) :
    Calls Try.prog 18 #[.pointer (some ⟨g, 0, none⟩), .int .i64 r] w fun y w' => ∃ ad cap, y = .returned (.tuple #[.slice ad b.length cap, .int .i64 (e : Int)]) ∧ Owns w' w.heap.size 3 1 ad cap b.length (iv b) ∧ Gr w w' := by
  have := Slabs_any w S g p r h.pool h.ok
  rw [he] at this
  exact this
theorem Raw_pl (h : Pl w0 w S g p) {r : Int} {b : List UInt8} {e : Nat} (he : rawF p r = (b, e)) :
    Calls Try.prog 19 #[.pointer (some ⟨g, 0, none⟩), .int .i64 r] w fun y w' => ∃ ad cap, y = .returned (.tuple #[.slice ad b.length cap, .int .i64 (e : Int)]) ∧ Owns w' w.heap.size 5 1 ad cap b.length (bv b) ∧ Gr w w' := by
  have := Raw_any w S g p r h.pool h.ok
  rw [he] at this
  exact this
theorem Idle_pl (h : Pl w0 w S g p) : Calls Try.prog 20 #[.pointer (some ⟨g, 0, none⟩)] w fun e w' => e = .returned (.int .i64 (countF p : Int)) ∧ w = w' := Idle_any w S g p h.pool h.ok
theorem New_pl (k : Gr w0 w) (a n : Nat) (h1 : 64 ≤ a) (h2 : a ≤ 65536) (h3 : a % 8 = 0) (h4 : 1 ≤ n) (h5 : n ≤ 4096) (h6 : a * n ≤ 4194304) :
    Calls Try.prog 11 #[.int .i64 (a : Int), .int .i64 (n : Int)] w fun e w' => ∃ g S, e = .returned (.tuple #[.pointer (some ⟨g, 0, none⟩), .int .i64 0]) ∧ Gr w w' ∧ w.heap.size ≤ g ∧ Pl w0 w' S g (newF a n) ∧ ∀ j, S j → w.heap.size ≤ j :=
  (New_good w a n h1 h2 h3 h4 h5 h6).mono fun e w' ⟨g, S, e1, e2, e3, e4⟩ => ⟨g, S, e1, e2, (by obtain ⟨_, _, _, _, _, _, _, hx⟩ := e3; exact e4 g hx.sg), ⟨k.trans e2, e3, new_ok h1 h2 h3 h4 h5, fun j hj => Nat.le_trans k.size (e4 j hj)⟩, e4⟩
end
theorem bytes_new (w : World) (C : Array Value) (e : TypeId) (l : List UInt8) (h : C.toList = bv l) (gb : Nat) (hg : gb = w.heap.size) : Bytes (w.alloc (.cells C e)) (some ⟨gb, 0, none⟩) l := by
  subst hg; exact Bytes.alloc w C e (0, 0) l h
/-- a block that is none of the pool's -/
structure Out (S : Nat → Prop) (w : World) (b : Nat) : Prop where
  no : ¬ S b
  lt : b < w.heap.size
section
variable {w0 w w' : World} {S S' : Nat → Prop} {g b : Nat} {p p' : PoolF}
theorem Out.moved (h : Out S w b) (m : Moved S g p' w w' S') : Out S' w' b := ⟨fun e => by
  rcases m.sub b e with h1 | h1
  · exact h.no h1
  · have := h.lt; omega, Nat.lt_of_lt_of_le h.lt m.chg.size⟩
theorem Out.more (h : Out S w b) (k : Gr w w') : Out S w' b := ⟨h.no, Nat.lt_of_lt_of_le h.lt k.size⟩
theorem Out.new (h : Pl w0 w S g p) (o : Obj) : Out S (w.alloc o) w.heap.size := ⟨fun e => Nat.lt_irrefl _ (h.pool.lt _ e), by simp⟩
theorem Moved.blk (m : Moved S g p' w w' S') {t : TypeId} {cs : List Value} (hb : Blk w b t cs) (h : Out S w b) : Blk w' b t cs := m.chg.blk hb h.no
end
def fp0 : PoolF := newF 64 2
def fp1 : PoolF := (makeR fp0).2.2
def fp2 : PoolF := (allocF fp1 0 10 1).2.2
def fp3 : PoolF := (allocF fp2 0 8 8).2.2
def fp4 : PoolF := (storeF fp3 ⟨0, 1, 0, 10⟩ 0 [9]).2
def fp5 : PoolF := (freeF fp4 0).2
def fp6 : PoolF := (makeR fp5).2.2
def fp7 : PoolF := (allocF fp6 0 1 1).2.2
theorem fe1 : makeR fp0 = (0, 0, fp1) := by kernel_rfl
theorem fe2 : allocF fp1 0 10 1 = (⟨0, 1, 0, 10⟩, 0, fp2) := by kernel_rfl
theorem fe3 : allocF fp2 0 8 8 = (⟨0, 1, 16, 8⟩, 0, fp3) := by kernel_rfl
theorem fe4 : storeF fp3 ⟨0, 1, 0, 10⟩ 0 [9] = (0, fp4) := by kernel_rfl
theorem fe5 : freeF fp4 0 = (0, fp5) := by kernel_rfl
theorem fe6 : makeR fp5 = (0, 0, fp6) := by kernel_rfl
theorem fe7 : allocF fp6 0 1 1 = (⟨0, 2, 0, 1⟩, 0, fp7) := by kernel_rfl
theorem fe8 : loadF fp7 ⟨0, 1, 0, 10⟩ = ([], 3) := by kernel_rfl
theorem fe9 : loadF fp7 ⟨0, 2, 0, 1⟩ = ([0], 0) := by kernel_rfl
theorem fgen0 : ∀ i, i < 256 → (landAt fp0 i).gen ≤ 1000000000 := fun i _ => by unfold fp0; rw [landAt_new]; decide
theorem fgen5 : ∀ i, i < 256 → (landAt fp5 i).gen ≤ 1000000000 := by
  have : ∀ i : Fin 256, (landAt fp5 i.val).gen ≤ 1000000000 := by decide +kernel
  exact fun i hi => this ⟨i, hi⟩
end Go.Proofs.Ytfnimpgphagnfaa
