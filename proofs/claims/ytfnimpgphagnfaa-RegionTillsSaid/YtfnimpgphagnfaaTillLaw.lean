/- Layer 1 (region): a pool and the reference's side by side, in a law; what a law asks of no pool. -/
import Derived.Test.YtfnimpgphagnfaaTillNew
import Derived.Test.YtfnimpgphagnfaaRegionHands
import Derived.Test.YtfnimpgphagnfaaRegionFert
import Derived.Test.YtfnimpgphagnfaaStage
import Derived.Outline
namespace Go.Proofs.Ytfnimpgphagnfaa
set_option linter.unusedVariables false
set_option linter.unusedSimpArgs false
open Go.RowKit
theorem Chg.widen {T T' : Nat → Prop} {w w' : World} (h : Chg T w w') (hT : ∀ j, T j → T' j) : Chg T' w w' :=
  ⟨h.os, h.tape, h.output, h.size, fun j hj hn => h.block j hj (fun e => hn (hT j e))⟩
structure Tw (w0 : World) (g gm : Nat) (S Sm : Nat → Prop) (p q : PoolF) (w : World) : Prop where
  pl : Pl w0 w S g p
  rm : RPool w Sm gm q
  okq : PoolOk q
  dis : ∀ j, S j → ¬ Sm j
  base : ∀ j, Sm j → w0.heap.size ≤ j
/-- all that the law made, but what it keeps -/
def Tk (w0 : World) (Z : Nat → Prop) (j : Nat) : Prop := w0.heap.size ≤ j ∧ ¬ Z j
/-- the two pools; what is kept is none of theirs -/
def Tz (w0 : World) (g gm : Nat) (Z : Nat → Prop) (p q : PoolF) (w : World) : Prop := ∃ S Sm, Tw w0 g gm S Sm p q w ∧ ∀ j, Z j → ¬ S j ∧ ¬ Sm j ∧ j < w.heap.size
section
variable {w0 w w' : World} {g gm : Nat} {Z Z' : Nat → Prop} {p q p' q' : PoolF}
theorem Tz.more (h : Tz w0 g gm Z p q w) (k : Gr w w') : Tz w0 g gm Z p q w' := by
  obtain ⟨S, Sm, h, hz⟩ := h
  exact ⟨S, Sm, ⟨h.pl.more k, h.rm.gr k, h.okq, h.dis, h.base⟩, fun j hj => ⟨(hz j hj).1, (hz j hj).2.1, Nat.lt_of_lt_of_le (hz j hj).2.2 k.size⟩⟩
theorem Tz.gr (h : Tz w0 g gm Z p q w) : Gr w0 w := by
  obtain ⟨S, Sm, h, hz⟩ := h
  exact h.pl.gr
theorem Tz.okp (h : Tz w0 g gm Z p q w) : PoolOk p := by
  obtain ⟨S, Sm, h, hz⟩ := h
  exact h.pl.ok
theorem Tz.okq (h : Tz w0 g gm Z p q w) : PoolOk q := by
  obtain ⟨S, Sm, h, hz⟩ := h
  exact h.okq
theorem Tz.drop (h : Tz w0 g gm Z p q w) (hZ : ∀ j, Z' j → Z j) : Tz w0 g gm Z' p q w := by
  obtain ⟨S, Sm, h, hz⟩ := h
  exact ⟨S, Sm, h, fun j hj => hz j (hZ j hj)⟩
/-- what is made since is kept too -/
theorem Tz.lay (h : Tz w0 g gm Z p q w) (k : Gr w w') (hZ : ∀ j, Z' j → Z j ∨ (w.heap.size ≤ j ∧ j < w'.heap.size)) : Tz w0 g gm Z' p q w' := by
  obtain ⟨S, Sm, h, hz⟩ := h
  refine ⟨S, Sm, ⟨h.pl.more k, h.rm.gr k, h.okq, h.dis, h.base⟩, fun j hj => ?_⟩
  rcases hZ j hj with h1 | ⟨h1, h2⟩
  · exact ⟨(hz j h1).1, (hz j h1).2.1, Nat.lt_of_lt_of_le (hz j h1).2.2 k.size⟩
  · exact ⟨fun e => by have := h.pl.pool.lt j e; omega, fun e => by have := h.rm.lt j e; omega, h2⟩
/-- what is kept, or made since, is written -/
theorem Tz.grown (h : Tz w0 g gm Z p q w) {o : Option Nat} (k : w.grownBy w' o) (ho : ∀ b, o = some b → (Z b ∨ w.heap.size ≤ b) ∧ w0.heap.size ≤ b) : Tz w0 g gm Z p q w' := by
  obtain ⟨S, Sm, h, hz⟩ := h
  refine ⟨S, Sm, ⟨h.pl.grownO (fun b hb => ⟨fun e => ?_, (ho b hb).2⟩) k, h.rm.chg (T := fun j => o = some j) ⟨k.os, k.tape, k.output, k.size, fun j hj hn => k.block j hj (fun e => hn e.symm)⟩ (fun j hj e => ?_), h.okq, h.dis, h.base⟩, fun j hj => ⟨(hz j hj).1, (hz j hj).2.1, Nat.lt_of_lt_of_le (hz j hj).2.2 k.size⟩⟩
  · rcases (ho b hb).1 with h1 | h1
    · exact (hz b h1).1 e
    · have := h.pl.pool.lt b e; omega
  · rcases (ho j e).1 with h1 | h1
    · exact (hz j h1).2.1 hj
    · have := h.rm.lt j hj; omega
/-- a call of the pool -/
theorem Tz.left {f : FuncId} {args : Array Value} {x : Ending} (h : Tz w0 g gm Z p q w) (hc : ∀ S, Pl w0 w S g p → Calls Try.prog f args w fun e w' => e = x ∧ ∃ S', Moved S g p' w w' S' ∧ Pl w0 w' S' g p') :
    Calls Try.prog f args w fun e w' => e = x ∧ Chg (Tk w0 Z) w w' ∧ Tz w0 g gm Z p' q w' := by
  obtain ⟨S, Sm, h, hz⟩ := h
  refine (hc S h.pl).mono fun e w' ⟨he, S', m, hp⟩ => ⟨he, m.chg.widen (fun j hj => ⟨h.pl.base j hj, fun e => (hz j e).1 hj⟩), S', Sm, ⟨hp, h.rm.chg m.chg (fun j hj hs => h.dis j hs hj), h.okq, fun j hj hm => ?_, h.base⟩, fun j hj => ⟨fun e => ?_, (hz j hj).2.1, Nat.lt_of_lt_of_le (hz j hj).2.2 m.chg.size⟩⟩
  · rcases m.sub j hj with h1 | h1
    · exact h.dis j h1 hm
    · have := h.rm.lt j hm; omega
  · rcases m.sub j e with h1 | h1
    · exact (hz j hj).1 h1
    · have := (hz j hj).2.2; omega
/-- a call of the reference's -/
theorem Tz.right {f : FuncId} {args : Array Value} {x : Ending} (h : Tz w0 g gm Z p q w) (okq' : PoolOk q') (hc : ∀ Sm, RPool w Sm gm q → PoolOk q → Calls Try.prog f args w fun e w' => e = x ∧ ∃ Sm', RMoved Sm gm q' w w' Sm') :
    Calls Try.prog f args w fun e w' => e = x ∧ Chg (Tk w0 Z) w w' ∧ Tz w0 g gm Z p q' w' := by
  obtain ⟨S, Sm, h, hz⟩ := h
  refine (hc Sm h.rm h.okq).mono fun e w' ⟨he, Sm', m⟩ => ⟨he, m.chg.widen (fun j hj => ⟨h.base j hj, fun e => (hz j e).2.1 hj⟩), S, Sm', ⟨⟨m.chg.gr h.pl.gr h.base, h.pl.pool.chg m.chg (fun j hj => h.dis j hj), h.pl.ok, h.pl.base⟩, m.pool, okq', fun j hj hm => ?_, fun j hj => ?_⟩, fun j hj => ⟨(hz j hj).1, fun e => ?_, Nat.lt_of_lt_of_le (hz j hj).2.2 m.chg.size⟩⟩
  · rcases m.sub j hm with h1 | h1
    · exact h.dis j hj h1
    · have := h.pl.pool.lt j hj; omega
  · rcases m.sub j hj with h1 | h1
    · exact h.base j h1
    · exact Nat.le_trans h.pl.gr.size h1
  · rcases m.sub j e with h1 | h1
    · exact (hz j hj).2.1 h1
    · have := (hz j hj).2.2; omega
theorem Make_tz (h : Tz w0 g gm Z p q w) (hgen : ∀ i, i < 256 → (landAt p i).gen ≤ 1000000000) :
    Calls Try.prog 12 #[.pointer (some ⟨g, 0, none⟩)] w fun e w' => e = .returned (.tuple #[.int .i64 ((makeR p).1 : Int), .int .i64 ((makeR p).2.1 : Int)]) ∧ Chg (Tk w0 Z) w w' ∧ Tz w0 g gm Z (makeR p).2.2 q w' :=
  h.left fun S hp => (Make_pl hp hgen (r := (makeR p).1) (e := (makeR p).2.1) rfl).mono fun e w' ⟨h1, h2, h3⟩ => ⟨h1, S, h2, h3⟩
theorem rMake_tz (h : Tz w0 g gm Z p q w) (hgen : ∀ i, i < 256 → (landAt q i).gen ≤ 1000000000) :
    Calls Try.prog 25 #[.pointer (some ⟨gm, 0, none⟩)] w fun e w' => e = .returned (.tuple #[.int .i64 ((makeR q).1 : Int), .int .i64 ((makeR q).2.1 : Int)]) ∧ Chg (Tk w0 Z) w w' ∧ Tz w0 g gm Z p (makeR q).2.2 w' :=
  h.right (make_ok2 h.okq) fun S hp hq => (rMake_any w S gm q hp hq hgen).mono fun e w' ⟨h1, h2⟩ => ⟨h1, S, h2⟩
theorem Alloc_tz (h : Tz w0 g gm Z p q w) (r n a : Int) :
    Calls Try.prog 13 #[.pointer (some ⟨g, 0, none⟩), .int .i64 r, .int .i64 n, .int .i64 a] w fun e w' => e = .returned (.tuple #[hdv (allocF p r n a).1, .int .i64 ((allocF p r n a).2.1 : Int)]) ∧ Chg (Tk w0 Z) w w' ∧ Tz w0 g gm Z (allocF p r n a).2.2 q w' :=
  h.left fun S hp => Alloc_pl hp (x := (allocF p r n a).1) (e := (allocF p r n a).2.1) rfl
theorem rAlloc_any (w : World) (S : Nat → Prop) (g : Nat) (p : PoolF) (r n a : Int) (h : RPool w S g p) (hp : PoolOk p) :
    Calls Try.prog 26 #[.pointer (some ⟨g, 0, none⟩), .int .i64 r, .int .i64 n, .int .i64 a] w fun e w' => e = .returned (.tuple #[hdv (allocF p r n a).1, .int .i64 ((allocF p r n a).2.1 : Int)]) ∧ ∃ S', RMoved S g (allocF p r n a).2.2 w w' S' := by
  by_cases hb : landF p r = none ∨ n < 1 ∨ n > (p.size : Int) ∨ alignOk a = false
  · refine (rAlloc_bad w S g p r n a h hp hb).mono fun e w' ⟨h1, h2, h3, h4⟩ => ?_
    rw [h2, h3]
    exact ⟨h1, S, (RMoved.refl h).gr h4⟩
  · have hl : landF p r ≠ none := fun e => hb (.inl e)
    have ha : alignOk a = true := by
      cases hc : alignOk a with
      | true => rfl
      | false => exact absurd (.inr (.inr (.inr hc))) hb
    obtain ⟨i, hi⟩ := Option.ne_none_iff_exists'.1 hl
    obtain ⟨rfl, hi2, _⟩ := landF_some hi
    have h1 : ¬ n < 1 := fun e => hb (.inr (.inl e))
    have h2 : ¬ n > (p.size : Int) := fun e => hb (.inr (.inr (.inl e)))
    have har := alignOk_range ha
    obtain ⟨nn, rfl⟩ := Int.eq_ofNat_of_zero_le (show 0 ≤ n by omega)
    obtain ⟨al, rfl⟩ := Int.eq_ofNat_of_zero_le (show 0 ≤ a by omega)
    exact rAlloc_good w S g p i nn al h hp hi hi2 (by omega) (by omega) ha
theorem rAlloc_tz (h : Tz w0 g gm Z p q w) (r n a : Int) :
    Calls Try.prog 26 #[.pointer (some ⟨gm, 0, none⟩), .int .i64 r, .int .i64 n, .int .i64 a] w fun e w' => e = .returned (.tuple #[hdv (allocF q r n a).1, .int .i64 ((allocF q r n a).2.1 : Int)]) ∧ Chg (Tk w0 Z) w w' ∧ Tz w0 g gm Z p (allocF q r n a).2.2 w' :=
  h.right (alloc_ok h.okq r n a) fun S hp hq => rAlloc_any w S gm q r n a hp hq
theorem Store_tz (h : Tz w0 g gm Z p q w) (x : Hd) (t : Int) {ad : Option Addr} {cap : Nat} {b : List UInt8} (hb : Bytes w ad b) (hn : b.length ≤ 9223372036854775807) :
    Calls Try.prog 14 #[.pointer (some ⟨g, 0, none⟩), hdv x, .int .i64 t, .slice ad b.length cap] w fun e w' => e = .returned (.int .i64 ((storeF p x t b).1 : Int)) ∧ Chg (Tk w0 Z) w w' ∧ Tz w0 g gm Z (storeF p x t b).2 q w' :=
  h.left fun S hp => (Store_pl hp (x := x) (t := t) (cap := cap) hb rfl hn (e := (storeF p x t b).1) rfl).mono fun e w' ⟨h1, h2, h3⟩ => ⟨h1, S, h2, h3⟩
theorem rStore_tz (h : Tz w0 g gm Z p q w) (x : Hd) (t : Int) {b : List UInt8} (hn : b.length ≤ 9223372036854775807) :
    Calls Try.prog 30 #[.pointer (some ⟨gm, 0, none⟩), hdv x, .int .i64 t, .string (str b)] w fun e w' => e = .returned (.int .i64 ((storeF q x t b).1 : Int)) ∧ Chg (Tk w0 Z) w w' ∧ Tz w0 g gm Z p (storeF q x t b).2 w' :=
  h.right (store_ok h.okq x t b) fun S hp hq => (rStore_any w S gm q x t b hp hq hn).mono fun e w' ⟨h1, h2⟩ => ⟨h1, S, h2⟩
theorem Free_tz (h : Tz w0 g gm Z p q w) (r : Int) :
    Calls Try.prog 17 #[.pointer (some ⟨g, 0, none⟩), .int .i64 r] w fun e w' => e = .returned (.int .i64 ((freeF p r).1 : Int)) ∧ Chg (Tk w0 Z) w w' ∧ Tz w0 g gm Z (freeF p r).2 q w' :=
  h.left fun S hp => (Free_pl hp (r := r) (e := (freeF p r).1) rfl).mono fun e w' ⟨h1, h2, h3⟩ => ⟨h1, S, h2, h3⟩
theorem rFree_tz (h : Tz w0 g gm Z p q w) (r : Int) :
    Calls Try.prog 31 #[.pointer (some ⟨gm, 0, none⟩), .int .i64 r] w fun e w' => e = .returned (.int .i64 ((freeF q r).1 : Int)) ∧ Chg (Tk w0 Z) w w' ∧ Tz w0 g gm Z p (freeF q r).2 w' :=
  h.right (free_ok h.okq r) fun S hp hq => (rFree_any w S gm q r hp hq).mono fun e w' ⟨h1, h2⟩ => ⟨h1, S, h2⟩
theorem Load_tz (h : Tz w0 g gm Z p q w) (x : Hd) :
    Calls Try.prog 16 #[.pointer (some ⟨g, 0, none⟩), hdv x] w fun y w' => ∃ ad cap, y = .returned (.tuple #[.slice ad (loadF p x).1.length cap, .int .i64 ((loadF p x).2 : Int)]) ∧ Owns w' w.heap.size 5 1 ad cap (loadF p x).1.length (bv (loadF p x).1) ∧ Gr w w' := by
  obtain ⟨S, Sm, h, hz⟩ := h
  exact Load_pl h.pl (x := x) (b := (loadF p x).1) (e := (loadF p x).2) rfl
theorem rLoad_tz (h : Tz w0 g gm Z p q w) (x : Hd) :
    Calls Try.prog 29 #[.pointer (some ⟨gm, 0, none⟩), hdv x] w fun e w' => e = .returned (.tuple #[.string (str (loadF q x).1), .int .i64 ((loadF q x).2 : Int)]) ∧ Gr w w' := by
  obtain ⟨S, Sm, h, hz⟩ := h
  exact rLoad_any w Sm gm q x h.rm h.okq
theorem Slabs_tz (h : Tz w0 g gm Z p q w) (r : Int) :
    Calls Try.prog 18 #[.pointer (some ⟨g, 0, none⟩), .int .i64 r] w fun y w' => ∃ ad cap, y = .returned (.tuple #[.slice ad (slabsF p r).1.length cap, .int .i64 ((slabsF p r).2 : Int)]) ∧ Owns w' w.heap.size 3 1 ad cap (slabsF p r).1.length (iv (slabsF p r).1) ∧ Gr w w' := by
  obtain ⟨S, Sm, h, hz⟩ := h
  exact Slabs_pl h.pl (r := r) (b := (slabsF p r).1) (e := (slabsF p r).2) rfl
theorem rSlabs_tz (h : Tz w0 g gm Z p q w) (r : Int) :
    Calls Try.prog 32 #[.pointer (some ⟨gm, 0, none⟩), .int .i64 r] w fun e w' => ∃ ad cap, e = .returned (.tuple #[.slice ad (slabsF q r).1.length cap, .int .i64 ((slabsF q r).2 : Int)]) ∧ Row w ad (iv (slabsF q r).1) ∧ w = w' := by
  obtain ⟨S, Sm, h, hz⟩ := h
  exact rSlabs_any w Sm gm q r h.rm
theorem Raw_tz (h : Tz w0 g gm Z p q w) (r : Int) :
    Calls Try.prog 19 #[.pointer (some ⟨g, 0, none⟩), .int .i64 r] w fun y w' => ∃ ad cap, y = .returned (.tuple #[.slice ad (rawF p r).1.length cap, .int .i64 ((rawF p r).2 : Int)]) ∧ Owns w' w.heap.size 5 1 ad cap (rawF p r).1.length (bv (rawF p r).1) ∧ Gr w w' := by
  obtain ⟨S, Sm, h, hz⟩ := h
  exact Raw_pl h.pl (r := r) (b := (rawF p r).1) (e := (rawF p r).2) rfl
theorem Idle_tz (h : Tz w0 g gm Z p q w) : Calls Try.prog 20 #[.pointer (some ⟨g, 0, none⟩)] w fun e w' => e = .returned (.int .i64 (countF p : Int)) ∧ w = w' := by
  obtain ⟨S, Sm, h, hz⟩ := h
  exact Idle_pl h.pl
theorem rIdle_tz (h : Tz w0 g gm Z p q w) : Calls Try.prog 24 #[.pointer (some ⟨gm, 0, none⟩)] w fun e w' => e = .returned (.tuple #[.int .i64 (countF q : Int), .int .i64 (idleI q)]) ∧ w = w' := by
  obtain ⟨S, Sm, h, hz⟩ := h
  exact rIdle_any w Sm gm q h.rm h.okq
/-- the reference's slabs, as the law reads them -/
theorem Tz.bytes (h : Tz w0 g gm Z p q w) : ∃ ads cs, w.cell? ⟨gm, 1, none⟩ = some (.slice ads q.bytes.length cs) ∧ Row w ads (sv q.bytes) := by
  obtain ⟨S, Sm, h, hz⟩ := h
  obtain ⟨O, ads, cs, adt, ct, A, C, hx⟩ := h.rm
  exact ⟨ads, cs, hx.head.2.1, hx.row.row⟩
end
def Gens (p : PoolF) (G : Nat) : Prop := ∀ i, i < 256 → (landAt p i).gen ≤ G
theorem Gens.up {p : PoolF} {G : Nat} (h : Gens p G) : Gens p (G + 1) := fun i hi => Nat.le_succ_of_le (h i hi)
theorem Gens.make {p : PoolF} {G : Nat} (h : Gens p G) (hp : PoolOk p) : Gens (makeR p).2.2 (G + 1) := by
  unfold makeR
  cases hm : makeF p with
  | none => exact h.up
  | some i =>
    obtain ⟨h1, h2, _⟩ := makeF_some hm
    intro j hj
    have e := landAt_set p i j ⟨true, (landAt p i).gen + 1, [], 0⟩ (by rw [hp.ln]; exact h1)
    have e : landAt (makeAt p i) j = _ := e
    show (landAt (makeAt p i) j).gen ≤ G + 1
    rw [e]
    split
    · exact Nat.succ_le_succ (h i h1)
    · exact h.up j hj
theorem Gens.alloc {p : PoolF} {G : Nat} (h : Gens p G) (hp : PoolOk p) (r n a : Int) : Gens (allocF p r n a).2.2 (G + 1) := by
  refine Gens.up ?_
  unfold allocF
  cases hl : landF p r with
  | none => exact h
  | some i =>
    obtain ⟨_, hi, _⟩ := landF_some hl
    simp only
    split
    · exact h
    · split
      · cases idleF p with
        | none => exact h
        | some s =>
          intro j hj
          rw [landAt_fill (grow_lands hp i s) hi, landAt_grow hp hi, landAt_grow hp hi]
          rw [if_pos rfl]
          split
          · exact h i hi
          · exact h j hj
      · intro j hj
        rw [landAt_fill hp.ln hi]
        split
        · exact h i hi
        · exact h j hj
theorem Gens.store {p : PoolF} {G : Nat} (h : Gens p G) (x : Hd) (t : Int) (b : List UInt8) : Gens (storeF p x t b).2 (G + 1) := by
  refine Gens.up ?_
  unfold storeF
  split
  · split
    · exact h
    · exact h
  · exact h
theorem Gens.free {p : PoolF} {G : Nat} (h : Gens p G) (hp : PoolOk p) (r : Int) : Gens (freeF p r).2 (G + 1) := by
  refine Gens.up ?_
  unfold freeF
  cases hl : landF p r with
  | none => exact h
  | some i =>
    obtain ⟨_, hi, _⟩ := landF_some hl
    intro j hj
    show (landAt { freeSlabs p (landAt p i).slabs with lands := p.lands.set i ⟨false, (landAt p i).gen, [], 0⟩ } j).gen ≤ G
    rw [landAt_free hp hi]
    split
    · exact h i hi
    · exact h j hj
theorem Gens.new (a n : Nat) : Gens (newF a n) 0 := fun i _ => by rw [landAt_new]; exact Nat.le_refl _
/- of no pool -/
theorem Make_nil (w : World) : Calls Try.prog 12 #[.pointer none] w fun e w' => e = .returned (.tuple #[.int .i64 0, .int .i64 1]) ∧ w = w' := by
  go_enter Try.func12, Try.ntmps12
  go_wp2
  go_ret2
  exact ⟨rfl, rfl⟩
theorem pIdle_nil (w : World) : Calls Try.prog 20 #[.pointer none] w fun e w' => e = .returned (.int .i64 0) ∧ w = w' := by
  go_enter Try.func20, Try.ntmps20
  go_wp2
  go_ret
  exact ⟨rfl, rfl⟩
theorem pFree_nil (w : World) (r : Int) : Calls Try.prog 17 #[.pointer none, .int .i64 r] w fun e w' => e = .returned (.int .i64 1) ∧ w = w' := by
  go_enter Try.func17, Try.ntmps17
  go_wp2
  go_ret
  exact ⟨rfl, rfl⟩
theorem pSize_nil (w : World) : Calls Try.prog 23 #[.pointer none] w fun e w' => e = .returned (.int .i64 0) ∧ w = w' := by
  go_enter Try.func23, Try.ntmps23
  go_wp2
  go_ret
  exact ⟨rfl, rfl⟩
theorem wild_any (w : World) : Calls Try.prog 21 #[] w fun e w' => e = .returned (.pointer none) ∧ w = w' := by
  go_enter Try.func21, Try.ntmps21
  go_wp2
  go_ret
  exact ⟨rfl, rfl⟩
theorem Size_tz {w0 w : World} {g gm : Nat} {Z : Nat → Prop} {p q : PoolF} (h : Tz w0 g gm Z p q w) : Calls Try.prog 23 #[.pointer (some ⟨g, 0, none⟩)] w fun e w' => e = .returned (.int .i64 (p.size : Int)) ∧ w = w' := by
  obtain ⟨S, Sm, h, hz⟩ := h
  obtain ⟨ads, cs, adt, ct, A, C, bd, hx⟩ := h.pl.pool
  obtain ⟨c0, _, _⟩ := hx.head
  clear hx h hz
  go_enter Try.func23, Try.ntmps23
  go_wp2
  go_ret
  exact ⟨rfl, rfl⟩
set_option maxRecDepth 100000 in
theorem like_any (w : World) (x : Hd) : Calls Try.prog 27 #[hdv x] w fun e w' => e = .returned (hdv x) ∧ Gr w w' := by
  obtain ⟨xr, xg, xo, xl⟩ := x
  unfold hdv
  simp only
  have HB := Lib.hid (Blk.new (w.alloc (.cells #[.int .i64 xr, .int .i64 xg, .int .i64 xo, .int .i64 xl] 33)) 61 #[.int .i64 xr, .int .i64 xg, .int .i64 xo, .int .i64 xl])
  have b0 := Blk.new w 33 #[.int .i64 xr, .int .i64 xg, .int .i64 xo, .int .i64 xl]
  obtain ⟨c0, c1, c2, c3, _⟩ := Blk.four (b0.alloc (.cells #[.int .i64 0, .int .i64 0, .int .i64 0, .int .i64 0] 61))
  clear b0
  go_enter Try.func27, Try.ntmps27
  go_wp2
  have hb := HB.out
  rw [show (w.alloc (.cells #[.int .i64 xr, .int .i64 xg, .int .i64 xo, .int .i64 xl] 33)).heap.size = w.heap.size + 1 by simp] at hb
  obtain ⟨d0, d1, d2, d3, _⟩ := Blk.four hb
  refine bodyPost_ret (v := .agg #[.int .i64 xr, .int .i64 xg, .int .i64 xo, .int .i64 xl]) (by simp [results, Try.results27, go_sem, d0, d1, d2, d3]) rfl ⟨rfl, (Gr.alloc _ _).trans (Gr.alloc _ _)⟩
set_option maxRecDepth 100000 in
theorem Ints_any (w : World) (ad ad' : Option Addr) (cap cap' : Nat) (l : List Nat) (hl : l.length ≤ 9223372036854775807) (h : Row w ad (iv l)) (h' : Row w ad' (iv l)) :
    Calls Try.prog 33 #[.slice ad l.length cap, .slice ad' l.length cap'] w fun e w' => e = .returned (.bool true) ∧ Gr w w' := by
  have H := Lib.hid h; have H' := Lib.hid h'
  clear h h'
  go_enter Try.func33, Try.ntmps33
  go_wp2
  go_loopw [5] (fun v wr => ∃ k : Nat, k ≤ l.length ∧ v = .int .i64 (k : Int) ∧ Gr w wr) (fun v _ => l.length - (intOf v).toNat)
  case atStart => exact ⟨0, Nat.zero_le _, rfl, Gr.refl _⟩
  case round =>
    obtain ⟨k, hk, rfl, hg⟩ := hrel
    by_cases hkl : k < l.length
    · obtain ⟨b, off, e1, z1⟩   := (H.out.gr hg) k _ (iv_get l k _ (List.getElem?_eq_getElem hkl))
      obtain ⟨b', off', e2, z2⟩ := (H'.out.gr hg) k _ (iv_get l k _ (List.getElem?_eq_getElem hkl))
      subst e1 e2
      go_wp2
      go_quiet (fail)
      go_wp2
      go_roundw
      case rel => exact ⟨k + 1, hkl, by go_num, hg.trans (Gr.drewN _ _)⟩
      case measure => simp [intOf]; omega
    · obtain rfl : k = l.length := by omega
      go_wp2
      go_ret
      exact ⟨rfl, hg⟩
end Go.Proofs.Ytfnimpgphagnfaa
