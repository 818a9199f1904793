/- A region that draws its order and holds calls which store, one behind the other: a ghost counts those that are done. No program is in sight here. -/
import Derived.Test.YtfnimpgphagnfaaGhostA
import Derived.Test.YtfnimpgphagnfaaRegionMem
namespace Go.Proofs.Ytfnimpgphagnfaa
set_option linter.unusedVariables false
set_option linter.unusedSimpArgs false
open Go.RowKit
structure KInv (K : Nat → World → Prop) (m : Nat) (s : World × Nat) : Prop where
  le : s.2 ≤ m
  at_ : K s.2 s.1
structure KLe (T : Nat → Prop) (K : Nat → World → Prop) (m : Nat) (s s' : World × Nat) : Prop where
  ord : s.2 ≤ s'.2
  chg : Chg T s.1 s'.1
  inv : KInv K m s → KInv K m s'
def AtK (k : Nat) (s : World × Nat) : Prop := k ≤ s.2
def PreK (f : Nat → Nat) (k : Nat) (s : World × Nat) : Prop := s.2 ≤ f k
section
variable {P : Program} {T : Nat → Prop} {K : Nat → World → Prop} {m : Nat} {f : Nat → Nat}
theorem PreK.start {w : World} (k : Nat) : PreK f k (w, 0) := Nat.zero_le _
theorem KLe.refl (s : World × Nat) : KLe T K m s s := ⟨Nat.le_refl _, Chg.refl _, fun h => h⟩
theorem KLe.trans (a b c : World × Nat) (h : KLe T K m a b) (k : KLe T K m b c) : KLe T K m a c := ⟨Nat.le_trans h.ord k.ord, h.chg.trans k.chg (fun _ h => .inl h), fun x => k.inv (h.inv x)⟩
theorem AtK.stable (x : Value) (k : Nat) : StableG (KLe T K m) (IsS x (AtK k)) := fun _ _ _ ⟨e, h⟩ q => ⟨e, Nat.le_trans h q.ord⟩
/-- a call that moves on to the next stage -/
theorem enterK {i a : Nat} {fn : FuncId} {args : Array Value} {w' : World} {x : Value} (hf : ∀ k, k ≠ i → f k ≠ a) (hm : a + 1 ≤ m) (h : Calls P fn args w' fun e w'' => e = .returned x ∧ Chg T w' w'' ∧ K (a + 1) w'') :
    growG P (LePg (KLe T K m) (PreK f) i) (w', a) (IsS x (AtK (a + 1))) (.ok (.enter fn args) w') :=
  growG_enter (h.mono fun e w'' ⟨he, hc, hk⟩ => ⟨_, a + 1, he, ⟨⟨Nat.le_succ _, hc, fun _ => ⟨hm, hk⟩⟩, fun k hk hp => by
    have h1 := hf k hk
    unfold PreK at hp ⊢
    show a + 1 ≤ f k
    have : a ≤ f k := hp
    omega⟩, rfl, Nat.le_refl _⟩)
/-- a call that makes memory alone -/
theorem stayK {i a : Nat} {fn : FuncId} {args : Array Value} {w' : World} {x : Value} (hK : ∀ k w w', K k w → Gr w w' → K k w') (h : Calls P fn args w' fun e w'' => e = .returned x ∧ Gr w' w'') :
    growG P (LePg (KLe T K m) (PreK f) i) (w', a) (IsG x) (.ok (.enter fn args) w') :=
  growG_enter (h.mono fun e w'' ⟨he, hg⟩ => ⟨_, a, he, ⟨⟨Nat.le_refl _, hg.chg, fun q => ⟨q.le, hK _ _ _ q.at_ hg⟩⟩, fun k _ hp => hp⟩, rfl⟩)
/-- the same, of a value known by the stage it is called at -/
theorem stayS {i a : Nat} {fn : FuncId} {args : Array Value} {w' : World} {x : Value} {p : World × Nat → Prop} (hK : ∀ k w w', K k w → Gr w w' → K k w') (hp : ∀ w'', Gr w' w'' → p (w'', a)) (h : Calls P fn args w' fun e w'' => e = .returned x ∧ Gr w' w'') :
    growG P (LePg (KLe T K m) (PreK f) i) (w', a) (IsS x p) (.ok (.enter fn args) w') :=
  growG_enter (h.mono fun e w'' ⟨he, hg⟩ => ⟨_, a, he, ⟨⟨Nat.le_refl _, hg.chg, fun q => ⟨q.le, hK _ _ _ q.at_ hg⟩⟩, fun k _ hp => hp⟩, rfl, hp _ hg⟩)
end
end Go.Proofs.Ytfnimpgphagnfaa
