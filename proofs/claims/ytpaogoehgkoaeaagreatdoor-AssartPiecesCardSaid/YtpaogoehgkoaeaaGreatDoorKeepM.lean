/- Layer 16 (keep) in plain words: versions in groups of one key, what is kept of them, pieces. No program is in sight here. -/
import Derived.Test.YtpaogoehgkoaeaaGreatDoorBunB4
namespace Go.Proofs.YtpaogoehgkoaeaaGreatDoor
set_option linter.unusedVariables false
set_option linter.unusedSimpArgs false
open Go.RowKit Ikey Varint
/-- the versions of each key, behind those of the key that is on -/
def groupG : List Ci → List Ci → List (List Ci)
  | _, [] => []
  | now, c :: r => if r = [] ∨ (r.headD zeroC).key ≠ c.key then (now ++ [c]) :: groupG [] r else groupG (now ++ [c]) r
def groupF (l : List Ci) : List (List Ci) := groupG [] l
/-- is the version kept, of which the numbers at which somebody looks and the number ahead are these? -/
def keptB (looks : List Int) (top : Int) (c : Ci) : Bool := decide (looks.countP (· < c.seq) < looks.length ∧ looks.getD (looks.countP (· < c.seq)) 0 < top)
def keptG (looks : List Int) : Int → List Ci → List Ci
  | _, [] => []
  | top, c :: r => if keptB looks top c = true then c :: keptG looks c.seq r else keptG looks c.seq r
/-- without the versions at the end that tell that a key goes -/
def trimD (bottom : Bool) (l : List Ci) : List Ci := if bottom = true then (l.reverse.dropWhile (fun c => decide (c.kind = 0))).reverse else l
def oneF (looks : List Int) (bottom : Bool) (l : List Ci) : List Ci := trimD bottom (keptG looks 72057594037927936 l)
def looksF (looks : List Int) : List Int := ((72057594037927935 :: looks.map (min · 72057594037927935)).mergeSort fun x y => decide (x ≤ y))
def keepF (l : List Ci) (looks : List Int) (bottom : Bool) : List Ci := (groupF l).flatMap (oneF (looksF looks) bottom)
def weightF (l : List Ci) : Nat := (l.map fun c => c.key.length + c.val.length).sum
/-- pieces, as rows of groups -/
def cutG (size : Int) : List (List Ci) → Nat → List (List Ci) → List (List (List Ci))
  | now, _, [] => if now = [] then [] else [now]
  | now, n, g :: r => if size ≤ (n : Int) then now :: cutG size [g] (weightF g + 16 * g.length) r else cutG size (now ++ [g]) (n + (weightF g + 16 * g.length)) r
def piecesF (l : List Ci) (size : Int) : List (List (List Ci)) := cutG size [] 0 (groupF l)
/-- groups: each of one key, and another key in the next -/
def Grp : List (List Ci) → Prop
  | [] => True
  | g :: G => g ≠ [] ∧ (∀ x ∈ g, x.key = (g.headD zeroC).key) ∧ (∀ h T, G = h :: T → (h.headD zeroC).key ≠ (g.headD zeroC).key) ∧ Grp G
theorem Grp.left {A B : List (List Ci)} (h : Grp (A ++ B)) : Grp A := by
  induction A with
  | nil => trivial
  | cons g A ih =>
    obtain ⟨h1, h2, h3, h4⟩ := h
    exact ⟨h1, h2, fun h T e => h3 h (T ++ B) (by rw [e]; rfl), ih h4⟩
theorem Grp.right {A B : List (List Ci)} (h : Grp (A ++ B)) : Grp B := by
  induction A with
  | nil => exact h
  | cons g A ih => exact ih h.2.2.2
theorem Grp.ne {A : List (List Ci)} (h : Grp A) : ∀ g ∈ A, g ≠ [] := by
  induction A with
  | nil => intro g hg; simp at hg
  | cons a A ih =>
    intro g hg
    rcases List.mem_cons.1 hg with rfl | hg
    · exact h.1
    · exact ih h.2.2.2 g hg
theorem group_flat (l : List Ci) : ∀ now, (l = [] → now = []) → (groupG now l).flatten = now ++ l := by
  induction l with
  | nil => intro now h; rw [h rfl]; rfl
  | cons c r ih =>
    intro now _
    rw [groupG]
    split
    · rw [List.flatten_cons, ih [] (fun _ => rfl)]; simp
    · rename_i h
      rw [ih (now ++ [c]) (fun e => absurd (.inl e) h)]; simp
theorem groupF_flat (l : List Ci) : (groupF l).flatten = l :=
  group_flat l [] (fun _ => rfl)
theorem group_grp (l : List Ci) : ∀ now, (∀ x ∈ now, ∀ c r, l = c :: r → x.key = c.key) → Grp (groupG now l) ∧ ∀ g G, groupG now l = g :: G → (g.headD zeroC).key = ((now ++ l).headD zeroC).key := by
  induction l with
  | nil => intro now _; exact ⟨trivial, fun g G e => by cases e⟩
  | cons c r ih =>
    intro now hn
    have hk : ∀ x ∈ now, x.key = c.key := fun x hx => hn x hx c r rfl
    have hhd : ((now ++ [c]).headD zeroC).key = c.key := by
      cases now with
      | nil => rfl
      | cons a t => exact hk a (by simp)
    have hhd2 : ((now ++ c :: r).headD zeroC).key = c.key := by
      cases now with
      | nil => rfl
      | cons a t => exact hk a (by simp)
    have hall : ∀ x ∈ now ++ [c], x.key = c.key := by
      intro x hx
      rcases List.mem_append.1 hx with hx | hx
      · exact hk x hx
      · rw [List.mem_singleton.1 hx]
    rw [groupG]
    split
    · rename_i h
      obtain ⟨i1, i2⟩ := ih [] (fun x hx => by simp at hx)
      refine ⟨⟨by simp, fun x hx => by rw [hall x hx, hhd], fun h' T e => ?_, i1⟩, fun g G e => ?_⟩
      · have hh := i2 h' T e
        rw [hh, hhd, List.nil_append]
        rcases h with h | h
        · rw [h] at e; cases e
        · exact h
      · rw [← (List.cons.inj e).1, hhd, hhd2]
    · rename_i h
      have hr : ∀ x ∈ now ++ [c], ∀ d s, r = d :: s → x.key = d.key := by
        intro x hx d s e
        have h2 : ¬ (r.headD zeroC).key ≠ c.key := fun e => h (.inr e)
        rw [e] at h2
        have h3 : d.key = c.key := Decidable.not_not.1 h2
        rw [hall x hx, h3]
      obtain ⟨i1, i2⟩ := ih (now ++ [c]) hr
      refine ⟨i1, fun g G e => ?_⟩
      rw [i2 g G e]
      congr 2
      simp
theorem groupF_grp (l : List Ci) : Grp (groupF l) := (group_grp l [] (fun x hx => by simp at hx)).1
/-- a row of groups is that of its versions -/
theorem group_one (g : List Ci) (R : List Ci) : ∀ now, g ≠ [] → (∀ x ∈ g, ∀ y ∈ g, x.key = y.key) → (∀ d s, R = d :: s → ∀ x ∈ g, d.key ≠ x.key) → groupG now (g ++ R) = (now ++ g) :: groupG [] R := by
  induction g with
  | nil => intro now h; exact absurd rfl h
  | cons c t ih =>
    intro now _ hk hR
    rw [List.cons_append, groupG]
    cases t with
    | nil =>
      rw [if_pos, List.nil_append]
      cases R with
      | nil => exact .inl rfl
      | cons d s => exact .inr (hR d s rfl c (by simp))
    | cons d s =>
      rw [if_neg, ih (now ++ [c]) (by simp) (fun x hx y hy => hk x (List.mem_cons_of_mem _ hx) y (List.mem_cons_of_mem _ hy)) (fun d' s' e x hx => hR d' s' e x (List.mem_cons_of_mem _ hx))]
      · simp
      · rintro (h | h)
        · cases h
        · exact h (hk d (by simp) c (by simp))
theorem group_of : ∀ (G : List (List Ci)), Grp G → groupF G.flatten = G
  | [], _ => rfl
  | g :: G, h => by
    obtain ⟨h1, h2, h3, h4⟩ := h
    have ih := group_of G h4
    unfold groupF at ih ⊢
    rw [List.flatten_cons, group_one g G.flatten [] h1 (fun x hx y hy => by rw [h2 x hx, h2 y hy]), List.nil_append, ih]
    intro d s e x hx
    cases G with
    | nil => cases e
    | cons h T =>
      have hne := h4.1
      have := h3 h T rfl
      cases h with
      | nil => exact absurd rfl hne
      | cons a t =>
        have hd : a = d := (List.cons.inj e).1
        rw [← hd, h2 x hx]
        exact this
theorem cut_flat (size : Int) : ∀ (r : List (List Ci)) (now : List (List Ci)) (n : Nat), (cutG size now n r).flatten = now ++ r
  | [], now, n => by
    rw [cutG]
    split
    · rename_i h; rw [h]; rfl
    · simp
  | g :: r, now, n => by
    rw [cutG]
    split
    · rw [List.flatten_cons, cut_flat size r]; simp
    · rw [cut_flat size r]; simp
theorem cut_ne (size : Int) (hs : 1 ≤ size) : ∀ (r : List (List Ci)) (now : List (List Ci)) (n : Nat), (now = [] → n = 0) → ∀ p ∈ cutG size now n r, p ≠ []
  | [], now, n, _, p, hp => by
    rw [cutG] at hp
    split at hp
    · simp at hp
    · rename_i h; rw [List.mem_singleton.1 hp]; exact h
  | g :: r, now, n, hn, p, hp => by
    rw [cutG] at hp
    split at hp
    · rename_i h
      rcases List.mem_cons.1 hp with rfl | hp
      · intro e; have := hn e; omega
      · exact cut_ne size hs r [g] _ (fun e => by cases e) p hp
    · exact cut_ne size hs r (now ++ [g]) _ (fun e => by simp at e) p hp
theorem pieces_flat (l : List Ci) (size : Int) : ((piecesF l size).map List.flatten).flatten = l := by
  have h : ∀ X : List (List (List Ci)), (X.map List.flatten).flatten = X.flatten.flatten := by
    intro X
    induction X with
    | nil => rfl
    | cons a X ih => simp [ih]
  rw [h]
  unfold piecesF
  rw [cut_flat, List.nil_append, groupF_flat]
/-- each piece's groups are its own -/
theorem piece_grp (l : List Ci) (size : Int) : ∀ p ∈ piecesF l size, Grp p := by
  have h : ∀ X : List (List (List Ci)), Grp X.flatten → ∀ p ∈ X, Grp p := by
    intro X
    induction X with
    | nil => intro _ p hp; simp at hp
    | cons a X ih =>
      intro hX p hp
      rw [List.flatten_cons] at hX
      rcases List.mem_cons.1 hp with rfl | hp
      · exact hX.left
      · exact ih hX.right p hp
  refine h _ ?_
  unfold piecesF
  rw [cut_flat, List.nil_append]
  exact groupF_grp l
theorem piece_ne (l : List Ci) (size : Int) (hs : 1 ≤ size) : ∀ p ∈ piecesF l size, p.flatten ≠ [] := by
  intro p hp e
  have h1 := cut_ne size hs (groupF l) [] 0 (fun _ => rfl) p hp
  have h2 := (piece_grp l size p hp).ne
  cases p with
  | nil => exact h1 rfl
  | cons g G =>
    have := h2 g (by simp)
    rw [List.flatten_cons] at e
    exact this (List.append_eq_nil_iff.1 e).1
/-- what is kept of pieces is kept of all -/
theorem keep_pieces (l : List Ci) (size : Int) (looks : List Int) (bottom : Bool) : ((piecesF l size).map fun p => keepF p.flatten looks bottom).flatten = keepF l looks bottom := by
  have hp := piece_grp l size
  have hf : (piecesF l size).flatten = groupF l := by unfold piecesF; rw [cut_flat, List.nil_append]
  unfold keepF
  rw [← hf]
  generalize piecesF l size = X at *
  clear hf
  induction X with
  | nil => rfl
  | cons a X ih =>
    rw [List.map_cons, List.flatten_cons, List.flatten_cons, List.flatMap_append, group_of a (hp a (by simp)), ih (fun p h => hp p (List.mem_cons_of_mem _ h))]
end Go.Proofs.YtpaogoehgkoaeaaGreatDoor
