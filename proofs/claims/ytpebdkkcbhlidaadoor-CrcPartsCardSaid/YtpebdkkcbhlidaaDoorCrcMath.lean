/- The plain law of layer 4 (crc): the register's step as a linear map of 32 bits, what bytes do to it, what a join does. No program is in sight here. -/
namespace Go.Proofs.YtpebdkkcbhlidaaDoor.Crc
set_option linter.unusedVariables false
set_option linter.unusedSimpArgs false

/-- one bit down -/
def stepF (r : BitVec 32) : BitVec 32 := (r >>> 1) ^^^ (-(r &&& 1#32) &&& 0x82F63B78#32)
def iterF : Nat → BitVec 32 → BitVec 32
  | 0, r => r
  | n + 1, r => iterF n (stepF r)
def byteF (r : BitVec 32) (x : UInt8) : BitVec 32 := iterF 8 (r ^^^ BitVec.ofNat 32 x.toNat)
def foldF (r : BitVec 32) (l : List UInt8) : BitVec 32 := l.foldl byteF r
def moreF (s : BitVec 32) (l : List UInt8) : BitVec 32 := ~~~ (foldF (~~~ s) l)
def sumF (l : List UInt8) : BitVec 32 := moreF 0#32 l
/-- the reference's bit -/
def bitF (r b : BitVec 32) : BitVec 32 := if (r ^^^ b).toNat % 2 = 1 then (r >>> 1) ^^^ 0x82F63B78#32 else r >>> 1
/-- bits of a word, the lowest first -/
def bitsF : Nat → BitVec 32 → BitVec 32 → BitVec 32
  | 0, r, _ => r
  | n + 1, r, x => bitsF n (bitF r (x &&& 1#32)) (x >>> 1)

theorem neg_one_and (c : BitVec 32) : -(1#32) &&& c = c := by
  have : -(1#32) = BitVec.allOnes 32 := by decide
  rw [this, BitVec.allOnes_and]
theorem low_cases (r : BitVec 32) : r &&& 1#32 = 0#32 ∨ r &&& 1#32 = 1#32 := by
  have h : (r &&& 1#32).toNat = r.toNat % 2 := by
    rw [BitVec.toNat_and]; exact Nat.and_two_pow_sub_one_eq_mod _ 1
  rcases Nat.mod_two_eq_zero_or_one r.toNat with h2 | h2
  · left; apply BitVec.eq_of_toNat_eq; rw [h, h2]; rfl
  · right; apply BitVec.eq_of_toNat_eq; rw [h, h2]; rfl
theorem low_xor (a b : BitVec 32) : (a ^^^ b) &&& 1#32 = (a &&& 1#32) ^^^ (b &&& 1#32) := by
  ext i hi; simp [Bool.and_xor_distrib_right]
theorem stepF_xor (a b : BitVec 32) : stepF (a ^^^ b) = stepF a ^^^ stepF b := by
  have hs : (a ^^^ b) >>> 1 = a >>> 1 ^^^ b >>> 1 := by ext i hi; simp
  have hm : -((a ^^^ b) &&& 1#32) &&& 0x82F63B78#32 = (-(a &&& 1#32) &&& 0x82F63B78#32) ^^^ (-(b &&& 1#32) &&& 0x82F63B78#32) := by
    rw [low_xor]
    rcases low_cases a with ha | ha <;> rcases low_cases b with hb | hb <;> rw [ha, hb] <;> decide
  unfold stepF
  rw [hs, hm]
  ac_rfl
theorem stepF_zero : stepF 0#32 = 0#32 := by decide
theorem iterF_xor (n : Nat) : ∀ a b, iterF n (a ^^^ b) = iterF n a ^^^ iterF n b := by
  induction n with
  | zero => intro a b; rfl
  | succ n ih => intro a b; simp only [iterF, stepF_xor, ih]
theorem iterF_zero (n : Nat) : iterF n 0#32 = 0#32 := by
  induction n with
  | zero => rfl
  | succ n ih => simp only [iterF, stepF_zero, ih]
theorem iterF_add (m n : Nat) : ∀ r, iterF (m + n) r = iterF n (iterF m r) := by
  induction m with
  | zero => intro r; simp [iterF]
  | succ m ih => intro r; rw [Nat.succ_add]; simp only [iterF, ih]
theorem iterF_succ' (n : Nat) (r : BitVec 32) : iterF (n + 1) r = stepF (iterF n r) := by
  rw [iterF_add n 1]; rfl

theorem xor_low (x : BitVec 32) : (x ^^^ (x &&& 1#32)) &&& 1#32 = 0#32 := by
  rw [low_xor]
  rcases low_cases x with h | h <;> rw [h] <;> decide
/-- a word whose lowest bit is off is only moved -/
theorem stepF_even {x : BitVec 32} (h : x &&& 1#32 = 0#32) : stepF x = x >>> 1 := by
  unfold stepF; rw [h]; simp
theorem bitF_eq (r b : BitVec 32) (hb : b = 0#32 ∨ b = 1#32) : bitF r b = stepF (r ^^^ b) := by
  have hlow : (r ^^^ b).toNat % 2 = ((r ^^^ b) &&& 1#32).toNat := by
    rw [BitVec.toNat_and]; exact (Nat.and_two_pow_sub_one_eq_mod _ 1).symm
  have hsh : (r ^^^ b) >>> 1 = r >>> 1 := by
    rcases hb with rfl | rfl
    · simp
    · ext i hi
      have : (1#32).getLsbD (1 + i) = false := by
        simp
      simp [this]
  unfold bitF stepF
  rw [hlow, hsh]
  rcases low_cases (r ^^^ b) with h | h <;> rw [h]
  · simp
  · rw [neg_one_and]; simp
theorem bitsF_iter (n : Nat) : ∀ r x : BitVec 32, x >>> n = 0#32 → bitsF n r x = iterF n (r ^^^ x) := by
  induction n with
  | zero => intro r x h; have : x = 0#32 := by simpa using h
            subst this; simp [bitsF, iterF]
  | succ n ih =>
    intro r x h
    have hx : x >>> 1 >>> n = 0#32 := by rw [← BitVec.shiftRight_add, Nat.add_comm]; exact h
    simp only [bitsF, iterF]
    rw [ih _ _ hx, bitF_eq _ _ (low_cases x)]
    congr 1
    have hsplit : r ^^^ x = (r ^^^ (x &&& 1#32)) ^^^ (x ^^^ (x &&& 1#32)) := by
      rw [BitVec.xor_assoc, BitVec.xor_comm x (x &&& 1#32), ← BitVec.xor_assoc (x &&& 1#32), BitVec.xor_self, BitVec.zero_xor]
    rw [hsplit, stepF_xor (r ^^^ _) (x ^^^ _), stepF_even (xor_low x)]
    congr 1
    ext i hi
    simp
theorem bitsF_snoc (n : Nat) : ∀ r x, bitsF (n + 1) r x = bitF (bitsF n r x) ((x >>> n) &&& 1#32) := by
  induction n with
  | zero => intro r x; simp [bitsF]
  | succ n ih =>
    intro r x
    rw [show bitsF (n + 1 + 1) r x = bitsF (n + 1) (bitF r (x &&& 1#32)) (x >>> 1) from rfl, ih, ← BitVec.shiftRight_add, Nat.add_comm 1 n]
    rfl
theorem byte_shr (x : UInt8) : BitVec.ofNat 32 x.toNat >>> 8 = 0#32 := by
  apply BitVec.eq_of_toNat_eq
  have := x.toNat_lt
  rw [BitVec.toNat_ushiftRight, BitVec.toNat_ofNat, Nat.shiftRight_eq_div_pow]
  simp; omega
/-- the reference's eight bits of a byte are the program's eight steps -/
theorem bitsF_byte (r : BitVec 32) (x : UInt8) : bitsF 8 r (BitVec.ofNat 32 x.toNat) = byteF r x := bitsF_iter 8 _ _ (byte_shr x)

theorem foldF_append (r : BitVec 32) (l m : List UInt8) : foldF r (l ++ m) = foldF (foldF r l) m := List.foldl_append
theorem foldF_snoc (r : BitVec 32) (l : List UInt8) (x : UInt8) : foldF r (l ++ [x]) = byteF (foldF r l) x := by
  rw [foldF_append]; rfl
theorem moreF_append (s : BitVec 32) (l m : List UInt8) : moreF s (l ++ m) = moreF (moreF s l) m := by
  unfold moreF; rw [foldF_append, BitVec.not_not]

/-- a sum as it is written, and back -/
def maskF (x : BitVec 32) : BitVec 32 := (x <<< 17 ||| x >>> 15) + 2726488792#32
def unmaskF (m : BitVec 32) : BitVec 32 := (m - 2726488792#32) <<< 15 ||| (m - 2726488792#32) >>> 17
theorem join_nat (i x y : Nat) (hx : x % 2 ^ i = 0) (hy : y < 2 ^ i) : x ||| y = x + y := by
  obtain ⟨q, rfl⟩ : ∃ q, x = 2 ^ i * q := ⟨x / 2 ^ i, by have := Nat.div_add_mod x (2 ^ i); omega⟩
  exact (Nat.two_pow_add_eq_or_of_lt hy q).symm
theorem rot_nat (y : BitVec 32) (i j : Nat) (hij : i + j = 32) : (y <<< i ||| y >>> j).toNat = y.toNat * 2 ^ i % 4294967296 + y.toNat / 2 ^ j := by
  have hy := y.isLt
  rw [BitVec.toNat_or, BitVec.toNat_shiftLeft, BitVec.toNat_ushiftRight, Nat.shiftLeft_eq, Nat.shiftRight_eq_div_pow]
  refine join_nat i _ _ ?_ ?_
  · rw [show (2 : Nat) ^ 32 = 2 ^ i * 2 ^ j from by rw [← Nat.pow_add, hij]]
    rw [Nat.mul_comm, Nat.mul_mod_mul_left]
    exact Nat.mul_mod_right _ _
  · rw [Nat.div_lt_iff_lt_mul (Nat.two_pow_pos _), ← Nat.pow_add, hij]; exact hy
theorem maskF_nat (x : BitVec 32) : (maskF x).toNat = (x.toNat % 32768 * 131072 + x.toNat / 32768 + 2726488792) % 4294967296 := by
  unfold maskF
  rw [BitVec.toNat_add, rot_nat x 17 15 rfl]
  simp only [BitVec.toNat_ofNat]
  have := x.isLt
  omega
theorem unmaskF_nat (x : BitVec 32) : (unmaskF x).toNat = (x.toNat + 1568478504) % 4294967296 % 131072 * 32768 + (x.toNat + 1568478504) % 4294967296 / 131072 := by
  have h : (x - 2726488792#32).toNat = (x.toNat + 1568478504) % 4294967296 := by
    rw [BitVec.toNat_sub]; simp only [BitVec.toNat_ofNat]; have := x.isLt; omega
  unfold unmaskF
  rw [rot_nat _ 15 17 rfl, h]
  omega
theorem mask_core (q r : Nat) (hr : r < 32768) (hq : q < 131072) : ((r * 131072 + q + 2726488792) % 4294967296 + 1568478504) % 4294967296 = r * 131072 + q := by omega
theorem mask_core2 (q r : Nat) (hr : r < 32768) (hq : q < 131072) : (r * 131072 + q) % 131072 * 32768 + (r * 131072 + q) / 131072 = q * 32768 + r := by omega
theorem unmask_mask (x : BitVec 32) : unmaskF (maskF x) = x := by
  apply BitVec.eq_of_toNat_eq
  have hx := x.isLt
  rw [unmaskF_nat, maskF_nat, mask_core _ _ (by omega) (by omega), mask_core2 _ _ (by omega) (by omega)]
  omega
theorem umask_core (q r : Nat) (hr : r < 131072) (hq : q < 32768) : (r * 32768 + q) % 32768 * 131072 + (r * 32768 + q) / 32768 = q * 131072 + r := by omega
theorem mask_unmask (x : BitVec 32) : maskF (unmaskF x) = x := by
  apply BitVec.eq_of_toNat_eq
  have hx := x.isLt
  rw [maskF_nat, unmaskF_nat, umask_core _ _ (by omega) (by omega)]
  omega

/- a change of some bits -/
theorem stepF_eq_zero {x : BitVec 32} (h : stepF x = 0#32) : x = 0#32 := by
  rcases low_cases x with hl | hl
  · rw [stepF_even hl] at h
    have h2 : x.toNat % 2 = 0 := by
      have := congrArg BitVec.toNat hl
      rw [BitVec.toNat_and] at this
      have e : x.toNat &&& (1#32).toNat = x.toNat % 2 := Nat.and_two_pow_sub_one_eq_mod _ 1
      rw [e] at this; exact this
    have h3 : x.toNat / 2 = 0 := by
      have := congrArg BitVec.toNat h
      rw [BitVec.toNat_ushiftRight, Nat.shiftRight_eq_div_pow] at this; exact this
    apply BitVec.eq_of_toNat_eq
    show x.toNat = 0
    omega
  · exfalso
    unfold stepF at h
    rw [hl, neg_one_and] at h
    have := congrArg (fun v => BitVec.getLsbD v 31) h
    simp at this
theorem iterF_eq_zero (n : Nat) : ∀ x, iterF n x = 0#32 → x = 0#32 := by
  induction n with
  | zero => intro x h; exact h
  | succ n ih => intro x h; exact stepF_eq_zero (ih _ h)
theorem xor_cancel_left (a b c : BitVec 32) (h : a ^^^ b = a ^^^ c) : b = c := by
  have := congrArg (fun v => a ^^^ v) h
  simpa [← BitVec.xor_assoc] using this
theorem stepF_shl (i : Nat) (h : i + 1 < 32) : stepF (1#32 <<< (i + 1)) = 1#32 <<< i := by
  have hlow : (1#32 <<< (i + 1)) &&& 1#32 = 0#32 := by
    ext j hj
    simp only [BitVec.getElem_and, BitVec.getElem_shiftLeft, BitVec.getElem_one, BitVec.getElem_zero]
    by_cases h0 : j = 0
    · subst h0; simp
    · simp [h0]
  rw [stepF_even hlow]
  ext j hj
  simp only [BitVec.getElem_ushiftRight, BitVec.getLsbD_shiftLeft, BitVec.getElem_shiftLeft, BitVec.getElem_one, BitVec.getLsbD_one]
  by_cases h1 : j = i
  · subst h1
    have : 1 + j < 32 := by omega
    simp [this]; omega
  · by_cases h2 : j < i
    · have h3 : 1 + j < i + 1 := by omega
      simp [h2, h3]
    · have h3 : ¬ (1 + j - (i + 1) = 0) := by omega
      have h4 : ¬ (j - i = 0) := by omega
      simp [h2, h3, h4]
theorem iterF_shl (i : Nat) (h : i < 32) : iterF i (1#32 <<< i) = 1#32 := by
  induction i with
  | zero => rfl
  | succ i ih => rw [show iterF (i + 1) (1#32 <<< (i + 1)) = iterF i (stepF (1#32 <<< (i + 1))) from rfl, stepF_shl i h]; exact ih (by omega)
theorem iterF_shl_of (N i : Nat) (h : i < 32) (hN : i ≤ N) : iterF N (1#32 <<< i) = iterF (N - i) 1#32 := by
  rw [show N = i + (N - i) from by omega, iterF_add, iterF_shl i h]; congr 1; omega
theorem foldF_xor (l : List UInt8) : ∀ r d, foldF (r ^^^ d) l = foldF r l ^^^ iterF (8 * l.length) d := by
  induction l with
  | nil => intro r d; rfl
  | cons x l ih =>
    intro r d
    have : byteF (r ^^^ d) x = byteF r x ^^^ iterF 8 d := by
      unfold byteF
      rw [← iterF_xor]; congr 1; ac_rfl
    show foldF (byteF (r ^^^ d) x) l = foldF (byteF r x) l ^^^ _
    rw [this, ih, List.length_cons, Nat.mul_succ, Nat.add_comm, iterF_add]
theorem byteF_xor (r : BitVec 32) (x y : UInt8) : byteF r (x ^^^ y) = byteF r x ^^^ iterF 8 (BitVec.ofNat 32 y.toNat) := by
  unfold byteF
  rw [← iterF_xor]; congr 1
  have : BitVec.ofNat 32 (x ^^^ y).toNat = BitVec.ofNat 32 x.toNat ^^^ BitVec.ofNat 32 y.toNat := by
    rw [UInt8.toNat_xor]
    apply BitVec.eq_of_toNat_eq
    have hx := x.toNat_lt
    have hy := y.toNat_lt
    have hxy : x.toNat ^^^ y.toNat < 2 ^ 8 := Nat.xor_lt_two_pow hx hy
    rw [BitVec.toNat_xor, BitVec.toNat_ofNat, BitVec.toNat_ofNat, BitVec.toNat_ofNat, Nat.mod_eq_of_lt (by omega), Nat.mod_eq_of_lt (by omega), Nat.mod_eq_of_lt (by omega)]
  rw [this]; ac_rfl
theorem foldF_set (r : BitVec 32) (l : List UInt8) (q : Nat) (h : q < l.length) (y : UInt8) :
    foldF r (l.set q (l[q] ^^^ y)) = foldF r l ^^^ iterF (8 * (l.length - q)) (BitVec.ofNat 32 y.toNat) := by
  have e1 : l.set q (l[q] ^^^ y) = l.take q ++ ((l[q] ^^^ y) :: l.drop (q + 1)) := List.set_eq_take_append_cons_drop.trans (by rw [if_pos h])
  have e2 : l = l.take q ++ (l[q] :: l.drop (q + 1)) := by rw [List.getElem_cons_drop, List.take_append_drop]
  rw [e1]
  conv => rhs; rw [e2]
  rw [foldF_append, foldF_append]
  generalize foldF r (l.take q) = R
  show foldF (byteF R (l[q] ^^^ y)) (l.drop (q + 1)) = foldF (byteF R l[q]) (l.drop (q + 1)) ^^^ _
  rw [byteF_xor, foldF_xor, ← iterF_add]
  congr 2
  simp
  omega
theorem byte_one_shl (r : Nat) (h : r < 8) : BitVec.ofNat 32 (UInt8.ofNat (2 ^ r)).toNat = 1#32 <<< r := by
  match r, h with
  | 0, _ => rfl
  | 1, _ => rfl
  | 2, _ => rfl
  | 3, _ => rfl
  | 4, _ => rfl
  | 5, _ => rfl
  | 6, _ => rfl
  | 7, _ => rfl
/-- one bit of the text, turned -/
theorem sumF_flip (l : List UInt8) (p : Nat) (h : p / 8 < l.length) :
    sumF (l.set (p / 8) (l[p / 8] ^^^ UInt8.ofNat (2 ^ (p % 8)))) = sumF l ^^^ iterF (8 * l.length - p) 1#32 := by
  unfold sumF moreF
  rw [foldF_set _ _ _ h, byte_one_shl _ (Nat.mod_lt _ (by decide)), iterF_shl_of _ _ (by omega) (by omega), BitVec.not_xor_left]
  congr 2
  omega
theorem sumF_flip' (l : List UInt8) (q r : Nat) (h : q < l.length) (hr : r < 8) :
    sumF (l.set q (l[q] ^^^ UInt8.ofNat (2 ^ r))) = sumF l ^^^ iterF (8 * l.length - (8 * q + r)) 1#32 := by
  have e1 : (8 * q + r) / 8 = q := by omega
  have e2 : (8 * q + r) % 8 = r := by omega
  have := sumF_flip l (8 * q + r) (by rw [e1]; exact h)
  simp only [e1, e2] at this
  exact this
/-- the bits of a word below a place -/
def accF (t : BitVec 32) : Nat → BitVec 32
  | 0 => 0#32
  | i + 1 => accF t i ^^^ (if t.getLsbD i then 1#32 <<< i else 0#32)
theorem accF_bit (t : BitVec 32) (i : Nat) (hi : i ≤ 32) : ∀ j, (accF t i).getLsbD j = (decide (j < i) && t.getLsbD j) := by
  induction i with
  | zero => intro j; simp [accF]
  | succ i ih =>
    intro j
    have hb : (if t.getLsbD i then 1#32 <<< i else 0#32).getLsbD j = (decide (j = i) && t.getLsbD i) := by
      split
      · rename_i ht
        rw [ht]
        simp only [BitVec.getLsbD_shiftLeft, BitVec.getLsbD_one]
        by_cases h1 : j = i
        · subst h1; simp; omega
        · by_cases h2 : j < i
          · simp [h1, h2]
          · have : ¬ (j - i = 0) := by omega
            simp [h1, this]
      · rename_i ht
        simp at ht
        simp [ht]
    rw [accF, BitVec.getLsbD_xor, ih (by omega), hb]
    by_cases h1 : j = i
    · subst h1; simp
    · have : (j < i + 1) = (j < i) := by simp; omega
      simp [h1, this]
theorem accF_ne (t : BitVec 32) (i : Nat) (hi : i < 32) : (accF t (i + 1) ≠ 0#32) ↔ (accF t i ≠ 0#32 ∨ t.getLsbD i = true) := by
  have hz : ∀ (v : BitVec 32), v ≠ 0#32 ↔ ∃ j, v.getLsbD j = true := by
    intro v
    constructor
    · intro h
      rcases Classical.em (∃ j, v.getLsbD j = true) with h1 | h1
      · exact h1
      · exact absurd (BitVec.eq_of_getLsbD_eq fun j _ => by
          have : ¬ v.getLsbD j = true := fun h2 => h1 ⟨j, h2⟩
          simpa using this) h
    · rintro ⟨j, hj⟩ rfl
      simp at hj
  rw [hz, hz]
  simp only [accF_bit t i (by omega), accF_bit t (i + 1) hi]
  constructor
  · rintro ⟨j, hj⟩
    simp at hj
    by_cases h : j = i
    · subst h; exact .inr hj.2
    · exact .inl ⟨j, by simp [hj.2]; omega⟩
  · rintro (⟨j, hj⟩ | h)
    · simp at hj; exact ⟨j, by simp [hj.2]; omega⟩
    · exact ⟨i, by simp [h]⟩
def nz (x : BitVec 32) : Bool := decide (x ≠ 0#32)
theorem accF_on (t : BitVec 32) (i : Nat) (hi : i < 32) (h : t.getLsbD i = true) : accF t (i + 1) = accF t i ^^^ 1#32 <<< i ∧ nz (accF t (i + 1)) = true := by
  refine ⟨by rw [accF, if_pos h], ?_⟩
  unfold nz
  exact decide_eq_true ((accF_ne t i hi).2 (.inr h))
theorem accF_off (t : BitVec 32) (i : Nat) (h : ¬ t.getLsbD i = true) : accF t (i + 1) = accF t i := by
  rw [accF, if_neg h]; simp
theorem rel_on (l cl : List UInt8) (t : BitVec 32) (k i q r : Nat) (hq : q < cl.length) (hr : r < 8) (hk : k + i = 8 * q + r) (hi : i < 32) (hl : cl.length = l.length) (hb : t.getLsbD i = true)
    (hs : sumF cl = sumF l ^^^ iterF (8 * l.length - k) (accF t i)) :
    sumF (cl.set q (cl[q] ^^^ UInt8.ofNat (2 ^ r))) = sumF l ^^^ iterF (8 * l.length - k) (accF t (i + 1)) := by
  rw [sumF_flip' _ _ _ hq hr, hs, (accF_on t i hi hb).1, iterF_xor, iterF_shl_of _ _ hi (by omega), ← BitVec.xor_assoc, hl]
  congr 2
  omega
/-- what tells -/
theorem tells {s c d : BitVec 32} {N : Nat} (h : c = s ^^^ iterF N d) : (c ≠ s) ↔ d ≠ 0#32 := by
  subst h
  constructor
  · intro h hd; subst hd; rw [iterF_zero] at h; simp at h
  · intro h he
    have : iterF N d = 0#32 := xor_cancel_left s _ _ (by rw [he]; simp)
    exact h (iterF_eq_zero N d this)

theorem foldF_three : ∀ (x a b c : List UInt8) (r s t : BitVec 32), a.length = x.length → b.length = x.length → c.length = x.length →
    (∀ j, j < x.length → x.getD j 0 = a.getD j 0 ^^^ b.getD j 0 ^^^ c.getD j 0) → foldF (r ^^^ s ^^^ t) x = foldF r a ^^^ foldF s b ^^^ foldF t c
  | [], a, b, c, r, s, t, ha, hb, hc, _ => by
    rw [List.eq_nil_of_length_eq_zero ha, List.eq_nil_of_length_eq_zero hb, List.eq_nil_of_length_eq_zero hc]; rfl
  | x :: xs, a :: as, b :: bs, c :: cs, r, s, t, ha, hb, hc, h => by
    have h0 : x = a ^^^ b ^^^ c := by simpa using h 0 (by simp)
    have ih := foldF_three xs as bs cs (byteF r a) (byteF s b) (byteF t c) (by simpa using ha) (by simpa using hb) (by simpa using hc)
      (fun j hj => by simpa using h (j + 1) (by simpa using hj))
    have hbyte : byteF (r ^^^ s ^^^ t) x = byteF r a ^^^ byteF s b ^^^ byteF t c := by
      have hx : ∀ p q : UInt8, BitVec.ofNat 32 (p ^^^ q).toNat = BitVec.ofNat 32 p.toNat ^^^ BitVec.ofNat 32 q.toNat := by
        intro p q
        rw [UInt8.toNat_xor]
        apply BitVec.eq_of_toNat_eq
        have hp := p.toNat_lt
        have hq := q.toNat_lt
        have hpq : p.toNat ^^^ q.toNat < 2 ^ 8 := Nat.xor_lt_two_pow hp hq
        rw [BitVec.toNat_xor, BitVec.toNat_ofNat, BitVec.toNat_ofNat, BitVec.toNat_ofNat, Nat.mod_eq_of_lt (by omega), Nat.mod_eq_of_lt (by omega), Nat.mod_eq_of_lt (by omega)]
      subst h0
      unfold byteF
      rw [← iterF_xor, ← iterF_xor, hx, hx]; congr 1; ac_rfl
    show foldF (byteF (r ^^^ s ^^^ t) x) xs = _
    rw [hbyte, ih]; rfl
theorem sumF_three (x a b c : List UInt8) (ha : a.length = x.length) (hb : b.length = x.length) (hc : c.length = x.length)
    (h : ∀ j, j < x.length → x.getD j 0 = a.getD j 0 ^^^ b.getD j 0 ^^^ c.getD j 0) : sumF x = sumF a ^^^ sumF b ^^^ sumF c := by
  have e := foldF_three x a b c (~~~ 0#32) (~~~ 0#32) (~~~ 0#32) ha hb hc h
  have e0 : (~~~ 0#32) ^^^ (~~~ 0#32) ^^^ (~~~ 0#32) = ~~~ 0#32 := by decide
  rw [e0] at e
  unfold sumF moreF
  rw [e]
  generalize foldF _ a = A
  generalize foldF _ b = B
  generalize foldF _ c = C
  rw [← BitVec.not_xor_left, ← BitVec.not_xor_left, BitVec.not_xor_right]
  ext i hi
  simp only [BitVec.getElem_not, BitVec.getElem_xor]
  cases A[i] <;> cases B[i] <;> cases C[i] <;> rfl

end Go.Proofs.YtpebdkkcbhlidaaDoor.Crc
