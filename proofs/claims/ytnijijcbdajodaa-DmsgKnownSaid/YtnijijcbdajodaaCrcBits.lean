/-
  The plain law of sums, bit by bit: sums are linear; at most 32 turned bits next to one another are found. No program. No condition.
-/
import Derived.Test.YtnijijcbdajodaaCrc2
import Derived.Test.YtnijijcbdajodaaCrcMath
namespace Go.Proofs.Ytnijijcbdajodaa.Bits
open Go.RowKit

/-- What one bit does to a state. -/
def st (n : BitVec 32) (b : Bool) : BitVec 32 :=
  if (n ^^^ BitVec.ofNat 32 b.toNat).getLsbD 0 then ((n ^^^ BitVec.ofNat 32 b.toNat) >>> 1) ^^^ 3988292384#32 else (n ^^^ BitVec.ofNat 32 b.toNat) >>> 1
def feedB (n : BitVec 32) (bs : List Bool) : BitVec 32 := bs.foldl st n
def val : List Bool → Nat
  | [] => 0
  | b :: bs => b.toNat + 2 * val bs

theorem val_lt (bs : List Bool) : val bs < 2 ^ bs.length := by
  induction bs with
  | nil => simp [val]
  | cons b bs ih => cases b <;> simp [val, Nat.pow_succ] <;> omega
theorem val_zero (bs : List Bool) : val bs = 0 ↔ ∀ b ∈ bs, b = false := by
  induction bs with
  | nil => simp [val]
  | cons b bs ih =>
    rw [List.forall_mem_cons, ← ih]
    cases b <;> simp [val]
    omega

theorem st_lin (n m : BitVec 32) (a b : Bool) : st (n ^^^ m) (a ^^ b) = st n a ^^^ st m b := by
  have e : (n ^^^ m) ^^^ BitVec.ofNat 32 (a ^^ b).toNat = (n ^^^ BitVec.ofNat 32 a.toNat) ^^^ (m ^^^ BitVec.ofNat 32 b.toNat) := by
    have : BitVec.ofNat 32 (a ^^ b).toNat = BitVec.ofNat 32 a.toNat ^^^ BitVec.ofNat 32 b.toNat := by cases a <;> cases b <;> rfl
    rw [this]
    apply BitVec.eq_of_getLsbD_eq
    intro i _
    simp only [BitVec.getLsbD_xor]
    cases n.getLsbD i <;> cases m.getLsbD i <;> cases (BitVec.ofNat 32 a.toNat).getLsbD i <;> cases (BitVec.ofNat 32 b.toNat).getLsbD i <;> rfl
  unfold st
  rw [e]
  generalize n ^^^ BitVec.ofNat 32 a.toNat = x
  generalize m ^^^ BitVec.ofNat 32 b.toNat = y
  rw [BitVec.getLsbD_xor, BitVec.ushiftRight_xor_distrib]
  generalize x >>> 1 = p
  generalize y >>> 1 = q
  cases x.getLsbD 0 <;> cases y.getLsbD 0 <;> simp
  · rw [BitVec.xor_assoc]
  · rw [BitVec.xor_assoc, BitVec.xor_assoc]; congr 1; rw [BitVec.xor_comm]
  · apply BitVec.eq_of_getLsbD_eq
    intro i _
    simp only [BitVec.getLsbD_xor]
    cases p.getLsbD i <;> cases q.getLsbD i <;> cases (3988292384#32).getLsbD i <;> rfl

theorem feed_lin (cs bs : List Bool) (h : cs.length = bs.length) (n m : BitVec 32) : feedB (n ^^^ m) (List.zipWith xor cs bs) = feedB n cs ^^^ feedB m bs := by
  induction cs generalizing bs n m with
  | nil => cases bs with
    | nil => rfl
    | cons b bs => simp at h
  | cons a cs ih => cases bs with
    | nil => simp at h
    | cons b bs =>
      simp only [List.zipWith_cons_cons, feedB, List.foldl_cons]
      rw [st_lin]
      exact ih bs (by simpa using h) _ _

theorem xor_one (N : Nat) : (N ^^^ 1) % 2 = 1 - N % 2 ∧ (N ^^^ 1) / 2 = N / 2 := by
  constructor
  · have h := Nat.testBit_xor N 1 0
    simp only [Nat.testBit_zero, decide_true] at h
    by_cases h0 : N % 2 = 1
    · simp only [h0, decide_true, Bool.xor_self, decide_eq_false_iff_not] at h; omega
    · simp only [h0, decide_false, Bool.false_xor, decide_eq_true_eq] at h; omega
  · have h : (N ^^^ 1) >>> 1 = (N >>> 1) ^^^ (1 >>> 1) := Nat.shiftRight_xor_distrib
    simpa [Nat.shiftRight_eq_div_pow] using h

theorem feed_zero (bs : List Bool) (h : bs.length ≤ 32) (n : BitVec 32) : feedB n bs = 0#32 ↔ n.toNat = val bs := by
  induction bs generalizing n with
  | nil => simp [feedB, val, BitVec.toNat_eq]
  | cons b bs ih =>
    simp only [List.length_cons] at h
    have hv := val_lt bs
    have hp : 2 ^ bs.length ≤ 2 ^ 31 := Nat.pow_le_pow_right (by omega) (by omega)
    show feedB (st n b) bs = 0#32 ↔ _
    rw [ih (by omega)]
    have hx : (n ^^^ BitVec.ofNat 32 b.toNat).toNat = n.toNat ^^^ b.toNat := by
      rw [BitVec.toNat_xor]; cases b <;> simp
    have hlsb : (n ^^^ BitVec.ofNat 32 b.toNat).getLsbD 0 = decide ((n.toNat ^^^ b.toNat) % 2 = 1) := by
      rw [← hx]; simp only [BitVec.getLsbD, Nat.testBit_zero]
    have hm : (n.toNat ^^^ b.toNat) % 2 = (if b then 1 - n.toNat % 2 else n.toNat % 2) ∧ (n.toNat ^^^ b.toNat) / 2 = n.toNat / 2 := by
      cases b
      · simp
      · exact xor_one n.toNat
    have hval : val (b :: bs) = b.toNat + 2 * val bs := rfl
    rw [hval]
    unfold st
    rw [hlsb]
    by_cases hc : (n.toNat ^^^ b.toNat) % 2 = 1
    · rw [if_pos (by rw [hc]; rfl)]
      have hbig : 2 ^ 31 ≤ (((n ^^^ BitVec.ofNat 32 b.toNat) >>> 1) ^^^ 3988292384#32).toNat := by
        have ht : ((((n ^^^ BitVec.ofNat 32 b.toNat) >>> 1) ^^^ 3988292384#32)).getLsbD 31 = true := by
          rw [BitVec.getLsbD_xor, BitVec.getLsbD_ushiftRight, BitVec.getLsbD_of_ge _ _ (by omega)]; decide
        exact Nat.ge_two_pow_of_testBit ht
      generalize (((n ^^^ BitVec.ofNat 32 b.toNat) >>> 1) ^^^ 3988292384#32).toNat = X at *
      generalize n.toNat = N at *
      generalize val bs = V at *
      generalize 2 ^ bs.length = L at *
      rw [hm.1] at hc
      cases b
      · simp only [Bool.toNat_false, Bool.false_eq_true, if_false] at *; omega
      · simp only [Bool.toNat_true, if_true] at *; omega
    · rw [if_neg (by simpa using hc), BitVec.toNat_ushiftRight, hx, Nat.shiftRight_eq_div_pow, Nat.pow_one, hm.2]
      generalize n.toNat = N at *
      generalize val bs = V at *
      generalize 2 ^ bs.length = L at *
      rw [hm.1] at hc
      cases b
      · simp only [Bool.toNat_false, Bool.false_eq_true, if_false] at *; omega
      · simp only [Bool.toNat_true, if_true] at *; omega

/-- A window of at most 32 bits, zeros before it and behind it. -/
theorem feed_window (D : Nat → Bool) (a : Nat) (hD : ∀ j, j < a ∨ a + 32 ≤ j → D j = false) (N : Nat) :
    feedB 0#32 ((List.range N).map D) = 0#32 ↔ ∀ j, j < N → D j = false := by
  have hsnoc : ∀ k, feedB 0#32 ((List.range (k + 1)).map D) = st (feedB 0#32 ((List.range k).map D)) (D k) := by
    intro k; simp [List.range_succ, feedB]
  have hst : ∀ x : BitVec 32, st x false = 0#32 ↔ x = 0#32 := by
    intro x
    have := feed_zero [false] (by simp) x
    simp only [feedB, List.foldl_cons, List.foldl_nil, val] at this
    rw [this, BitVec.toNat_eq]; simp
  have h1 : ∀ k, k ≤ a → feedB 0#32 ((List.range k).map D) = 0#32 := by
    intro k
    induction k with
    | zero => intro _; rfl
    | succ k ih => intro hk; rw [hsnoc, hD k (.inl (by omega)), hst]; exact ih (by omega)
  have h2 : ∀ m, m ≤ 32 → (feedB 0#32 ((List.range (a + m)).map D) = 0#32 ↔ ∀ j, j < a + m → D j = false) := by
    intro m hm
    have e : (List.range (a + m)).map D = (List.range a).map D ++ (List.range m).map (fun i => D (a + i)) := by
      rw [List.range_add, List.map_append, List.map_map]; rfl
    have e2 : feedB 0#32 ((List.range (a + m)).map D) = feedB 0#32 ((List.range m).map (fun i => D (a + i))) := by
      rw [e]; simp only [feedB, List.foldl_append]; rw [show List.foldl st 0#32 ((List.range a).map D) = 0#32 from h1 a (Nat.le_refl _)]
    rw [e2, feed_zero _ (by simpa using hm)]
    constructor
    · intro h j hj
      by_cases hja : j < a
      · exact hD j (.inl hja)
      · have := (val_zero _).1 h.symm (D j) (List.mem_map.2 ⟨j - a, by simp; omega, by rw [show a + (j - a) = j from by omega]⟩)
        exact this
    · intro h
      symm
      refine (val_zero _).2 ?_
      intro b hb
      obtain ⟨i, hi, rfl⟩ := List.mem_map.1 hb
      exact h _ (by simp at hi; omega)
  have h3 : ∀ k, (feedB 0#32 ((List.range (a + 32 + k)).map D) = 0#32 ↔ ∀ j, j < a + 32 + k → D j = false) := by
    intro k
    induction k with
    | zero => exact h2 32 (Nat.le_refl _)
    | succ k ih =>
      rw [show a + 32 + (k + 1) = (a + 32 + k) + 1 from rfl, hsnoc, hD _ (.inr (by omega)), hst, ih]
      constructor
      · intro h j hj
        by_cases e : j = a + 32 + k
        · exact hD j (.inr (by omega))
        · exact h j (by omega)
      · intro h j hj; exact h j (by omega)
  rcases Nat.lt_or_ge N a with h | h
  · simp only [h1 N (by omega), true_iff]; intro j hj; exact hD j (.inl (by omega))
  · rcases Nat.lt_or_ge N (a + 32) with h' | h'
    · have := h2 (N - a) (by omega); rwa [show a + (N - a) = N from by omega] at this
    · have := h3 (N - (a + 32)); rwa [show a + 32 + (N - (a + 32)) = N from by omega] at this

/-! ### Bytes -/
def bitsOf (c : UInt8) : Nat → List Bool
  | 0 => []
  | k + 1 => bitsOf c k ++ [c.toNat.testBit k]
/-- Bit j of bytes. -/
def bit (l : List UInt8) (j : Nat) : Bool := (l.getD (j / 8) 0).toNat.testBit (j % 8)
def bitsAll (l : List UInt8) : List Bool := (List.range (8 * l.length)).map (bit l)

theorem feedB_append (n : BitVec 32) (xs ys : List Bool) : feedB n (xs ++ ys) = feedB (feedB n xs) ys := by simp [feedB]

theorem half (a : BitVec 32) : (a.toNat : Int) / (2 : Int) = ((a >>> 1).toNat : Int) := by
  rw [BitVec.toNat_ushiftRight, Nat.shiftRight_eq_div_pow]; simp

theorem stepI_eq (n : BitVec 32) (b : Bool) : stepI n.toNat (b.toNat : Int) = ((st n b).toNat : Int) := by
  have e0 : ((b.toNat : Nat) : Int) = (((BitVec.ofNat 32 b.toNat).toNat : Nat) : Int) := by cases b <;> rfl
  unfold stepI st
  rw [e0, Crc.xor_int]
  generalize n ^^^ BitVec.ofNat 32 b.toNat = x
  have h1 : bits BinOp.and IntKind.u32 (x.toNat : Int) 1 = ((x.toNat % 2 : Nat) : Int) := by
    have := u32_and_nat x.toNat 1 x.isLt (by decide)
    rw [Nat.and_one_is_mod] at this
    exact this
  have h2 : x.getLsbD 0 = decide (x.toNat % 2 = 1) := by simp only [BitVec.getLsbD, Nat.testBit_zero]
  rw [h1, h2, half]
  have h3 := Crc.xor_int (x >>> 1) 3988292384#32
  have h4 : (((3988292384#32).toNat : Nat) : Int) = 3988292384 := rfl
  rw [h4] at h3
  rw [h3]
  by_cases h : x.toNat % 2 = 1
  · rw [h]; rfl
  · have h0 : x.toNat % 2 = 0 := by omega
    rw [h0]; rfl

theorem bitI_eq (c : UInt8) (k : Nat) : bits BinOp.and .u32 ((c.toNat : Int) / 2 ^ k % 4294967296) 1 = (((c.toNat.testBit k).toNat : Nat) : Int) := by
  have e : ((c.toNat : Int) / 2 ^ k % 4294967296) = ((c.toNat / 2 ^ k : Nat) : Int) := by
    have h1 : ((c.toNat : Int) / 2 ^ k) = ((c.toNat / 2 ^ k : Nat) : Int) := by simp
    have h2 : c.toNat / 2 ^ k ≤ c.toNat := Nat.div_le_self _ _
    have h3 : c.toNat < 256 := c.toNat_lt
    rw [h1]
    generalize c.toNat / 2 ^ k = q at *
    omega
  have h2 : c.toNat / 2 ^ k ≤ c.toNat := Nat.div_le_self _ _
  have h3 : c.toNat < 256 := c.toNat_lt
  have := u32_and_nat (c.toNat / 2 ^ k) 1 (by omega) (by decide)
  rw [Nat.and_one_is_mod] at this
  rw [e]
  rw [show bits BinOp.and IntKind.u32 ((c.toNat / 2 ^ k : Nat) : Int) 1 = ((c.toNat / 2 ^ k % 2 : Nat) : Int) from this, Nat.testBit_eq_decide_div_mod_eq]
  by_cases h : c.toNat / 2 ^ k % 2 = 1
  · rw [h]; rfl
  · have h0 : c.toNat / 2 ^ k % 2 = 0 := by omega
    rw [h0]; rfl

theorem byteI_eq (n : BitVec 32) (c : UInt8) (k : Nat) : byteI n.toNat c k = ((feedB n (bitsOf c k)).toNat : Int) := by
  induction k with
  | zero => rfl
  | succ k ih => rw [byteI, ih, bitI_eq, stepI_eq, bitsOf, feedB_append]; rfl

theorem bitsAll_snoc (l : List UInt8) (c : UInt8) : bitsAll (l ++ [c]) = bitsAll l ++ bitsOf c 8 := by
  have h1 : (List.range (8 * l.length)).map (bit (l ++ [c])) = bitsAll l := by
    apply List.map_congr_left
    intro j hj
    simp only [List.mem_range] at hj
    unfold bit
    rw [show (l ++ [c]).getD (j / 8) 0 = l.getD (j / 8) 0 from by
      simp only [List.getD]; rw [List.getElem?_append_left (by omega)]]
  have h2 : ∀ k, k < 8 → bit (l ++ [c]) (8 * l.length + k) = c.toNat.testBit k := by
    intro k hk
    unfold bit
    rw [show (8 * l.length + k) / 8 = l.length from by omega, show (8 * l.length + k) % 8 = k from by omega]
    rw [show (l ++ [c]).getD l.length 0 = c from by simp [List.getD]]
  unfold bitsAll at *
  rw [List.length_append, List.length_singleton, Nat.mul_add, Nat.mul_one, List.range_add, List.map_append, h1]
  congr 1
  simp only [bitsOf, List.nil_append, List.map_map]
  rw [show List.range 8 = [0, 1, 2, 3, 4, 5, 6, 7] from rfl]
  have h20 := h2 0 (by omega)
  rw [Nat.add_zero] at h20
  simp [h2, h20]

theorem feedI_eq (n : BitVec 32) (l : List UInt8) : feedI n.toNat l = ((feedB n (bitsAll l)).toNat : Int) := by
  suffices h : ∀ r : List UInt8, feedI n.toNat r.reverse = ((feedB n (bitsAll r.reverse)).toNat : Int) by
    have := h l.reverse; rwa [List.reverse_reverse] at this
  intro r
  induction r with
  | nil => rfl
  | cons c r ih => rw [List.reverse_cons, feedI_snoc, ih, byteI_eq, bitsAll_snoc, feedB_append]

def ones : BitVec 32 := 4294967295#32
def sum (l : List UInt8) : BitVec 32 := feedB ones (bitsAll l) ^^^ ones
theorem sumI_eq (l : List UInt8) : sumI l = ((sum l).toNat : Int) := by
  unfold sumI
  rw [show (4294967295 : Int) = ((ones.toNat : Nat) : Int) from rfl, feedI_eq, Crc.xor_int]
  rfl

theorem zip_bits (x y : List UInt8) (h : x.length = y.length) : List.zipWith xor (bitsAll x) (bitsAll y) = (List.range (8 * x.length)).map fun j => bit x j ^^ bit y j := by
  unfold bitsAll
  rw [h]
  apply List.ext_getElem?
  intro i
  simp only [List.getElem?_zipWith, List.getElem?_map]
  cases (List.range (8 * y.length))[i]? <;> rfl

theorem feed_diff (x y : List UInt8) (h : x.length = y.length) (n : BitVec 32) : feedB n (bitsAll x) ^^^ feedB n (bitsAll y) = feedB 0#32 ((List.range (8 * x.length)).map fun j => bit x j ^^ bit y j) := by
  rw [← feed_lin _ _ (by simp [bitsAll, h]), zip_bits x y h, BitVec.xor_self]

/-- Sums join: what two texts of one length differ in tells in what their sums do. -/
theorem sum_diff (x y : List UInt8) (h : x.length = y.length) : sum x ^^^ sum y = feedB 0#32 ((List.range (8 * x.length)).map fun j => bit x j ^^ bit y j) := by
  rw [← feed_diff x y h ones]
  unfold sum
  apply BitVec.eq_of_getLsbD_eq
  intro i _
  simp only [BitVec.getLsbD_xor]
  cases (feedB ones (bitsAll x)).getLsbD i <;> cases (feedB ones (bitsAll y)).getLsbD i <;> cases ones.getLsbD i <;> rfl

theorem sumI_join (x y x' y' : List UInt8) (h : x.length = y.length) (hx : x'.length = x.length) (hy : y'.length = y.length)
    (hd : ∀ j, j < 8 * x.length → (bit x' j ^^ bit y' j) = (bit x j ^^ bit y j)) :
    bits BinOp.xor .u32 (sumI x') (sumI y') = bits BinOp.xor .u32 (sumI x) (sumI y) := by
  rw [sumI_eq, sumI_eq, sumI_eq, sumI_eq, Crc.xor_int, Crc.xor_int, sum_diff x' y' (by omega), sum_diff x y h, hx]
  congr 3
  apply List.map_congr_left
  intro j hj
  exact hd j (by simpa using hj)

/-! ### Sealed bytes with bits turned -/
theorem val_append (xs ys : List Bool) : val (xs ++ ys) = val xs + 2 ^ xs.length * val ys := by
  induction xs with
  | nil => simp [val]
  | cons x xs ih =>
    rw [List.cons_append, val, ih, val, List.length_cons, Nat.pow_succ, Nat.mul_add]
    rw [show 2 ^ xs.length * 2 * val ys = 2 * (2 ^ xs.length * val ys) from by rw [Nat.mul_comm (2 ^ xs.length) 2, Nat.mul_assoc]]
    omega
def bitsN (c : Nat) : Nat → List Bool
  | 0 => []
  | k + 1 => bitsN c k ++ [c.testBit k]
theorem bitsOf_eq (c : UInt8) (k : Nat) : bitsOf c k = bitsN c.toNat k := by
  induction k with
  | zero => rfl
  | succ k ih => rw [bitsOf, bitsN, ih]
theorem bitsOf_length (c : UInt8) (k : Nat) : (bitsOf c k).length = k := by
  induction k with
  | zero => rfl
  | succ k ih => rw [bitsOf, List.length_append, ih]; rfl
theorem val_all : ∀ c : Fin 256, val (bitsN c.val 8) = c.val := by decide +kernel
theorem val_byte (c : UInt8) : val (bitsOf c 8) = c.toNat := by
  rw [bitsOf_eq]; exact val_all ⟨c.toNat, c.toNat_lt⟩
theorem bitsAll_four (a b c d : UInt8) : bitsAll [a, b, c, d] = bitsOf a 8 ++ bitsOf b 8 ++ bitsOf c 8 ++ bitsOf d 8 := by
  rw [show [a, b, c, d] = ((([] ++ [a]) ++ [b]) ++ [c]) ++ [d] from rfl, bitsAll_snoc, bitsAll_snoc, bitsAll_snoc, bitsAll_snoc]; rfl
theorem val_four (a b c d : UInt8) : val (bitsAll [a, b, c, d]) = a.toNat + 256 * b.toNat + 65536 * c.toNat + 16777216 * d.toNat := by
  rw [bitsAll_four, val_append, val_append, val_append, val_byte, val_byte, val_byte, val_byte]
  simp only [List.length_append, bitsOf_length]
theorem num8_nat (n : Nat) (h : n < 256) : (num8 (n : Int)).toNat = n := by
  unfold num8; simp; omega
def tailI (l : List UInt8) : List UInt8 := [num8 (sumI l % 256), num8 (sumI l / 256 % 256), num8 (sumI l / 65536 % 256), num8 (sumI l / 16777216 % 256)]
theorem val_tail (l : List UInt8) : val (bitsAll (tailI l)) = (sum l).toNat := by
  unfold tailI
  rw [val_four, sumI_eq]
  have h : (sum l).toNat < 4294967296 := (sum l).isLt
  generalize (sum l).toNat = S at *
  have e0 : ((S : Int) % 256) = ((S % 256 : Nat) : Int) := by omega
  have e1 : ((S : Int) / 256 % 256) = ((S / 256 % 256 : Nat) : Int) := by omega
  have e2 : ((S : Int) / 65536 % 256) = ((S / 65536 % 256 : Nat) : Int) := by omega
  have e3 : ((S : Int) / 16777216 % 256) = ((S / 16777216 % 256 : Nat) : Int) := by omega
  rw [e0, e1, e2, e3, num8_nat _ (by omega), num8_nat _ (by omega), num8_nat _ (by omega), num8_nat _ (by omega)]
  omega
theorem sealI_tail (l : List UInt8) : sealI l = l ++ tailI l := rfl

theorem xor_zero_iff (a b : BitVec 32) : a ^^^ b = 0#32 ↔ a = b := by
  constructor
  · intro h
    apply BitVec.eq_of_getLsbD_eq
    intro i _
    have := congrArg (fun x => x.getLsbD i) h
    simp only [BitVec.getLsbD_xor, BitVec.getLsbD_zero] at this
    cases h1 : a.getLsbD i <;> cases h2 : b.getLsbD i <;> simp_all
  · rintro rfl; exact BitVec.xor_self

theorem bitsAll_append (p q : List UInt8) : bitsAll (p ++ q) = bitsAll p ++ bitsAll q := by
  suffices h : ∀ r : List UInt8, bitsAll (p ++ r.reverse) = bitsAll p ++ bitsAll r.reverse by
    have := h q.reverse; rwa [List.reverse_reverse] at this
  intro r
  induction r with
  | nil => simp [bitsAll]
  | cons c r ih => rw [List.reverse_cons, ← List.append_assoc, bitsAll_snoc, ih, bitsAll_snoc, List.append_assoc]

/-- What is fed by sealed bytes hangs on nothing. -/
theorem feed_sealed (l : List UInt8) : feedB ones (bitsAll (sealI l)) = feedB ones ((List.range 32).map fun _ => false) := by
  rw [← xor_zero_iff, sealI_tail, bitsAll_append, feedB_append]
  have hl : (bitsAll (tailI l)).length = 32 := by simp [bitsAll, tailI]
  rw [← feed_lin _ _ (by rw [hl]; simp)]
  have e : feedB ones (bitsAll l) ^^^ ones = sum l := rfl
  have z : List.zipWith xor (bitsAll (tailI l)) ((List.range 32).map fun _ => false) = bitsAll (tailI l) := by
    apply List.ext_getElem?
    intro i
    rw [List.getElem?_zipWith, List.getElem?_map]
    rcases Nat.lt_or_ge i 32 with h | h
    · rw [List.getElem?_range h]
      cases (bitsAll (tailI l))[i]? <;> simp
    · rw [List.getElem?_eq_none (by omega)]
  rw [e, z, feed_zero _ (by omega), val_tail]

theorem bytes_ext (p q : List UInt8) (h : p.length = q.length) (hb : ∀ j, j < 8 * p.length → bit p j = bit q j) : p = q := by
  apply List.ext_getElem h
  intro i h1 h2
  apply UInt8.toNat_inj.1
  apply Nat.eq_of_testBit_eq
  intro k
  rcases Nat.lt_or_ge k 8 with hk | hk
  · have := hb (8 * i + k) (by omega)
    unfold bit at this
    rw [show (8 * i + k) / 8 = i from by omega, show (8 * i + k) % 8 = k from by omega] at this
    simpa [List.getD, h1, h2] using this
  · have h3 : ∀ c : UInt8, c.toNat.testBit k = false := by
      intro c
      apply Nat.testBit_lt_two_pow
      have := c.toNat_lt
      have : 2 ^ 8 ≤ 2 ^ k := Nat.pow_le_pow_right (by omega) hk
      omega
    rw [h3, h3]

/-- Sealed bytes, some bits of which are turned, are sealed bytes just if what is turned feeds to nothing. -/
theorem open_turned (l t : List UInt8) (h : t.length = (sealI l).length) :
    (openI t).2 = true ↔ feedB 0#32 ((List.range (8 * t.length)).map fun j => bit t j ^^ bit (sealI l) j) = 0#32 := by
  rw [← feed_diff t (sealI l) h ones, xor_zero_iff, feed_sealed]
  have hl : (sealI l).length = l.length + 4 := by simp [sealI]
  have h4 : 4 ≤ t.length := by omega
  have e1 : (openI t).2 = true ↔ sealI (t.take (t.length - 4)) = t := by
    unfold openI
    by_cases hs : sealI (t.take (t.length - 4)) = t
    · rw [if_pos ⟨h4, hs⟩]; simp [hs]
    · rw [if_neg (by simp [hs])]; simp [hs]
  rw [e1]
  have et : t = t.take (t.length - 4) ++ t.drop (t.length - 4) := (List.take_append_drop _ _).symm
  have hq : (t.drop (t.length - 4)).length = 4 := by rw [List.length_drop]; omega
  generalize t.take (t.length - 4) = p at *
  generalize t.drop (t.length - 4) = q at *
  subst et
  rw [sealI_tail, List.append_cancel_left_eq]
  rw [← feed_sealed p, sealI_tail, bitsAll_append, bitsAll_append, feedB_append, feedB_append, ← xor_zero_iff, feed_diff q (tailI p) (by rw [hq]; rfl), feed_zero _ (by simp [hq])]
  constructor
  · rintro rfl
    symm
    refine (val_zero _).2 ?_
    intro b hb
    obtain ⟨j, _, rfl⟩ := List.mem_map.1 hb
    simp
  · intro hv
    refine (bytes_ext q (tailI p) (by rw [hq]; rfl) ?_).symm
    intro j hj
    have := (val_zero _).1 hv.symm (bit q j ^^ bit (tailI p) j) (List.mem_map.2 ⟨j, by simpa using hj, rfl⟩)
    cases h1 : bit q j <;> cases h2 : bit (tailI p) j <;> simp_all

/-- The law: bits turned within thirty-two next to one another. -/
theorem turned_law (l t : List UInt8) (h : t.length = (sealI l).length) (D : Nat → Bool) (a : Nat) (hD : ∀ j, j < a ∨ a + 32 ≤ j → D j = false)
    (hb : ∀ j, j < 8 * t.length → bit t j = (bit (sealI l) j ^^ D j)) : (openI t).2 = true ↔ ∀ j, j < 8 * t.length → D j = false := by
  rw [open_turned l t h, ← feed_window D a hD]
  rw [show (List.range (8 * t.length)).map (fun j => bit t j ^^ bit (sealI l) j) = (List.range (8 * t.length)).map D from by
    apply List.map_congr_left
    intro j hj
    rw [hb j (by simpa using hj)]
    cases bit (sealI l) j <;> simp]
end Go.Proofs.Ytnijijcbdajodaa.Bits
