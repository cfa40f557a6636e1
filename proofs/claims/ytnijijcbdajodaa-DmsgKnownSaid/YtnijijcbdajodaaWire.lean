/-
  The plain law of numbers and texts as bytes: what is laid is taken back, and what is taken was laid just so. No program. Condition: numbers below 2^64.
-/
import Derived.WalkKit
namespace Go.Proofs.Ytnijijcbdajodaa.Wire
set_option linter.unusedVariables false
set_option linter.unusedSimpArgs false

/-- A number's digits (f more of them at most). -/
def put : Nat → Nat → List UInt8
  | 0, n => [UInt8.ofNat n]
  | f + 1, n => if n < 128 then [UInt8.ofNat n] else UInt8.ofNat (128 + n % 128) :: put f (n / 128)
def putNum (n : Nat) : List UInt8 := put 9 n
def putText (t : List UInt8) : List UInt8 := putNum t.length ++ t
/-- Is digit i odd? -/
def odd (i : Nat) (c : UInt8) : Bool := (decide (0 < i) && c == 0) || (i == 9 && decide (1 < c.toNat))
/-- The number that goes on at digit i. -/
def num : Nat → Nat → List UInt8 → Option (Nat × List UInt8)
  | _, _, [] => none
  | i, n, c :: l => if 10 ≤ i then none else if odd i c then none else if c.toNat < 128 then some (n + c.toNat * 128 ^ i, l) else num (i + 1) (n + (c.toNat - 128) * 128 ^ i) l
def takeNum (l : List UInt8) : Option (Nat × List UInt8) := num 0 0 l
/-- A reader: what is left, or bad. -/
abbrev Rd := Option (List UInt8)
def rNum : Rd → Nat × Rd
  | none => (0, none)
  | some l => match takeNum l with
    | none => (0, none)
    | some (n, r) => (n, some r)
def rText (r : Rd) : List UInt8 × Rd :=
  match rNum r with
  | (_, none) => ([], none)
  | (n, some l) => if l.length < n then ([], none) else (l.take n, some (l.drop n))

theorem ofNat_nat (n : Nat) (h : n < 256) : (UInt8.ofNat n).toNat = n := by rw [UInt8.toNat_ofNat']; exact Nat.mod_eq_of_lt h
theorem u8_eq {a b : UInt8} (h : a.toNat = b.toNat) : a = b := UInt8.toNat_inj.1 h

theorem put_length (f n : Nat) : 1 ≤ (put f n).length ∧ (put f n).length ≤ f + 1 := by
  induction f generalizing n with
  | zero => simp [put]
  | succ f ih => unfold put; split
                 · simp
                 · have := ih (n / 128); simp; omega

theorem pow128 (i : Nat) : 128 ^ (i + 1) = 128 * 128 ^ i := by rw [Nat.pow_succ, Nat.mul_comm]

/-- What is laid is taken back, from digit i on. -/
theorem num_put (f : Nat) : ∀ (i n acc : Nat) (l : List UInt8), i + f = 9 → n * 128 ^ i < 2 ^ 64 → (i = 0 ∨ 0 < n) → num i acc (put f n ++ l) = some (acc + n * 128 ^ i, l) := by
  induction f with
  | zero =>
    intro i n acc l hi hn hp
    obtain rfl : i = 9 := by omega
    have h2 : n ≤ 1 := by
      have : (128 : Nat) ^ 9 = 9223372036854775808 := by decide
      rw [this] at hn; omega
    have hn' : (UInt8.ofNat n).toNat = n := ofNat_nat n (by omega)
    have ho : odd 9 (UInt8.ofNat n) = false := by
      have h0 : (UInt8.ofNat n == 0) = false := by
        rw [beq_eq_false_iff_ne]; intro e
        have := congrArg UInt8.toNat e
        rw [hn'] at this; simp at this; omega
      unfold odd
      rw [h0, hn']
      simp; omega
    simp only [put, List.cons_append, List.nil_append, num]
    rw [if_neg (by omega), ho, hn', if_neg (by simp), if_pos (by omega)]
  | succ f ih =>
    intro i n acc l hi hn hp
    unfold put
    by_cases h : n < 128
    · rw [if_pos h]
      have hn' : (UInt8.ofNat n).toNat = n := ofNat_nat n (by omega)
      have ho : odd i (UInt8.ofNat n) = false := by
        unfold odd
        have h9 : (i == 9) = false := by rw [beq_eq_false_iff_ne]; omega
        rw [h9]
        rcases hp with rfl | hp
        · simp
        · have h0 : (UInt8.ofNat n == 0) = false := by
            rw [beq_eq_false_iff_ne]; intro e
            have := congrArg UInt8.toNat e
            rw [hn'] at this; simp at this; omega
          rw [h0]; simp
      simp only [List.cons_append, List.nil_append, num]
      rw [if_neg (by omega), ho, hn', if_neg (by simp), if_pos h]
    · rw [if_neg h]
      have hn' : (UInt8.ofNat (128 + n % 128)).toNat = 128 + n % 128 := ofNat_nat _ (by omega)
      have ho : odd i (UInt8.ofNat (128 + n % 128)) = false := by
        unfold odd
        have h9 : (i == 9) = false := by rw [beq_eq_false_iff_ne]; omega
        have h0 : (UInt8.ofNat (128 + n % 128) == 0) = false := by
          rw [beq_eq_false_iff_ne]; intro e
          have := congrArg UInt8.toNat e
          rw [hn'] at this; simp at this
        rw [h9, h0]; simp
      simp only [List.cons_append, num]
      rw [if_neg (by omega), ho, hn', if_neg (by simp), if_neg (by omega)]
      have e : n / 128 * 128 ^ (i + 1) + (128 + n % 128 - 128) * 128 ^ i = n * 128 ^ i := by
        rw [pow128, show 128 + n % 128 - 128 = n % 128 from by omega, ← Nat.mul_assoc, ← Nat.add_mul]
        congr 1; omega
      rw [ih (i + 1) (n / 128) _ l (by omega) (by omega) (.inr (by omega))]
      congr 2
      omega
theorem takeNum_put (n : Nat) (l : List UInt8) (hn : n < 2 ^ 64) : takeNum (putNum n ++ l) = some (n, l) := by
  have := num_put 9 0 n 0 l rfl (by rw [Nat.pow_zero, Nat.mul_one]; exact hn) (.inl rfl)
  rw [Nat.pow_zero, Nat.mul_one, Nat.zero_add] at this
  exact this

/-- What is taken was laid. -/
theorem put_num (f : Nat) : ∀ (i acc n : Nat) (l r : List UInt8), i + f = 9 → acc < 128 ^ i → num i acc l = some (n, r) →
    ∃ m, n = acc + m * 128 ^ i ∧ l = put f m ++ r ∧ n < 2 ^ 64 ∧ (i = 0 ∨ 0 < m) := by
  induction f with
  | zero =>
    intro i acc n l r hi ha h
    obtain rfl : i = 9 := by omega
    have e9 : (128 : Nat) ^ 9 = 9223372036854775808 := by decide
    cases l with
    | nil => simp [num] at h
    | cons c l =>
      simp only [num] at h
      rw [if_neg (by omega)] at h
      by_cases ho : odd 9 c = true
      · rw [if_pos ho] at h; simp at h
      · rw [if_neg ho] at h
        simp only [odd, Bool.or_eq_true, Bool.and_eq_true, decide_eq_true_eq, beq_iff_eq, true_and] at ho
        have hc1 : c.toNat ≤ 1 := by omega
        rw [if_pos (by omega)] at h
        simp only [Option.some.injEq, Prod.mk.injEq] at h
        obtain ⟨rfl, rfl⟩ := h
        have hc0 : 0 < c.toNat := by
          rcases Nat.eq_zero_or_pos c.toNat with h0 | h0
          · exact absurd (.inl ⟨by omega, u8_eq (by simpa using h0)⟩) ho
          · exact h0
        refine ⟨c.toNat, rfl, ?_, ?_, .inr hc0⟩
        · simp only [put, List.cons_append, List.nil_append]
          congr 1
          exact u8_eq (by rw [ofNat_nat _ (by omega)])
        · rw [e9] at *; omega
  | succ f ih =>
    intro i acc n l r hi ha h
    cases l with
    | nil => simp [num] at h
    | cons c l =>
      simp only [num] at h
      rw [if_neg (by omega)] at h
      by_cases ho : odd i c = true
      · rw [if_pos ho] at h; simp at h
      · rw [if_neg ho] at h
        have hlt := c.toNat_lt
        have hpi : 0 < 128 ^ i := Nat.pow_pos (by omega)
        have h8 : 128 ^ i * 128 ≤ 128 ^ 9 := by
          rw [← Nat.pow_succ]; exact Nat.pow_le_pow_right (by omega) (by omega)
        have e9 : (128 : Nat) ^ 9 = 9223372036854775808 := by decide
        rw [e9] at h8
        by_cases hc : c.toNat < 128
        · rw [if_pos hc] at h
          simp only [Option.some.injEq, Prod.mk.injEq] at h
          obtain ⟨rfl, rfl⟩ := h
          refine ⟨c.toNat, rfl, ?_, ?_, ?_⟩
          · unfold put
            rw [if_pos hc]
            simp only [List.cons_append, List.nil_append]
            congr 1
            exact u8_eq (by rw [ofNat_nat _ (by omega)])
          · have : c.toNat * 128 ^ i ≤ 127 * 128 ^ i := Nat.mul_le_mul_right _ (by omega)
            omega
          · rcases Nat.eq_zero_or_pos i with h0 | h0
            · exact .inl h0
            · refine .inr ?_
              rcases Nat.eq_zero_or_pos c.toNat with hz | hz
              · have h00 : c = 0 := u8_eq (by simpa using hz)
                subst h00
                simp [odd, h0] at ho
              · exact hz
        · rw [if_neg hc] at h
          have ha' : acc + (c.toNat - 128) * 128 ^ i < 128 ^ (i + 1) := by
            have : (c.toNat - 128) * 128 ^ i ≤ 127 * 128 ^ i := Nat.mul_le_mul_right _ (by omega)
            rw [pow128]; omega
          obtain ⟨m, e1, e2, e3, e4⟩ := ih (i + 1) _ n l r (by omega) ha' h
          have hm : 0 < m := by omega
          refine ⟨m * 128 + (c.toNat - 128), ?_, ?_, e3, .inr (by omega)⟩
          · rw [e1, pow128, Nat.add_mul, ← Nat.mul_assoc]; omega
          · unfold put
            rw [if_neg (by omega), e2]
            have q1 : (m * 128 + (c.toNat - 128)) / 128 = m := by omega
            have q2 : 128 + (m * 128 + (c.toNat - 128)) % 128 = c.toNat := by omega
            rw [q1, q2, List.cons_append, show UInt8.ofNat c.toNat = c from u8_eq (ofNat_nat _ hlt)]
theorem takeNum_some {l r : List UInt8} {n : Nat} (h : takeNum l = some (n, r)) : l = putNum n ++ r ∧ n < 2 ^ 64 := by
  obtain ⟨m, e1, e2, e3, _⟩ := put_num 9 0 0 n l r rfl (by simp) h
  simp at e1
  subst e1
  exact ⟨e2, e3⟩
theorem takeNum_length {l r : List UInt8} {n : Nat} (h : takeNum l = some (n, r)) : r.length < l.length := by
  have := (takeNum_some h).1
  have h1 := put_length 9 n
  rw [this, List.length_append]; unfold putNum; omega

theorem rNum_put (n : Nat) (l : List UInt8) (hn : n < 2 ^ 64) : rNum (some (putNum n ++ l)) = (n, some l) := by simp only [rNum]; rw [takeNum_put n l hn]
theorem rText_put (t l : List UInt8) (hn : t.length < 2 ^ 64) : rText (some (putText t ++ l)) = (t, some l) := by
  unfold putText rText
  rw [List.append_assoc, rNum_put _ _ hn]
  simp
theorem rNum_some {r : Rd} {n : Nat} {l : List UInt8} (h : rNum r = (n, some l)) : r = some (putNum n ++ l) ∧ n < 2 ^ 64 := by
  cases r with
  | none => simp [rNum] at h
  | some m =>
    simp only [rNum] at h
    cases ht : takeNum m with
    | none => rw [ht] at h; simp at h
    | some p =>
      obtain ⟨n', r'⟩ := p
      rw [ht] at h
      simp only [Prod.mk.injEq, Option.some.injEq] at h
      obtain ⟨rfl, rfl⟩ := h
      obtain ⟨e, hn⟩ := takeNum_some ht
      rw [e]; exact ⟨rfl, hn⟩
theorem rText_some {r : Rd} {t l : List UInt8} (h : rText r = (t, some l)) : r = some (putText t ++ l) ∧ t.length < 2 ^ 64 := by
  unfold rText at h
  cases hr : rNum r with
  | mk n q =>
    rw [hr] at h
    cases q with
    | none => simp at h
    | some m =>
      simp only at h
      by_cases hl : m.length < n
      · rw [if_pos hl] at h; simp at h
      · rw [if_neg hl] at h
        simp only [Prod.mk.injEq, Option.some.injEq] at h
        obtain ⟨rfl, rfl⟩ := h
        obtain ⟨e, hn⟩ := rNum_some hr
        have hlen : (m.take n).length = n := by simp; omega
        rw [e]
        unfold putText
        rw [hlen, List.append_assoc, List.take_append_drop]
        exact ⟨rfl, hn⟩
theorem rNum_none : rNum none = (0, none) := rfl
theorem rText_none : rText none = ([], none) := rfl
theorem rText_bad {r : Rd} (h : (rText r).2 = none) : (rText r).1 = [] := by
  unfold rText at *
  cases hr : rNum r with
  | mk n q =>
    rw [hr] at h
    cases q with
    | none => rfl
    | some m =>
      simp only at h ⊢
      by_cases hl : m.length < n
      · rw [if_pos hl]
      · rw [if_neg hl] at h; simp at h
theorem rNum_bad {r : Rd} (h : (rNum r).2 = none) : (rNum r).1 = 0 := by
  cases r with
  | none => rfl
  | some m =>
    simp only [rNum] at *
    cases ht : takeNum m with
    | none => rfl
    | some p => rw [ht] at h; simp at h
theorem rNum_lt (r : Rd) : (rNum r).1 < 2 ^ 64 := by
  cases hr : rNum r with
  | mk n q =>
    cases q with
    | none => have := rNum_bad (r := r) (by rw [hr]); rw [hr] at this; simp only at this; rw [this]; exact Nat.pow_pos (by omega)
    | some l => exact (rNum_some hr).2
end Go.Proofs.Ytnijijcbdajodaa.Wire
