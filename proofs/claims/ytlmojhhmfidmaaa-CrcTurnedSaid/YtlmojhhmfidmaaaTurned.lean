/-
  The law CrcTurned, walked: bits turned within thirty-two next to one another are found. No condition.
-/
import Derived.Test.YtlmojhhmfidmaaaCrc3
import Derived.Test.YtlmojhhmfidmaaaCrcBits
import Derived.Test.YtlmojhhmfidmaaaMem
import Derived.RegionTactic
import Derived.OpenShut
namespace Go.Proofs.Ytlmojhhmfidmaaa
open Go.RowKit

/-- Which bits are turned behind k rounds. -/
def turn (F M k j : Nat) : Bool := decide (F ≤ j) && decide (j < F + k) && M.testBit (j - F)
def some1 (M k : Nat) : Bool := (List.range k).any fun i => M.testBit i
/-- What holds behind k rounds. -/
structure Turned (T t : List UInt8) (F M k : Nat) : Prop where
  len : t.length = T.length
  bits : ∀ j, j < 8 * T.length → Bits.bit t j = (Bits.bit T j ^^ turn F M k j)

theorem test_bit (M k : Nat) (hM : M < 4294967296) : (bits BinOp.and .u32 ((M : Int) / 2 ^ k) 1 == 1) = M.testBit k := by
  have h2 : M / 2 ^ k ≤ M := Nat.div_le_self _ _
  have e : ((M : Int) / 2 ^ k) = ((M / 2 ^ k : Nat) : Int) := by simp
  have := u32_and_nat (M / 2 ^ k) 1 (by omega) (by decide)
  rw [Nat.and_one_is_mod] at this
  rw [e, show bits BinOp.and IntKind.u32 ((M / 2 ^ k : Nat) : Int) 1 = ((M / 2 ^ k % 2 : Nat) : Int) from this, Nat.testBit_eq_decide_div_mod_eq]
  by_cases h : M / 2 ^ k % 2 = 1
  · rw [h]; rfl
  · have h0 : M / 2 ^ k % 2 = 0 := by omega
    rw [h0]; rfl
theorem some1_succ (M k : Nat) : some1 M (k + 1) = (some1 M k || M.testBit k) := by simp [some1, List.range_succ]
theorem turn_succ (F M k j : Nat) : turn F M (k + 1) j = (turn F M k j ^^ (decide (j = F + k) && M.testBit k)) := by
  unfold turn
  by_cases h : j = F + k
  · subst h
    have e : F + k - F = k := by omega
    rw [e]; simp
  · have : decide (j < F + (k + 1)) = decide (j < F + k) := by rw [decide_eq_decide]; omega
    rw [this]; simp [h]
theorem Turned.start (T : List UInt8) (F M : Nat) : Turned T T F M 0 := ⟨rfl, fun j _ => by
  have : turn F M 0 j = false := by unfold turn; by_cases h : F ≤ j <;> simp [h]; intro h2; omega
  rw [this, Bool.xor_false]⟩
theorem Turned.skip {T t : List UInt8} {F M k : Nat} (h : Turned T t F M k) (hb : M.testBit k = false) : Turned T t F M (k + 1) :=
  ⟨h.len, fun j hj => by rw [turn_succ, hb, Bool.and_false, Bool.xor_false]; exact h.bits j hj⟩
/-- A byte, one bit of which is turned. -/
def flip8 (c : UInt8) (i : Nat) : UInt8 := UInt8.ofNat (c.toNat ^^^ 2 ^ i)
theorem flip8_nat (c : UInt8) (i : Nat) (h : i < 8) : (flip8 c i).toNat = c.toNat ^^^ 2 ^ i := by
  unfold flip8
  have h1 : c.toNat < 2 ^ 8 := c.toNat_lt
  have h2 : 2 ^ i < 2 ^ 8 := Nat.pow_lt_pow_right (by omega) h
  have := Nat.xor_lt_two_pow h1 h2
  rw [UInt8.toNat_ofNat']
  exact Nat.mod_eq_of_lt this
theorem flip8_int (c : UInt8) (i : Nat) (h : i < 8) : bits BinOp.xor .u8 (c.toNat : Int) (2 ^ i % 256) = ((flip8 c i).toNat : Int) := by
  have h2 : 2 ^ i < 2 ^ 8 := Nat.pow_lt_pow_right (by omega) h
  have e : ((2 : Int) ^ i % 256) = ((2 ^ i : Nat) : Int) := by
    have : ((2 : Int) ^ i) = ((2 ^ i : Nat) : Int) := by simp
    rw [this]
    generalize (2 ^ i : Nat) = z at *
    omega
  rw [e, u8_xor_nat _ _ c.toNat_lt (by omega), flip8_nat c i h]
theorem Turned.turned {T t : List UInt8} {F M k : Nat} (h : Turned T t F M k) (hb : M.testBit k = true) (hq : (F + k) / 8 < t.length) :
    Turned T (t.set ((F + k) / 8) (flip8 t[(F + k) / 8] ((F + k) % 8))) F M (k + 1) :=
  ⟨by rw [List.length_set]; exact h.len, fun j hj => by
    rw [turn_succ, hb, Bool.and_true, ← Bool.xor_assoc, ← h.bits j hj]
    unfold Bits.bit
    by_cases h8 : j / 8 = (F + k) / 8
    · have e1 : (t.set ((F + k) / 8) (flip8 t[(F + k) / 8] ((F + k) % 8))).getD (j / 8) 0 = flip8 t[(F + k) / 8] ((F + k) % 8) := by
        rw [h8]; simp [List.getD, hq]
      have e2 : t.getD (j / 8) 0 = t[(F + k) / 8] := by rw [h8]; simp [List.getD, hq]
      rw [e1, e2, flip8_nat _ _ (by omega), Nat.testBit_xor, Nat.testBit_two_pow]
      congr 1
      rw [decide_eq_decide]; omega
    · have e1 : (t.set ((F + k) / 8) (flip8 t[(F + k) / 8] ((F + k) % 8))).getD (j / 8) 0 = t.getD (j / 8) 0 := by
        simp only [List.getD]; rw [List.getElem?_set_ne (by omega)]
      have e3 : decide (j = F + k) = false := by rw [decide_eq_false_iff_not]; omega
      rw [e1, e3, Bool.xor_false]⟩
theorem Turned.law {l T t : List UInt8} {F M k : Nat} (hT : sealI l = T) (h : Turned T t F M k) (hk : k ≤ 32) (hF : F + k ≤ 8 * T.length) : (openI t).2 = !some1 M k := by
  subst hT
  have := Bits.turned_law l t h.len (turn F M k) F (fun j hj => by
    unfold turn
    rcases hj with hj | hj
    · have : decide (F ≤ j) = false := by rw [decide_eq_false_iff_not]; omega
      rw [this]; rfl
    · have : decide (j < F + k) = false := by rw [decide_eq_false_iff_not]; omega
      rw [this, Bool.and_false]; rfl) (fun j hj => h.bits j (by rw [← h.len]; exact hj))
  have e : (∀ j, j < 8 * t.length → turn F M k j = false) ↔ some1 M k = false := by
    have hlen := h.len
    unfold some1
    rw [List.any_eq_false]
    constructor
    · intro ha i hi hbit
      have hi' : i < k := by simpa using hi
      have := ha (F + i) (by omega)
      unfold turn at this
      rw [show F + i - F = i from by omega, hbit] at this
      simp at this; omega
    · intro ha j hj
      unfold turn
      by_cases h1 : F ≤ j ∧ j < F + k
      · have := ha (j - F) (by simp; omega)
        simp [this]
      · rcases Nat.lt_or_ge j F with h2 | h2
        · have : decide (F ≤ j) = false := by rw [decide_eq_false_iff_not]; omega
          rw [this]; rfl
        · have : decide (j < F + k) = false := by rw [decide_eq_false_iff_not]; omega
          rw [this, Bool.and_false]; rfl
  rw [e] at this
  cases h1 : (openI t).2 <;> cases h2 : some1 M k <;> simp_all

set_option maxHeartbeats 1000000 in
theorem turned_walk (a0 : ByteArray) (a1 : Int) (a2 : Int) (w0 : a0.size ≤ maxLen) (w1 : (Lit.int .u16 a1).wf = true) (w2 : (Lit.int .u32 a2).wf = true) (w : World) :
    Calls Try.prog 6 #[.string a0, .int .u16 a1, .int .u32 a2] w fun e w' => e = .returned (.bool true) ∧ Below w.heap.size w w' := by
  unfold maxLen at w0
  obtain ⟨⟨l⟩⟩ := a0
  obtain ⟨A, rfl, hA⟩ : ∃ A : Nat, a1 = A ∧ A < 65536 := ⟨a1.toNat, by have := bounds_u16 w1; omega, by have := bounds_u16 w1; omega⟩
  obtain ⟨M, rfl, hM⟩ : ∃ A : Nat, a2 = A ∧ A < 4294967296 := ⟨a2.toNat, by have := bounds_u32 w2; omega, by have := bounds_u32 w2; omega⟩
  clear w1 w2
  go_enter Try.func6, Try.ntmps6
  go_wp2_with fail
  refine (works_any _).mono ?_
  rintro e wb ⟨rfl, hb1⟩
  go_wp2_with fail
  case' inl => (rw [extract_list]; generalize hX : List.take (5000 - 0) (List.drop 0 l) = X)
  case' inr => (rw [extract_list]; generalize hX : List.take (l.length - 0) (List.drop 0 l) = X)
  all_goals
    have hXl : X.length ≤ 5000 := by subst hX; simp; omega
    refine (seal_any _ _ ?_).mono ?_
    · unfold maxLen; omega
    rintro e w1 ⟨rfl, hb2⟩
    obtain ⟨T, hT⟩ : ∃ T, sealI X = T := ⟨_, rfl⟩
    have hT1 : T.length ≤ 5004 := by rw [← hT, seal_length]; omega
    have hT2 : 4 ≤ T.length := by rw [← hT, seal_length]; omega
    obtain ⟨cap, w2, hconv, hrow, hb3, hsz, hcap⟩ := conv_bytes (P := Try.prog) w1 9 30 5 T Try.underlying9 Try.underlying30 Try.underlying5
    obtain ⟨F, hF⟩ : ∃ F : Nat, (A : Int) % (8 * (T.length : Int)) = F := ⟨A % (8 * T.length), by simp⟩
    have HF := Lib.hid (show F < 8 * T.length by
      have h1 : (A : Int) % (8 * (T.length : Int)) < 8 * (T.length : Int) := Int.emod_lt_of_pos _ (by omega)
      omega)
    have HF2 := Lib.hid hF
    clear hF
    have Hsz := Lib.hid hsz
    clear hsz
    generalize hb : w1.heap.size = b at *
    have HB := Lib.hid hb
    clear hb
    go_wp2_with fail
    rw [HF2.out]
    have hF' := HF.out
    have HT := Lib.hid hT
    clear hT hX hconv HF HF2
    go_loopw [9, 10] (fun tn i wr => ∃ (k : Nat) (t : List UInt8), k ≤ 32 ∧ F + k ≤ 8 * T.length ∧ i = .int .i64 k ∧ tn = .bool (some1 M k) ∧ RowAt wr b 5 (t.map bv) ∧ Below b w1 wr ∧ Turned T t F M k) (fun _ i _ => 32 - (intOf i).toNat)
    case atStart => exact ⟨0, T, Nat.zero_le _, by omega, rfl, rfl, hrow, hb3, Turned.start T F M⟩
    case round =>
      obtain ⟨k, t, hk, hkF, rfl, rfl, hr, hbw, ht⟩ := hrel
      by_cases hlt : k < 32 ∧ F + k < 8 * T.length
      · obtain ⟨hlt, hlF⟩ := hlt
        have hq : (F + k) / 8 < t.length := by rw [ht.len]; omega
        have hcell := hr.byte hq
        have hfree := hr.byteFree hq
        have htest := Lib.hid (test_bit M k hM)
        have hint := Lib.hid (flip8_int t[(F + k) / 8] ((F + k) % 8) (by omega))
        have hset := Lib.hid (fun c => hr.setByte ((F + k) / 8) c)
        have hnext := Lib.hid (fun hb => ht.turned hb hq)
        generalize t[(F + k) / 8] = c at hcell hint hnext
        have Hr := Lib.hid hr
        clear hr
        go_wp2_with fail
        · go_region
          go_wp2
          go_roundw
          case rel =>
            have hb : M.testBit k = true := by rw [← htest.out]; assumption
            refine ⟨k + 1, t.set ((F + k) / 8) (flip8 c ((F + k) % 8)), by omega, by omega, by go_num, by rw [some1_succ, hb, Bool.or_true], ?_, ?_, hnext.out hb⟩
            · rw [hint.out]; exact (hset.out _).drew
            · exact (hbw.setCell (by simp) _).drew
          case measure => simp [intOf]; omega
        · go_roundw
          case rel =>
            have hb : M.testBit k = false := by rw [← htest.out]; assumption
            exact ⟨k + 1, t, by omega, by omega, by go_num, by rw [some1_succ, hb, Bool.or_false], Hr.out, hbw, ht.skip hb⟩
          case measure => simp [intOf]; omega
      · have hconv := conv_string (P := Try.prog) hr 30 9 cap Try.underlying30 Try.underlying5 Try.underlying9
        rw [ht.len] at hconv
        have hl := ht.len
        have hlaw := ht.law HT.out hk hkF
        have HB2 := HB.out
        obtain ⟨p, hp⟩ : ∃ p, openI t = p := ⟨_, rfl⟩
        rw [hp] at hlaw
        by_cases h32 : k < 32
        · have hge : 8 * T.length ≤ F + k := by omega
          clear hlt
          go_wp2_with fail
          refine (open_any t _ (by unfold maxLen; omega)).mono ?_
          rw [hp]
          rintro e w3 ⟨rfl, hb4⟩
          go_wp2_with fail
          go_ret
          exact ⟨rfl, ((hb1.on hb2).on (by rw [HB2]; exact hbw)).on hb4⟩
        · clear hlt
          go_wp2_with fail
          refine (open_any t _ (by unfold maxLen; omega)).mono ?_
          rw [hp]
          rintro e w3 ⟨rfl, hb4⟩
          go_wp2_with fail
          go_ret
          exact ⟨rfl, ((hb1.on hb2).on (by rw [HB2]; exact hbw)).on hb4⟩
end Go.Proofs.Ytlmojhhmfidmaaa
