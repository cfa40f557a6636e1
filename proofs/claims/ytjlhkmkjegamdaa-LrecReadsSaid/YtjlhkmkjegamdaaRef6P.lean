/-
  The plain law of the document's Decode of layer 6: it tells what the program's tells. No program in sight.
-/
import Derived.Test.YtjlhkmkjegamdaaPlain6
namespace Go.Proofs.Ytjlhkmkjegamdaa
set_option linter.unusedVariables false
set_option linter.unusedSimpArgs false
open Go.RowKit

/-- The operations that the document's reader tells, from the i-th on, k at most. -/
def refOps (first c : Nat) : Nat → Nat → Wire.Rd → List Rec
  | 0, _, _ => []
  | k + 1, i, r =>
    if i < c ∧ r.isSome then ⟨(Wire.rText r).1, (first + i) % U64, (Wire.rNum (Wire.rText r).2).1 == 1, (Wire.rText (Wire.rNum (Wire.rText r).2).2).1⟩ :: refOps first c k (i + 1) (Wire.rText (Wire.rNum (Wire.rText r).2).2).2
    else []
/-- The entry that a text is laid of, perhaps. -/
def refEntry (text : List UInt8) : Entry :=
  let a := Wire.rNum (some text)
  let b := Wire.rNum a.2
  let c := Wire.rNum b.2
  ⟨a.1, b.1, refOps b.1 c.1 7 0 c.2⟩
def refAll (s : List UInt8) : Option (Entry × Nat) :=
  let a := Wire.rText (some s)
  if a.2.isSome && (openI a.1).2 then
    (if checkRes (refEntry (openI a.1).1).ts (refEntry (openI a.1).1).first (refEntry (openI a.1).1).ops = 0 ∧ encBytes (refEntry (openI a.1).1).ts (refEntry (openI a.1).1).first (refEntry (openI a.1).1).ops = s.take (Wire.putText a.1).length
      then some (refEntry (openI a.1).1, (Wire.putText a.1).length) else none)
  else none

theorem refOps_ops (first c : Nat) : ∀ (rs : List Rec) (i k : Nat) (seen : List (List UInt8)) (rest : List UInt8), goodFrom first i seen rs = true → i + rs.length = c → rs.length ≤ k →
    refOps first c k i (some (opsBytes rs ++ rest)) = rs
  | [], i, k, seen, rest, h, hc, hk => by
    cases k with
    | zero => rfl
    | succ k => rw [refOps, if_neg (by simp at hc; omega)]
  | x :: xs, i, 0, seen, rest, h, hc, hk => by simp at hk
  | x :: xs, i, k + 1, seen, rest, h, hc, hk => by
    simp only [goodFrom, Bool.and_eq_true] at h
    obtain ⟨h1, h2⟩ := h
    simp only [goodOp, Bool.and_eq_true, beq_iff_eq] at h1
    obtain ⟨⟨⟨h3, h4⟩, h5⟩, h6⟩ := h1
    obtain ⟨m1, m2, m3, m4⟩ := may_zero h3
    have e : opsBytes (x :: xs) ++ rest = Wire.putText x.key ++ (Wire.putNum (bitN x.del) ++ (Wire.putText x.val ++ (opsBytes xs ++ rest))) := by
      simp [opsBytes, opBytes]
    have r1 := Wire.rText_put x.key (Wire.putNum (bitN x.del) ++ (Wire.putText x.val ++ (opsBytes xs ++ rest))) (by omega)
    have r2 := Wire.rNum_put (bitN x.del) (Wire.putText x.val ++ (opsBytes xs ++ rest)) (by cases x.del <;> decide)
    have r3 := Wire.rText_put x.val (opsBytes xs ++ rest) (by omega)
    rw [List.length_cons] at hc hk
    have ih := refOps_ops first c xs (i + 1) k (x.key :: seen) rest h2 (by omega) (by omega)
    rw [e, refOps, if_pos ⟨by omega, rfl⟩, r1]
    simp only
    rw [r2]
    simp only
    rw [r3]
    simp only
    rw [ih, bitN_one, ← h4]

theorem refEntry_body {ts first : Nat} {rs : List Rec} (hc : checkRes ts first rs = 0) (ht : ts < U64) (hf : first < U64) : refEntry (bodyBytes ts first rs) = ⟨ts, first, rs⟩ := by
  have g := check_good hc
  have hU : U64 = 2 ^ 64 := rfl
  have e : bodyBytes ts first rs = Wire.putNum ts ++ (Wire.putNum first ++ (Wire.putNum rs.length ++ (opsBytes rs ++ []))) := by
    simp [bodyBytes, headBytes]
  have n1 := Wire.rNum_put ts (Wire.putNum first ++ (Wire.putNum rs.length ++ (opsBytes rs ++ []))) (by rw [← hU]; exact ht)
  have n2 := Wire.rNum_put first (Wire.putNum rs.length ++ (opsBytes rs ++ [])) (by rw [← hU]; exact hf)
  have n3 := Wire.rNum_put rs.length (opsBytes rs ++ []) (by have := g.len; omega)
  have o := refOps_ops first rs.length rs 0 7 [] [] g.all (by omega) (by have := g.len; omega)
  unfold refEntry
  rw [e, n1]
  simp only
  rw [n2]
  simp only
  rw [n3]
  simp only
  rw [o]

theorem refAll_eq (s : List UInt8) : refAll s = readAll s := by
  cases h : readAll s with
  | some p =>
    obtain ⟨x, n⟩ := p
    obtain ⟨h1, h2, h3, h4, h5⟩ := read_lays h
    have hs : s = encBytes x.ts x.first x.ops ++ s.drop n := by rw [h3, List.take_append_drop]
    have hb := body_len h2
    have hr := Wire.rText_put (sealI (bodyBytes x.ts x.first x.ops)) (s.drop n) (by omega)
    have hl : (Wire.putText (sealI (bodyBytes x.ts x.first x.ops))).length = n := by
      have : (encBytes x.ts x.first x.ops).length = n := by rw [h3, List.length_take]; omega
      exact this
    have hr2 : Wire.rText (some s) = (sealI (bodyBytes x.ts x.first x.ops), some (s.drop n)) := by
      rw [← hr]
      exact congrArg (fun l => Wire.rText (some l)) hs
    unfold refAll
    rw [hr2]
    simp only [open_seal, Option.isSome_some, Bool.and_self, if_true]
    rw [refEntry_body h2 h4 h5, if_pos ⟨h2, by rw [hl]; exact h3⟩, hl]
  | none =>
    cases hq : refAll s with
    | none => rfl
    | some p =>
      exfalso
      unfold refAll at hq
      simp only at hq
      split at hq
      · split at hq
        · rename_i h1 h2
          have ht : (refEntry (openI (Wire.rText (some s)).1).1).ts < U64 := Wire.rNum_lt _
          have hf : (refEntry (openI (Wire.rText (some s)).1).1).first < U64 := Wire.rNum_lt _
          have hb := read_back h2.1 ht hf (s.drop (Wire.putText (Wire.rText (some s)).1).length)
          rw [h2.2, List.take_append_drop, h] at hb
          simp at hb
        · simp at hq
      · simp at hq
end Go.Proofs.Ytjlhkmkjegamdaa
