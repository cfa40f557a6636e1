/-
  The plain law of layer 6: an entry comes back from its bytes; bytes that are taken are laid again just so; no beginning is taken. No program in sight.
-/
import Derived.Test.YtjlhkmkjegamdaaLrecZ
namespace Go.Proofs.Ytjlhkmkjegamdaa
set_option linter.unusedVariables false
set_option linter.unusedSimpArgs false
open Go.RowKit

theorem bitN_one (b : Bool) : (bitN b == 1) = b := by cases b <;> rfl
theorem bitN_le (b : Bool) : ¬ 1 < bitN b := by cases b <;> decide

theorem readOps_ops (first : Nat) : ∀ (rs : List Rec) (i : Nat) (seen : List (List UInt8)) (rest : List UInt8), goodFrom first i seen rs = true →
    readOps rs.length ((first + i) % U64) (some (opsBytes rs ++ rest)) = some (rs, some rest)
  | [], i, seen, rest, h => rfl
  | x :: xs, i, seen, rest, h => by
    simp only [goodFrom, Bool.and_eq_true] at h
    obtain ⟨h1, h2⟩ := h
    simp only [goodOp, Bool.and_eq_true, beq_iff_eq] at h1
    obtain ⟨⟨⟨h3, h4⟩, h5⟩, h6⟩ := h1
    obtain ⟨m1, m2, m3, m4⟩ := may_zero h3
    have e : opsBytes (x :: xs) ++ rest = Wire.putText x.key ++ (Wire.putNum (bitN x.del) ++ (Wire.putText x.val ++ (opsBytes xs ++ rest))) := by
      simp [opsBytes, opBytes]
    have r1 := Wire.rText_put x.key (Wire.putNum (bitN x.del) ++ (Wire.putText x.val ++ (opsBytes xs ++ rest))) (by omega)
    have r2 := Wire.rNum_put (bitN x.del) (Wire.putText x.val ++ (opsBytes xs ++ rest)) (by cases x.del <;> decide)
    have r3 := Wire.rText_put x.val (opsBytes xs ++ rest) (by omega)
    have ih := readOps_ops first xs (i + 1) (x.key :: seen) rest h2
    rw [e, List.length_cons, readOps, r1]
    simp only
    rw [r2]
    simp only
    rw [if_neg (bitN_le _), r3]
    simp only
    have e2 : ((first + i) % U64 + 1) % U64 = (first + (i + 1)) % U64 := by rw [Nat.mod_add_mod]; rfl
    rw [e2, ih, bitN_one, ← h4]
    rfl

theorem ops_len70 : ∀ (rs : List Rec), (∀ r ∈ rs, may r = 0) → (opsBytes rs).length ≤ rs.length * 70
  | [], _ => by simp [opsBytes]
  | x :: xs, h => by
    have ih := ops_len70 xs (fun r hr => h r (List.mem_cons_of_mem _ hr))
    obtain ⟨m1, m2, _, _⟩ := may_zero (h x (List.mem_cons_self ..))
    have p1 := (Wire.put_length 9 x.key.length).2
    have p2 := (Wire.put_length 9 (bitN x.del)).2
    have p3 := (Wire.put_length 9 x.val.length).2
    simp only [opsBytes, opBytes, Wire.putText, Wire.putNum, List.length_append, List.length_cons]
    omega
theorem body_len {ts first : Nat} {rs : List Rec} (hc : checkRes ts first rs = 0) : (sealI (bodyBytes ts first rs)).length ≤ 460 := by
  have g := check_good hc
  have h1 := ops_len70 rs (good_all g.all)
  have h2 := head_len ts first rs.length
  have h3 := g.len
  rw [seal_length]
  unfold bodyBytes
  rw [List.length_append]
  omega
theorem enc_len {ts first : Nat} {rs : List Rec} (hc : checkRes ts first rs = 0) : (encBytes ts first rs).length ≤ 470 := by
  have h := body_len hc
  have := (Wire.put_length 9 (sealI (bodyBytes ts first rs)).length).2
  unfold encBytes Wire.putText Wire.putNum
  rw [List.length_append]
  omega

theorem read_back {ts first : Nat} {rs : List Rec} (hc : checkRes ts first rs = 0) (ht : ts < U64) (hf : first < U64) (behind : List UInt8) :
    readAll (encBytes ts first rs ++ behind) = some (⟨ts, first, rs⟩, (encBytes ts first rs).length) := by
  have g := check_good hc
  have hU : U64 = 2 ^ 64 := rfl
  have h1 := Wire.rText_put (sealI (bodyBytes ts first rs)) behind (by have := body_len hc; omega)
  have e : bodyBytes ts first rs = Wire.putNum ts ++ (Wire.putNum first ++ (Wire.putNum rs.length ++ (opsBytes rs ++ []))) := by
    simp [bodyBytes, headBytes]
  have n1 := Wire.rNum_put ts (Wire.putNum first ++ (Wire.putNum rs.length ++ (opsBytes rs ++ []))) (by rw [← hU]; exact ht)
  have n2 := Wire.rNum_put first (Wire.putNum rs.length ++ (opsBytes rs ++ [])) (by rw [← hU]; exact hf)
  have n3 := Wire.rNum_put rs.length (opsBytes rs ++ []) (by have := g.len; omega)
  have o := readOps_ops first rs 0 [] [] g.all
  rw [Nat.add_zero, Nat.mod_eq_of_lt hf] at o
  have ht : readText (bodyBytes ts first rs) = some ⟨ts, first, rs⟩ := by
    unfold readText
    rw [e, n1]
    simp only
    rw [n2]
    simp only
    rw [n3]
    simp only
    rw [if_neg (by have := g.len; omega), o]
    simp only
    rw [if_pos (by simp [hc])]
  unfold readAll
  unfold encBytes
  rw [h1]
  simp only [open_seal, Option.isSome_some, Bool.and_self, if_true]
  rw [ht]
  rfl

theorem readOps_some : ∀ (k lsn : Nat) (r : Wire.Rd) (rs : List Rec) (l : List UInt8), readOps k lsn r = some (rs, some l) → r = some (opsBytes rs ++ l) ∧ rs.length = k
  | 0, lsn, r, rs, l, h => by
    simp only [readOps, Option.some.injEq, Prod.mk.injEq] at h
    obtain ⟨rfl, rfl⟩ := h
    exact ⟨rfl, rfl⟩
  | k + 1, lsn, r, rs, l, h => by
    rw [readOps] at h
    split at h
    · simp at h
    · rename_i hd
      cases hq : readOps k ((lsn + 1) % U64) (Wire.rText (Wire.rNum (Wire.rText r).2).2).2 with
      | none => rw [hq] at h; simp at h
      | some p =>
        obtain ⟨ps, pr⟩ := p
        rw [hq] at h
        simp only [Option.map_some, Option.some.injEq, Prod.mk.injEq] at h
        obtain ⟨rfl, rfl⟩ := h
        obtain ⟨h1, h2⟩ := readOps_some k _ _ ps l hq
        generalize hA : Wire.rText r = A at *
        obtain ⟨key, rA⟩ := A
        simp only at *
        generalize hB : Wire.rNum rA = B at *
        obtain ⟨d, rB⟩ := B
        simp only at *
        generalize hC : Wire.rText rB = C at *
        obtain ⟨val, rC⟩ := C
        simp only at *
        subst h1
        obtain ⟨q1, _⟩ := Wire.rText_some hC
        subst q1
        obtain ⟨q2, _⟩ := Wire.rNum_some hB
        subst q2
        obtain ⟨q3, _⟩ := Wire.rText_some hA
        subst q3
        have hb : bitN (d == 1) = d := by
          have : d = 0 ∨ d = 1 := by omega
          rcases this with rfl | rfl <;> rfl
        refine ⟨?_, by simp [h2]⟩
        simp only [opsBytes, opBytes, hb, List.append_assoc]

theorem openI_true {l t : List UInt8} (h : openI l = (t, true)) : sealI t = l := by
  unfold openI at h
  split at h
  · rename_i hc
    simp only [Prod.mk.injEq, and_true] at h
    rw [← h]
    exact hc.2
  · simp at h

theorem read_lays {s : List UInt8} {x : Entry} {n : Nat} (h : readAll s = some (x, n)) :
    n ≤ s.length ∧ checkRes x.ts x.first x.ops = 0 ∧ encBytes x.ts x.first x.ops = s.take n ∧ x.ts < U64 ∧ x.first < U64 := by
  unfold readAll at h
  generalize hA : Wire.rText (some s) = A at *
  obtain ⟨sealed, r⟩ := A
  simp only at h
  cases r with
  | none => simp at h
  | some l =>
    obtain ⟨q1, _⟩ := Wire.rText_some hA
    simp only [Option.some.injEq] at q1
    generalize ho : openI sealed = o at *
    obtain ⟨text, is⟩ := o
    cases is with
    | false => simp at h
    | true =>
      have hs := openI_true ho
      simp only [Option.isSome_some, Bool.and_self, if_true] at h
      cases ht : readText text with
      | none => rw [ht] at h; simp at h
      | some e =>
        rw [ht] at h
        simp only [Option.map_some, Option.some.injEq, Prod.mk.injEq] at h
        obtain ⟨rfl, rfl⟩ := h
        unfold readText at ht
        generalize hN1 : Wire.rNum (some text) = N1 at *
        obtain ⟨a, ra⟩ := N1
        simp only at ht
        generalize hN2 : Wire.rNum ra = N2 at *
        obtain ⟨b, rb⟩ := N2
        simp only at ht
        generalize hN3 : Wire.rNum rb = N3 at *
        obtain ⟨c, rc⟩ := N3
        simp only at ht
        split at ht
        · simp at ht
        · split at ht
          · simp at ht
          · rename_i rs r hro
            split at ht
            · rename_i hcond
              obtain ⟨rfl, hck⟩ := hcond
              simp only [Option.some.injEq] at ht
              subst ht
              obtain ⟨w1, w2⟩ := readOps_some _ _ _ _ _ hro
              subst w1
              obtain ⟨w3, _⟩ := Wire.rNum_some hN3
              subst w3
              obtain ⟨w4, hb⟩ := Wire.rNum_some hN2
              subst w4
              obtain ⟨w5, ha⟩ := Wire.rNum_some hN1
              simp only [Option.some.injEq] at w5
              have hbody : bodyBytes a b rs = text := by
                rw [w5]
                simp [bodyBytes, headBytes, w2]
              have henc : encBytes a b rs = Wire.putText sealed := by
                unfold encBytes
                rw [hbody, hs]
              refine ⟨?_, hck, ?_, ha, hb⟩
              · rw [q1]; simp
              · show encBytes a b rs = _
                rw [henc, q1, List.take_left]
            · simp at ht

theorem read_cut {ts first : Nat} {rs : List Rec} (hc : checkRes ts first rs = 0) (ht : ts < U64) (hf : first < U64) (m : Nat) (hm : m < (encBytes ts first rs).length) :
    readAll ((encBytes ts first rs).take m) = none := by
  cases hr : readAll ((encBytes ts first rs).take m) with
  | none => rfl
  | some p =>
    exfalso
    obtain ⟨x, n⟩ := p
    obtain ⟨h1, h2, h3, h4, h5⟩ := read_lays hr
    rw [List.length_take] at h1
    rw [List.take_take, Nat.min_eq_left (by omega)] at h3
    have hlen : (encBytes x.ts x.first x.ops).length = n := by rw [h3, List.length_take]; omega
    have hb := read_back h2 h4 h5 ((encBytes ts first rs).drop n)
    rw [h3, List.take_append_drop] at hb
    have hf := read_back hc ht hf []
    rw [List.append_nil, hb] at hf
    simp only [Option.some.injEq, Prod.mk.injEq] at hf
    have := hf.2
    rw [List.length_take] at this
    omega
end Go.Proofs.Ytjlhkmkjegamdaa
