/-
  The plain law of layer 14: a message comes back from its bytes; bytes that are taken are laid again just so; a spoilt message is none. No program in sight.
-/
import Derived.Test.YtnijijcbdajodaaMsgE
import Derived.Test.YtnijijcbdajodaaMsgZ
namespace Go.Proofs.Ytnijijcbdajodaa
set_option linter.unusedVariables false
set_option linter.unusedSimpArgs false
open Go.RowKit

theorem bitM_one (b : Bool) : (bitM b == 1) = b := by cases b <;> rfl
theorem bitM_lt (b : Bool) : bitM b < 2 := by cases b <;> decide
theorem one_bitM {n : Nat} (h : n < 2) : bitM (n == 1) = n := by
  have : n = 0 ∨ n = 1 := by omega
  rcases this with rfl | rfl <;> rfl

theorem readRecs_recs : ∀ (rs : List Rec) (rest : List UInt8), (∀ r ∈ rs, r.del = false ∧ r.key.length < 2 ^ 64 ∧ r.val.length < 2 ^ 64 ∧ r.lsn < 2 ^ 64) →
    readRecs rs.length (some (recsBytes rs ++ rest)) = (rs, some rest)
  | [], rest, _ => rfl
  | x :: xs, rest, h => by
    obtain ⟨h1, h2, h3, h4⟩ := h x (by simp)
    have ih := readRecs_recs xs rest (fun r hr => h r (by simp [hr]))
    have e : recsBytes (x :: xs) ++ rest = Wire.putText x.key ++ (Wire.putNum x.lsn ++ (Wire.putText x.val ++ (recsBytes xs ++ rest))) := by
      simp [recsBytes, recBytes]
    have r1 := Wire.rText_put x.key (Wire.putNum x.lsn ++ (Wire.putText x.val ++ (recsBytes xs ++ rest))) h2
    have r2 := Wire.rNum_put x.lsn (Wire.putText x.val ++ (recsBytes xs ++ rest)) h4
    have r3 := Wire.rText_put x.val (recsBytes xs ++ rest) h3
    rw [e, List.length_cons, readRecs]
    simp only [r1, r2, r3, ih]
    rw [← h1]

theorem body_len14 {m : Msg} (h : Fine m) : (bodyM m).length ≤ 36000 := by
  have p : ∀ n, (Wire.putNum n).length ≤ 10 := fun n => (Wire.put_length 9 n).2
  have t : ∀ l : List UInt8, (Wire.putText l).length ≤ 10 + l.length := fun l => by
    have := p l.length
    unfold Wire.putText; rw [List.length_append]; omega
  have hr := recsBytes_len m.recs (fun r hr => h.small r hr)
  have h1 := h.key; have h2 := h.hi; have h3 := h.val; have h4 := h.len
  have a1 := p m.kind.toNat; have a2 := p m.te; have a3 := p m.di; have a4 := p m.id; have a5 := p m.lsn; have a6 := p m.low
  have a7 := t m.key; have a8 := t m.hi; have a9 := p (bitM m.del); have b1 := p (bitM m.found); have b2 := t m.val; have b3 := p m.recs.length; have b4 := p m.err.toNat
  unfold bodyM
  simp only [List.length_append]
  omega
theorem enc_len14 {m : Msg} (h : checkM m = 0) : (encM m).length ≤ 36010 := by
  have := body_len14 (fine_of h)
  unfold encM
  rw [if_pos h, seal_length]
  omega

theorem read_back14 {m : Msg} (h : checkM m = 0) : readM (encM m) = some m := by
  have hf := fine_of h
  obtain ⟨k, hk, hk1, hk2⟩ := hf.kind
  have hrs : ∀ r ∈ m.recs, r.del = false ∧ r.key.length < 2 ^ 64 ∧ r.val.length < 2 ^ 64 ∧ r.lsn < 2 ^ 64 := fun r hr => by
    obtain ⟨h1, h2, h3⟩ := hf.recs r hr
    obtain ⟨k1, k2, _⟩ := hf.rec_ r hr
    have := (stamp_lt h3).2
    exact ⟨h2, by omega, by omega, by omega⟩
  have hte := (stamp_lt hf.te).2
  have hd := hf.di; have hi := hf.id; have hl := hf.lsn; have hw := hf.low; have h1 := hf.key; have h2 := hf.hi; have h3 := hf.val; have h4 := hf.len
  obtain ⟨er, her, her2⟩ : ∃ e : Nat, m.err = e ∧ e < 100 := by
    rcases hf.err with h | h
    · exact ⟨0, by rw [h]; rfl, by omega⟩
    · exact ⟨7, by rw [h]; rfl, by omega⟩
  have e : bodyM m = Wire.putNum k ++ (Wire.putNum m.te ++ (Wire.putNum m.di ++ (Wire.putNum m.id ++ (Wire.putNum m.lsn ++ (Wire.putNum m.low ++ (Wire.putText m.key ++ (Wire.putText m.hi ++ (Wire.putNum (bitM m.del) ++ (Wire.putNum (bitM m.found) ++ (Wire.putText m.val ++ (Wire.putNum m.recs.length ++ (recsBytes m.recs ++ (Wire.putNum er ++ []))))))))))))) := by
    unfold bodyM
    rw [hk, her]
    simp
  unfold encM readM
  rw [if_pos h, open_seal]
  simp only [if_true]
  rw [e, readBody_tail _ (Wire.rNum_put k _ (by omega)) (Wire.rNum_put m.te _ (by omega)) (Wire.rNum_put m.di _ (by omega)) (Wire.rNum_put m.id _ (by omega)) (Wire.rNum_put m.lsn _ (by omega)) (Wire.rNum_put m.low _ (by omega))
    (Wire.rText_put m.key _ (by omega)) (Wire.rText_put m.hi _ (by omega))]
  have r1 := Wire.rNum_put (bitM m.del) (Wire.putNum (bitM m.found) ++ (Wire.putText m.val ++ (Wire.putNum m.recs.length ++ (recsBytes m.recs ++ (Wire.putNum er ++ []))))) (by have := bitM_lt m.del; omega)
  have r2 := Wire.rNum_put (bitM m.found) (Wire.putText m.val ++ (Wire.putNum m.recs.length ++ (recsBytes m.recs ++ (Wire.putNum er ++ [])))) (by have := bitM_lt m.found; omega)
  have r3 := Wire.rText_put m.val (Wire.putNum m.recs.length ++ (recsBytes m.recs ++ (Wire.putNum er ++ []))) (by omega)
  have r4 := Wire.rNum_put m.recs.length (recsBytes m.recs ++ (Wire.putNum er ++ [])) (by omega)
  have r5 := readRecs_recs m.recs (Wire.putNum er ++ []) hrs
  have r6 := Wire.rNum_put er [] (by omega)
  unfold readTail
  simp only [r1, r2, r3, r4, r5, r6, bitM_one]
  have hm : (⟨(k : Int), m.te, m.di, m.id, m.lsn, m.low, m.key, m.hi, m.del, m.found, m.val, m.recs, (er : Int)⟩ : Msg) = m := by rw [← hk, ← her]
  rw [hm, if_pos ⟨hk2, bitM_lt _, bitM_lt _, by omega, her2, trivial, h⟩]

theorem readRecs_some : ∀ (k : Nat) (r : Wire.Rd) (rs : List Rec) (l : List UInt8), readRecs k r = (rs, some l) → r = some (recsBytes rs ++ l) ∧ rs.length = k
  | 0, r, rs, l, h => by
    simp only [readRecs, Prod.mk.injEq] at h
    obtain ⟨rfl, rfl⟩ := h
    exact ⟨rfl, rfl⟩
  | k + 1, r, rs, l, h => by
    rw [readRecs] at h
    simp only [Prod.mk.injEq] at h
    obtain ⟨rfl, h⟩ := h
    generalize hA : Wire.rText r = A at *
    obtain ⟨key, rA⟩ := A
    simp only at *
    generalize hB : Wire.rNum rA = B at *
    obtain ⟨d, rB⟩ := B
    simp only at *
    generalize hC : Wire.rText rB = C at *
    obtain ⟨val, rC⟩ := C
    simp only at *
    generalize hD : readRecs k rC = D at *
    obtain ⟨ps, pr⟩ := D
    simp only at *
    subst h
    obtain ⟨h1, h2⟩ := readRecs_some k _ ps l hD
    subst h1
    obtain ⟨q1, _⟩ := Wire.rText_some hC
    subst q1
    obtain ⟨q2, _⟩ := Wire.rNum_some hB
    subst q2
    obtain ⟨q3, _⟩ := Wire.rText_some hA
    subst q3
    exact ⟨by simp [recsBytes, recBytes], by simp [h2]⟩

theorem openI_true {l t : List UInt8} (h : openI l = (t, true)) : sealI t = l := by
  unfold openI at h
  split at h
  · rename_i hc
    simp only [Prod.mk.injEq, and_true] at h
    rw [← h]
    exact hc.2
  · simp at h

theorem read_lays14 {s : List UInt8} {m : Msg} (h : readM s = some m) : checkM m = 0 ∧ encM m = s := by
  unfold readM at h
  generalize ho : openI s = o at *
  obtain ⟨text, is⟩ := o
  cases is with
  | false => simp at h
  | true =>
    have hs := openI_true ho
    simp only [if_true] at h
    generalize h0 : Wire.rNum (some text) = N0 at *
    obtain ⟨k0, r0⟩ := N0
    generalize h1 : Wire.rNum r0 = N1 at *
    obtain ⟨te, r1⟩ := N1
    generalize h2 : Wire.rNum r1 = N2 at *
    obtain ⟨di, r2⟩ := N2
    generalize h3 : Wire.rNum r2 = N3 at *
    obtain ⟨id, r3⟩ := N3
    generalize h4 : Wire.rNum r3 = N4 at *
    obtain ⟨lsn, r4⟩ := N4
    generalize h5 : Wire.rNum r4 = N5 at *
    obtain ⟨low, r5⟩ := N5
    generalize h6 : Wire.rText r5 = N6 at *
    obtain ⟨key, r6⟩ := N6
    generalize h7 : Wire.rText r6 = N7 at *
    obtain ⟨hi, r7⟩ := N7
    rw [readBody_tail text h0 h1 h2 h3 h4 h5 h6 h7] at h
    unfold readTail at h
    generalize h8 : Wire.rNum r7 = N8 at *
    obtain ⟨b8, r8⟩ := N8
    simp only at h
    generalize h9 : Wire.rNum r8 = N9 at *
    obtain ⟨b9, r9⟩ := N9
    simp only at h
    generalize h10 : Wire.rText r9 = N10 at *
    obtain ⟨val, r10⟩ := N10
    simp only at h
    generalize h11 : Wire.rNum r10 = N11 at *
    obtain ⟨c, r11⟩ := N11
    simp only at h
    generalize hq : readRecs c r11 = q at *
    obtain ⟨rs, rq⟩ := q
    simp only at h
    generalize h12 : Wire.rNum rq = N12 at *
    obtain ⟨er, re⟩ := N12
    simp only at h
    split at h
    · rename_i hc
      obtain ⟨c1, c2, c3, c4, c5, rfl, c7⟩ := hc
      simp only [Option.some.injEq] at h
      subst h
      refine ⟨c7, ?_⟩
      obtain ⟨q12, _⟩ := Wire.rNum_some h12
      subst q12
      obtain ⟨qq, hl⟩ := readRecs_some _ _ _ _ hq
      subst qq
      obtain ⟨q11, _⟩ := Wire.rNum_some h11
      subst q11
      obtain ⟨q10, _⟩ := Wire.rText_some h10
      subst q10
      obtain ⟨q9, _⟩ := Wire.rNum_some h9
      subst q9
      obtain ⟨q8, _⟩ := Wire.rNum_some h8
      subst q8
      obtain ⟨q7, _⟩ := Wire.rText_some h7
      subst q7
      obtain ⟨q6, _⟩ := Wire.rText_some h6
      subst q6
      obtain ⟨q5, _⟩ := Wire.rNum_some h5
      subst q5
      obtain ⟨q4, _⟩ := Wire.rNum_some h4
      subst q4
      obtain ⟨q3, _⟩ := Wire.rNum_some h3
      subst q3
      obtain ⟨q2, _⟩ := Wire.rNum_some h2
      subst q2
      obtain ⟨q1, _⟩ := Wire.rNum_some h1
      subst q1
      obtain ⟨q0, _⟩ := Wire.rNum_some h0
      simp only [Option.some.injEq] at q0
      unfold encM
      rw [if_pos c7, ← hs, q0]
      unfold bodyM
      simp [one_bitM c2, one_bitM c3, hl]
    · simp at h

/-- Sealed bytes, one of which is another one, are none. -/
theorem spoilt_open (l : List UInt8) (k : Nat) (c : UInt8) (hk : k < (sealI l).length) (hc : (sealI l)[k] ≠ c) : (openI ((sealI l).set k c)).2 = false := by
  cases h : (openI ((sealI l).set k c)).2 with
  | false => rfl
  | true =>
    exfalso
    have hlen : ((sealI l).set k c).length = (sealI l).length := List.length_set
    have hlaw := Bits.turned_law l ((sealI l).set k c) hlen (fun j => Bits.bit ((sealI l).set k c) j ^^ Bits.bit (sealI l) j) (8 * k) (fun j hj => by
      have hne : k ≠ j / 8 := by omega
      have e : Bits.bit ((sealI l).set k c) j = Bits.bit (sealI l) j := by
        unfold Bits.bit
        simp only [List.getD]
        rw [List.getElem?_set_ne hne]
      simp [e]) (fun j _ => by
        cases Bits.bit ((sealI l).set k c) j <;> cases Bits.bit (sealI l) j <;> rfl)
    have hz := hlaw.1 h
    have he := Bits.bytes_ext ((sealI l).set k c) (sealI l) hlen (fun j hj => by
      have := hz j hj
      cases h1 : Bits.bit ((sealI l).set k c) j <;> cases h2 : Bits.bit (sealI l) j <;> simp_all)
    have h1 : ((sealI l).set k c)[k]? = (sealI l)[k]? := by rw [he]
    rw [List.getElem?_set_self hk, List.getElem?_eq_getElem hk] at h1
    exact hc (Option.some.inj h1).symm
theorem read_spoilt14 {m : Msg} (h : checkM m = 0) (k : Nat) (c : UInt8) (hk : k < (encM m).length) (hne : (encM m)[k] ≠ c) : readM ((encM m).set k c) = none := by
  have e : encM m = sealI (bodyM m) := by unfold encM; rw [if_pos h]
  have ho := spoilt_open (bodyM m) k c (by rw [← e]; exact hk) (by simp only [e] at hne; exact hne)
  rw [e]
  unfold readM
  rw [ho]
  rfl
end Go.Proofs.Ytnijijcbdajodaa
