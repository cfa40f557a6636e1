/-
  The plain law of layer 14's document: what its Decode reads is what reading takes. No program in sight.
-/
import Derived.Test.YtnijijcbdajodaaPlain14
namespace Go.Proofs.Ytnijijcbdajodaa
set_option linter.unusedVariables false
set_option linter.unusedSimpArgs false
open Go.RowKit

def refRecs (c : Nat) : Nat → Nat → Wire.Rd → List Rec × Wire.Rd
  | 0, _, r => ([], r)
  | f + 1, i, r =>
    if i < c ∧ i ≤ 500 ∧ r.isSome = true then
      (⟨(Wire.rText r).1, (Wire.rNum (Wire.rText r).2).1, false, (Wire.rText (Wire.rNum (Wire.rText r).2).2).1⟩ :: (refRecs c f (i + 1) (Wire.rText (Wire.rNum (Wire.rText r).2).2).2).1,
        (refRecs c f (i + 1) (Wire.rText (Wire.rNum (Wire.rText r).2).2).2).2)
    else ([], r)
/-- What is read behind the first eight fields: the message, and whether the reader stands at the end. -/
def refTail (k0 te di id lsn low : Nat) (key hi : List UInt8) (r : Wire.Rd) : Msg × Bool :=
  let r8 := Wire.rNum r
  let r9 := Wire.rNum r8.2
  let r10 := Wire.rText r9.2
  let r11 := Wire.rNum r10.2
  let q := refRecs r11.1 501 0 r11.2
  let r12 := Wire.rNum q.2
  (⟨(min k0 100 : Nat), te, di, id, lsn, low, key, hi, r8.1 == 1, r9.1 == 1, r10.1, q.1, (min r12.1 100 : Nat)⟩, decide (r12.2 = some []))
def refBody (t : List UInt8) : Msg × Bool :=
  let h := readHead t
  refTail h.kind h.te h.di h.id h.lsn h.low h.key h.hi h.r
def refM (s : List UInt8) : Option Msg :=
  if (openI s).2 = true ∧ (refBody (openI s).1).2 = true ∧ checkM (refBody (openI s).1).1 = 0 ∧ encM (refBody (openI s).1).1 = s then some (refBody (openI s).1).1 else none
theorem refBody_tail (t : List UInt8) {k0 te di id lsn low : Nat} {key hi : List UInt8} {r0 r1 r2 r3 r4 r5 r6 r7 : Wire.Rd} (h0 : Wire.rNum (some t) = (k0, r0)) (h1 : Wire.rNum r0 = (te, r1)) (h2 : Wire.rNum r1 = (di, r2)) (h3 : Wire.rNum r2 = (id, r3)) (h4 : Wire.rNum r3 = (lsn, r4)) (h5 : Wire.rNum r4 = (low, r5))
    (h6 : Wire.rText r5 = (key, r6)) (h7 : Wire.rText r6 = (hi, r7)) : refBody t = refTail k0 te di id lsn low key hi r7 := by
  unfold refBody readHead
  simp only [h0, h1, h2, h3, h4, h5, h6, h7]

theorem refRecs_recs (c : Nat) (hc : c ≤ 500) : ∀ (rs : List Rec) (i f : Nat) (rest : List UInt8), (∀ r ∈ rs, r.del = false ∧ r.key.length < 2 ^ 64 ∧ r.val.length < 2 ^ 64 ∧ r.lsn < 2 ^ 64) → i + rs.length = c → rs.length ≤ f →
    refRecs c f i (some (recsBytes rs ++ rest)) = (rs, some rest)
  | [], i, f, rest, _, h1, _ => by
    have hi : ¬ i < c := by simp at h1; omega
    cases f with
    | zero => rfl
    | succ f => rw [refRecs, if_neg (fun h => hi h.1)]; rfl
  | x :: xs, i, 0, rest, _, _, h2 => by simp at h2
  | x :: xs, i, f + 1, rest, h, h1, h2 => by
    obtain ⟨g1, g2, g3, g4⟩ := h x (by simp)
    simp only [List.length_cons] at h1 h2
    have ih := refRecs_recs c hc xs (i + 1) f rest (fun r hr => h r (by simp [hr])) (by omega) (by omega)
    have e : recsBytes (x :: xs) ++ rest = Wire.putText x.key ++ (Wire.putNum x.lsn ++ (Wire.putText x.val ++ (recsBytes xs ++ rest))) := by
      simp [recsBytes, recBytes]
    have r1 := Wire.rText_put x.key (Wire.putNum x.lsn ++ (Wire.putText x.val ++ (recsBytes xs ++ rest))) g2
    have r2 := Wire.rNum_put x.lsn (Wire.putText x.val ++ (recsBytes xs ++ rest)) g4
    have r3 := Wire.rText_put x.val (recsBytes xs ++ rest) g3
    rw [e, refRecs, if_pos ⟨by omega, by omega, rfl⟩]
    simp only [r1, r2, r3, ih]
    rw [← g1]

theorem refM_back {m : Msg} (h : checkM m = 0) : refM (encM m) = some m := by
  have hf := fine_of h
  obtain ⟨k, hk, hk1, hk2⟩ := hf.kind
  have hrs : ∀ r ∈ m.recs, r.del = false ∧ r.key.length < 2 ^ 64 ∧ r.val.length < 2 ^ 64 ∧ r.lsn < 2 ^ 64 := fun r hr => by
    obtain ⟨h1, h2, h3⟩ := hf.recs r hr
    obtain ⟨k1, k2, _⟩ := hf.rec_ r hr
    have := (stamp_lt h3).2
    exact ⟨h2, by omega, by omega, by omega⟩
  have hte := (stamp_lt hf.te).2
  have hd := hf.di; have hi := hf.id; have hl := hf.lsn; have hw := hf.low; have h1 := hf.key; have h2 := hf.hi; have h3 := hf.val; have h4 := hf.len
  obtain ⟨er, her, her2⟩ : ∃ e : Nat, m.err = e ∧ e < 100 := by
    rcases hf.err with h | h
    · exact ⟨0, by rw [h]; rfl, by omega⟩
    · exact ⟨7, by rw [h]; rfl, by omega⟩
  have e : bodyM m = Wire.putNum k ++ (Wire.putNum m.te ++ (Wire.putNum m.di ++ (Wire.putNum m.id ++ (Wire.putNum m.lsn ++ (Wire.putNum m.low ++ (Wire.putText m.key ++ (Wire.putText m.hi ++ (Wire.putNum (bitM m.del) ++ (Wire.putNum (bitM m.found) ++ (Wire.putText m.val ++ (Wire.putNum m.recs.length ++ (recsBytes m.recs ++ (Wire.putNum er ++ []))))))))))))) := by
    unfold bodyM
    rw [hk, her]
    simp
  have ho : openI (encM m) = (bodyM m, true) := by
    unfold encM
    rw [if_pos h, open_seal]
  have hb : refBody (bodyM m) = (m, true) := by
    rw [e, refBody_tail _ (Wire.rNum_put k _ (by omega)) (Wire.rNum_put m.te _ (by omega)) (Wire.rNum_put m.di _ (by omega)) (Wire.rNum_put m.id _ (by omega)) (Wire.rNum_put m.lsn _ (by omega)) (Wire.rNum_put m.low _ (by omega))
      (Wire.rText_put m.key _ (by omega)) (Wire.rText_put m.hi _ (by omega))]
    have r1 := Wire.rNum_put (bitM m.del) (Wire.putNum (bitM m.found) ++ (Wire.putText m.val ++ (Wire.putNum m.recs.length ++ (recsBytes m.recs ++ (Wire.putNum er ++ []))))) (by have := bitM_lt m.del; omega)
    have r2 := Wire.rNum_put (bitM m.found) (Wire.putText m.val ++ (Wire.putNum m.recs.length ++ (recsBytes m.recs ++ (Wire.putNum er ++ [])))) (by have := bitM_lt m.found; omega)
    have r3 := Wire.rText_put m.val (Wire.putNum m.recs.length ++ (recsBytes m.recs ++ (Wire.putNum er ++ []))) (by omega)
    have r4 := Wire.rNum_put m.recs.length (recsBytes m.recs ++ (Wire.putNum er ++ [])) (by omega)
    have r5 := refRecs_recs m.recs.length h4 m.recs 0 501 (Wire.putNum er ++ []) hrs (by omega) (by omega)
    have r6 := Wire.rNum_put er [] (by omega)
    unfold refTail
    simp only [r1, r2, r3, r4, r5, r6, bitM_one]
    rw [Nat.min_eq_left (by omega), Nat.min_eq_left (by omega), ← hk, ← her]
    simp
  unfold refM
  rw [ho]
  simp only [hb]
  rw [if_pos ⟨trivial, trivial, h, trivial⟩]
theorem refM_eq (s : List UInt8) : refM s = readM s := by
  cases hr : readM s with
  | some m =>
    obtain ⟨h1, h2⟩ := read_lays14 hr
    rw [← h2]
    exact refM_back h1
  | none =>
    cases hq : refM s with
    | none => rfl
    | some m =>
      exfalso
      unfold refM at hq
      split at hq
      · rename_i hc
        obtain ⟨_, _, h3, h4⟩ := hc
        have := read_back14 h3
        rw [h4, hr] at this
        cases this
      · cases hq
end Go.Proofs.Ytnijijcbdajodaa
