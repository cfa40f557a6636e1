/-
  The document's space in plain Lean: what each operation keeps. No program here. No condition.
-/
import Derived.Test.YtmicpjdlldjapaaSpMem
namespace Go.Proofs.Ytmicpjdlldjapaa
set_option linter.unusedVariables false
set_option linter.unusedSimpArgs false

theorem liveN_cons (p : Pc) (ps : List Pc) (i : Nat) : liveN (p :: ps) i = (if p.seg = i then p.n else 0) + liveN ps i := rfl
theorem pieceN_cons (p : Pc) (ps : List Pc) (i : Nat) (k : Int) : pieceN (p :: ps) i k = if p.seg = i ∧ (p.pl : Int) = k then (p.n : Int) else pieceN ps i k := rfl
theorem pieceN_mem {ls : List Pc} {i : Nat} {k : Int} (h : pieceN ls i k ≠ 0) : ∃ p ∈ ls, p.seg = i ∧ (p.pl : Int) = k ∧ (p.n : Int) = pieceN ls i k := by
  induction ls with
  | nil => exact absurd rfl h
  | cons q qs ih =>
    rw [pieceN_cons] at h ⊢
    by_cases hq : q.seg = i ∧ (q.pl : Int) = k
    · rw [if_pos hq]; exact ⟨q, by simp, hq.1, hq.2, rfl⟩
    · rw [if_neg hq] at h ⊢
      obtain ⟨p, hp, r⟩ := ih h
      exact ⟨p, by simp [hp], r⟩
theorem apart_ne {p q : Pc} (h : apartP p q) (hp : 1 ≤ p.n) (hq : 1 ≤ q.n) : ¬ (p.seg = q.seg ∧ p.pl = q.pl) := by
  intro ⟨h1, h2⟩
  have := h h1
  omega
theorem pieceN_of_mem {ls : List Pc} (ha : ls.Pairwise apartP) (hn : ∀ q ∈ ls, 1 ≤ q.n) {p : Pc} (hp : p ∈ ls) : pieceN ls p.seg p.pl = p.n := by
  induction ls with
  | nil => cases hp
  | cons q qs ih =>
    have h1 := List.pairwise_cons.1 ha
    rw [pieceN_cons]
    rcases List.mem_cons.1 hp with rfl | hp
    · rw [if_pos ⟨rfl, rfl⟩]
    · have hne := apart_ne (h1.1 p hp) (hn q (by simp)) (hn p (by simp [hp]))
      rw [if_neg (fun hh => hne ⟨hh.1, by omega⟩)]
      exact ih h1.2 (fun x hx => hn x (by simp [hx])) hp
theorem liveN_eraseP {ls : List Pc} (f : Pc → Bool) {p : Pc} (hf : ls.find? f = some p) (j : Nat) : liveN ls j = liveN (ls.eraseP f) j + (if p.seg = j then p.n else 0) := by
  induction ls with
  | nil => cases hf
  | cons q qs ih =>
    by_cases hq : f q = true
    · rw [List.find?_cons_of_pos hq] at hf
      cases hf
      rw [List.eraseP_cons_of_pos hq]
      simp only [liveN_cons]
      omega
    · rw [List.find?_cons_of_neg hq] at hf
      rw [List.eraseP_cons_of_neg hq]
      have := ih hf
      simp only [liveN_cons]
      omega
theorem pieceN_eraseP {ls : List Pc} (ha : ls.Pairwise apartP) (hn : ∀ q ∈ ls, 1 ≤ q.n) {i pl n : Nat} (hp : ls.any (isPc i pl n) = true) (j : Nat) (k : Int) :
    pieceN (ls.eraseP (isPc i pl n)) j k = if j = i ∧ k = (pl : Int) then 0 else pieceN ls j k := by
  induction ls with
  | nil => cases hp
  | cons q qs ih =>
    have h1 := List.pairwise_cons.1 ha
    have hn' : ∀ x ∈ qs, 1 ≤ x.n := fun x hx => hn x (by simp [hx])
    by_cases hq : isPc i pl n q = true
    · rw [List.eraseP_cons_of_pos hq]
      simp only [isPc, decide_eq_true_eq] at hq
      have h2 : q.seg = i ∧ q.pl = pl := ⟨by omega, by omega⟩
      rw [pieceN_cons]
      by_cases hjk : j = i ∧ k = (pl : Int)
      · rw [if_pos hjk]
        by_cases h0 : pieceN qs j k = 0
        · exact h0
        · obtain ⟨p, hpm, e1, e2, _⟩ := pieceN_mem h0
          exact absurd ⟨by omega, by omega⟩ (apart_ne (h1.1 p hpm) (hn q (by simp)) (hn' p hpm))
      · rw [if_neg hjk, if_neg (by omega)]
    · rw [List.eraseP_cons_of_neg hq]
      rw [List.any_cons, Bool.or_eq_true] at hp
      have := ih h1.2 hn' (hp.resolve_left hq)
      obtain ⟨p, hpm, hpp⟩ := List.any_eq_true.1 (hp.resolve_left hq)
      simp only [isPc, decide_eq_true_eq] at hpp
      have hne := apart_ne (h1.1 p hpm) (hn q (by simp)) (hn' p hpm)
      show (if q.seg = j ∧ (q.pl : Int) = k then (q.n : Int) else pieceN (qs.eraseP (isPc i pl n)) j k) = if j = i ∧ k = (pl : Int) then 0 else (if q.seg = j ∧ (q.pl : Int) = k then (q.n : Int) else pieceN qs j k)
      rw [this]
      by_cases hjk : j = i ∧ k = (pl : Int)
      · rw [if_pos hjk, if_pos hjk, if_neg]
        intro hh
        exact hne ⟨by omega, by omega⟩
      · rw [if_neg hjk, if_neg hjk]
theorem liveN_le {ls : List Pc} (h : ∀ p ∈ ls, p.n ≤ 64) (i : Nat) : liveN ls i ≤ 64 * ls.length := by
  induction ls with
  | nil => simp [liveN]
  | cons q qs ih =>
    have := ih (fun x hx => h x (by simp [hx]))
    have := h q (by simp)
    simp only [List.length_cons, liveN_cons]
    split <;> omega
theorem liveN_pos {ls : List Pc} (hn : ∀ q ∈ ls, 1 ≤ q.n) (i : Nat) : liveN ls i = 0 ↔ ∀ p ∈ ls, p.seg ≠ i := by
  induction ls with
  | nil => simp [liveN]
  | cons q qs ih =>
    have := ih (fun x hx => hn x (by simp [hx]))
    have h1 := hn q (by simp)
    simp only [List.mem_cons, forall_eq_or_imp, liveN_cons]
    rw [← this]
    split <;> omega

/-- An invariant, and how many pieces were ever put in. -/
structure Sp.Good (S : Sp) : Prop where
  inv : S.Inv
  cnt : S.ls.length ≤ S.cnt
theorem Sp.Good.live {S : Sp} (h : S.Good) (hc : S.cnt < 10000) (i : Nat) : liveN S.ls i ≤ 640000 := by
  have h1 := liveN_le (ls := S.ls) (fun p hp => by have := h.inv.fit p hp; have := h.inv.per.2; omega) i
  have := h.cnt
  omega
theorem Sp.Good.pos {S : Sp} (h : S.Good) : ∀ q ∈ S.ls, 1 ≤ q.n := fun q hq => (h.inv.fit q hq).2.1
theorem new_good (segs per : Nat) (hs : 2 ≤ segs ∧ segs ≤ 64) (hp : 1 ≤ per ∧ per ≤ 64) : (Sp.new segs per).Good :=
  ⟨⟨hs, hp, ⟨by simp [Sp.new], by simp [Sp.new]; omega⟩, by simp [Sp.new], by simp [Sp.new], List.Pairwise.nil, by simp [Sp.new]⟩, by simp [Sp.new]⟩
/-- A piece that fits is put in. -/
theorem Sp.Good.put {S : Sp} (h : S.Good) {i pl n : Nat} (hi : i < S.segs) (hn : 1 ≤ n) (hpl : pl + n ≤ S.per) (ha : ∀ p ∈ S.ls, p.seg = i → p.pl + p.n ≤ pl ∨ pl + n ≤ p.pl) (hm : (i : Int) = S.now → pl + n ≤ S.mark) : (S.put i pl n).Good := by
  refine ⟨⟨h.inv.segs, h.inv.per, h.inv.now, h.inv.mark, ?_, ?_, ?_⟩, by simp [Sp.put]; exact h.cnt⟩
  · intro p hp
    rcases List.mem_append.1 hp with hp | hp
    · exact h.inv.fit p hp
    · rw [List.mem_singleton.1 hp]; exact ⟨hi, hn, hpl⟩
  · show (S.ls ++ [(⟨i, pl, n⟩ : Pc)]).Pairwise apartP
    rw [List.pairwise_append]
    refine ⟨h.inv.apart, List.pairwise_singleton _ _, fun p hp q hq => ?_⟩
    rw [List.mem_singleton.1 hq]
    intro e
    exact ha p hp e
  · intro p hp e
    rcases List.mem_append.1 hp with hp | hp
    · exact h.inv.below p hp e
    · rw [List.mem_singleton.1 hp] at e ⊢; exact hm e
theorem Sp.Good.zero {S : Sp} (h : S.Good) {i pl n : Nat} (hn : 1 ≤ n) (ha : ∀ p ∈ S.ls, p.seg = i → p.pl + p.n ≤ pl ∨ pl + n ≤ p.pl) : pieceN S.ls i pl = 0 := by
  by_cases h0 : pieceN S.ls i pl = 0
  · exact h0
  · obtain ⟨p, hp, e1, e2, _⟩ := pieceN_mem h0
    have := ha p hp e1
    have := h.pos p hp
    omega
theorem Sp.may_iff {S : Sp} {seg pl n : Int} : S.may seg pl n = true ↔ (0 ≤ seg ∧ seg < S.segs ∧ seg ≠ S.now ∧ 0 ≤ pl ∧ pl < S.per ∧ 1 ≤ n ∧ n ≤ S.per - pl) ∧ ∀ p ∈ S.ls, ¬ ((p.seg : Int) = seg ∧ (p.pl : Int) < pl + n ∧ pl < p.pl + p.n) := by
  unfold Sp.may
  simp only [Bool.and_eq_true, decide_eq_true_eq, List.all_eq_true, Bool.not_eq_true', decide_eq_false_iff_not]
theorem Sp.Good.take {S : Sp} (h : S.Good) (seg pl n : Int) : (S.take seg pl n).2.Good := by
  unfold Sp.take
  by_cases hm : S.may seg pl n = true
  · rw [if_pos hm]
    obtain ⟨⟨h1, h2, h3, h4, h5, h6, h7⟩, h8⟩ := Sp.may_iff.1 hm
    exact h.put (i := seg.toNat) (pl := pl.toNat) (n := n.toNat) (by omega) (by omega) (by omega) (fun p hp e => by have := h8 p hp; omega) (fun e => by omega)
  · rw [if_neg hm]; exact h
theorem Sp.Good.drop {S : Sp} (h : S.Good) (seg pl n : Int) : (S.drop seg pl n).2.Good := by
  unfold Sp.drop
  split
  · have hs : ∀ p ∈ S.ls.eraseP (isPc seg pl n), p ∈ S.ls := fun p hp => List.mem_of_mem_eraseP hp
    refine ⟨⟨h.inv.segs, h.inv.per, h.inv.now, h.inv.mark, fun p hp => h.inv.fit p (hs p hp), h.inv.apart.sublist (List.eraseP_sublist), fun p hp e => h.inv.below p (hs p hp) e⟩, ?_⟩
    exact Nat.le_trans (List.eraseP_sublist.length_le) h.cnt
  · exact h
theorem Sp.Good.start {S : Sp} (h : S.Good) {i : Nat} (hi : i < S.segs) (h0 : liveN S.ls i = 0) (m : Nat) (hm : m ≤ S.per) : (⟨S.segs, S.per, S.ls, i, m, S.cnt⟩ : Sp).Good := by
  have hz := (liveN_pos h.pos i).1 h0
  exact ⟨⟨h.inv.segs, h.inv.per, ⟨by show (-1 : Int) ≤ i; omega, by show (i : Int) < S.segs; omega⟩, hm, h.inv.fit, h.inv.apart, fun p hp e => absurd (by have : (p.seg : Int) = i := e; omega) (hz p hp)⟩, h.cnt⟩
theorem Sp.Good.up {S : Sp} (h : S.Good) {m : Nat} (h1 : S.mark ≤ m) (h2 : m ≤ S.per) : (⟨S.segs, S.per, S.ls, S.now, m, S.cnt⟩ : Sp).Good :=
  ⟨⟨h.inv.segs, h.inv.per, h.inv.now, h2, h.inv.fit, h.inv.apart, fun p hp e => Nat.le_trans (h.inv.below p hp e) h1⟩, h.cnt⟩
end Go.Proofs.Ytmicpjdlldjapaa
