/-
  What the law of runs says beside its walk: a row turned about; what a run is when one of its calls is told otherwise. No condition.
-/
import Derived.Test.YtffianjbljgnaaaRun
namespace Go.Proofs.Ytffianjbljgnaaa
set_option linter.unusedVariables false
set_option linter.unusedSimpArgs false
open Go.RowKit Go.Maps

section
variable {α : Type}
/-- A row that begins at its place t, and ends ahead of it. -/
def turnL (R : List α) (t : Nat) : List α := R.drop (t % R.length) ++ R.take (t % R.length)
theorem turnL_perm (R : List α) (t : Nat) : (turnL R t).Perm R := by
  unfold turnL
  exact List.perm_append_comm.trans (List.Perm.of_eq (List.take_append_drop _ R))
theorem turnL_length (R : List α) (t : Nat) : (turnL R t).length = R.length := (turnL_perm R t).length_eq
theorem turnL_get (X : List α) (i t : Nat) (h : i < X.length) : (turnL X.reverse t)[i]? = X[X.length - 1 - (i + t) % X.length]? := by
  obtain ⟨n, hn⟩ : ∃ n, X.length = n := ⟨_, rfl⟩
  obtain ⟨m, hm⟩ : ∃ m, t % n = m := ⟨_, rfl⟩
  have hmn : m < n := by rw [← hm]; exact Nat.mod_lt _ (by omega)
  have e1 : (i + t) % n = (i + m) % n := by rw [← hm, Nat.add_mod_mod]
  unfold turnL
  rw [List.length_reverse, hn, e1, hm]
  by_cases hi : i < n - m
  · rw [List.getElem?_append_left (by rw [List.length_drop, List.length_reverse]; omega), List.getElem?_drop, List.getElem?_reverse (by omega), Nat.mod_eq_of_lt (by omega), hn, Nat.add_comm m i]
  · rw [List.getElem?_append_right (by rw [List.length_drop, List.length_reverse]; omega), List.length_drop, List.length_reverse, hn, List.getElem?_take, if_pos (by omega), List.getElem?_reverse (by omega), hn]
    have e2 : (i + m) % n = i + m - n := by rw [Nat.mod_eq_sub_mod (by omega), Nat.mod_eq_of_lt (by omega)]
    rw [e2]
    congr 1
    omega
theorem turnL_take (X : List α) (i t : Nat) (h : i < X.length) (q : α) (hq : X[X.length - 1 - (i + t) % X.length]? = some q) : (turnL X.reverse t).take (i + 1) = (turnL X.reverse t).take i ++ [q] := by
  rw [List.take_add_one, turnL_get X i t h, hq]; rfl
end
theorem runZ_length {M M' : List KV} {W W' : List Rec} {g : List MZ} (h : runZ M W g = (true, M', W')) : W'.length ≤ W.length + g.length := by
  induction g generalizing M W with
  | nil => unfold runZ at h; simp only [Prod.mk.injEq, true_and] at h; obtain ⟨_, rfl⟩ := h; exact Nat.le_refl _
  | cons q t ih =>
    unfold runZ at h
    cases hb : rightB M q with
    | true =>
      rw [if_pos hb] at h
      have := ih h
      have := rightW_length W q
      rw [List.length_cons]; omega
    | false => rw [if_neg (by simp [hb])] at h; cases h
theorem Hist.ops {j : Nat} {X : List MZ} {Z : List Entry} {M : List KV} (h : Hist j X Z M) : ∀ x ∈ Z, x.ops.length ≤ 7 := by
  induction h with
  | nil => simp
  | @tx j X Z M M' W g h hg hr ih =>
    intro x hx
    rcases List.mem_append.1 hx with hx | hx
    · exact ih x hx
    · unfold entO at hx
      split at hx
      · cases hx
      · simp only [List.mem_singleton] at hx; subst hx
        have h1 := runZ_length hr
        have h2 := hg.few
        rw [List.length_nil] at h1
        show W.length ≤ 7
        omega
theorem runL_length {M : List KV} (h : Asc M) (l : List Entry) (hl : ∀ x ∈ l, x.ops.length ≤ 7) : (runL M l).length ≤ M.length + l.length * 7 := by
  unfold runL
  induction l generalizing M with
  | nil => simp
  | cons x t ih =>
    rw [List.foldl_cons]
    have h1 := ih (ops_asc h x.ops) (fun y hy => hl y (List.mem_cons_of_mem _ hy))
    have h2 := ops_length h x.ops
    have h3 := hl x (by simp)
    rw [List.length_cons]; omega
theorem Hist.after_length {j : Nat} {X : List MZ} {Z : List Entry} {M : List KV} (h : Hist j X Z M) : (runL [] Z).length ≤ j * 7 := by
  have h1 := runL_length (M := []) List.Pairwise.nil Z h.ops
  have h2 := h.length.2
  simp at h1
  omega
theorem Hist.comm_length {j : Nat} {X : List MZ} {Z : List Entry} {M : List KV} (h : Hist j X Z M) (tss : List Nat) (y : List MZ) (hy : (y.map kapK).Perm (X.map kapK)) : (commL tss y).length = j := by
  rw [comm_hist h tss y hy, List.length_range']
theorem Hist.boundC {j : Nat} {X : List MZ} {Z : List Entry} {M : List KV} (h : Hist j X Z M) (y : List MZ) (hy : (y.map kapK).Perm (X.map kapK)) (ts : Nat) : BoundC (indsL ts y).length := by
  rw [inds_length, few_kap hy]
  have := h.few ts
  show _ < 20
  omega
theorem mds_set (L : List Md) (k j : Nat) (m m' : Md) (v : Value) (hL : L[k]? = some m) (hj : j < 16) (hm : (mdCells m).set j v = mdCells m') : (mdsCells L).set (k * 16 + j) v = mdsCells (L.set k m') := by
  induction L generalizing k with
  | nil => simp at hL
  | cons q t ih =>
    have hl : ∀ m : Md, (mdCells m).length = 16 := fun _ => rfl
    cases k with
    | zero =>
      simp only [List.getElem?_cons_zero, Option.some.injEq] at hL
      subst hL
      show (mdCells q ++ mdsCells t).set (0 * 16 + j) v = mdCells m' ++ mdsCells t
      rw [Nat.zero_mul, Nat.zero_add, List.set_append_left _ _ (by rw [hl]; exact hj), hm]
    | succ k =>
      show (mdCells q ++ mdsCells t).set ((k + 1) * 16 + j) v = mdCells q ++ mdsCells (t.set k m')
      rw [List.set_append_right _ _ (by rw [hl]; omega), hl, show (k + 1) * 16 + j - 16 = k * 16 + j by omega, ih k (by simpa using hL)]
theorem mem_set_at {β : Type} {X : List β} {k : Nat} {q p : β} (h : p ∈ X.set k q) : p = q ∨ ∃ j, j ≠ k ∧ X[j]? = some p := by
  obtain ⟨j, hj⟩ := List.mem_iff_getElem?.1 h
  by_cases e : j = k
  · subst e
    have hl : j < (X.set j q).length := (List.getElem?_eq_some_iff.1 hj).1
    rw [List.getElem?_set_self (by rw [List.length_set] at hl; exact hl)] at hj
    exact .inl (Option.some.inj hj).symm
  · rw [List.getElem?_set_ne (Ne.symm e)] at hj
    exact .inr ⟨j, e, hj⟩
section
variable {B : Nat} {w w' : World} {mb : Nat} {v4 v5 : Value} {l : List (Option Nat)} {C : List Nat} {X : List MZ} {Z : List EZ} {M : List KV}
theorem RunAt.madeOk (h : RunAt B w mb v4 v5 l C X Z M) : MadeOk X := ⟨fun q hq => Nat.le_trans (h.eachX q hq).small (by omega), fun q hq => by have := (h.eachX q hq).kind; omega⟩
/-- A call is told otherwise. -/
theorem RunAt.told (h : RunAt B w mb v4 v5 l C X Z M) {a a5 : Option Addr} {c c5 : Nat} (hv : v4 = .slice a X.length c) (hv5 : v5 = .slice a5 Z.length c5) {k : Nat} {q q' : MZ} (hq : X[k]? = some q) {S : List Nat} (hm : Mod S w w')
    (hS : ∀ x ∈ S, v4.ownBlock = some x ∨ (prV q.1).ownBlock = some x ∨ w.heap.size ≤ x) (hrow : w'.ownsRow B 37 16 v4 X.length (mdsCells ((X.map (·.1)).set k q'.1))) (hq' : MdIs w' q') :
    MadeAt w' a X.length c (X.set k q') ∧ EntsAt w' a5 Z.length c5 Z := by
  have hqm : q ∈ X := List.mem_of_getElem? hq
  have hcS : ∀ x ∈ S, x ∈ C → (prV q.1).ownBlock = some x := fun x hx hC => by
    rcases hS x hx with h1 | h1 | h1
    · exact absurd (by rw [h.l1, h1]) ((h.hot.cold x hC).1 1)
    · exact h1
    · have := (h.hot.cold x hC).2; omega
  constructor
  · refine ⟨by rw [List.length_set], ?_, fun p hp => ?_⟩
    · rw [List.map_set]
      rw [hv] at hrow
      exact (own_rows hrow).1
    · rcases mem_set_at hp with rfl | ⟨j, hj, hpj⟩
      · exact hq'
      · have hpm : p ∈ X := List.mem_of_getElem? hpj
        refine ((h.eachX p hpm).mod hm (fun x hx e => ?_)).is
        have h1 := hcS x hx (h.coldX p hpm x e)
        have hap := List.pairwise_iff_getElem.1 h.apart
        obtain ⟨j1, j2⟩ := List.getElem?_eq_some_iff.1 hpj
        obtain ⟨k1, k2⟩ := List.getElem?_eq_some_iff.1 hq
        rcases Nat.lt_or_gt_of_ne hj with hlt | hlt
        · have := hap j k j1 k1 hlt x
          rw [j2, k2] at this
          exact this e h1
        · have := hap k j k1 j1 hlt x
          rw [j2, k2] at this
          exact this h1 e
  · have hents : w'.ownsRow B 40 3 v5 Z.length (entsCells (Z.map (·.1))) := ownsRow_mod h.ents hm (fun x hx e => by
      rcases hS x hx with h1 | h1 | h1
      · exact h.hot.ok 1 2 x (by omega) (by rw [h.l1, h1]) (by rw [h.l2, e])
      · exact (h.hot.cold x (h.coldX q hqm x h1)).1 2 (by rw [h.l2, e])
      · have := (h.ents.lt x e).2; omega)
    rw [hv5] at hents
    refine ⟨rfl, (own_rows hents).1, fun p hp => (h.eachZ p hp).mod hm (fun g o e hx => ?_)⟩
    exact h.sep q hqm p hp g o e (hcS g hx (h.coldZ p hp g o e))
end
end Go.Proofs.Ytffianjbljgnaaa
