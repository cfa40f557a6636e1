/-
  The plain law of transactions that run one behind the other: serial in whatever order they are listed; a read that is told otherwise is found. No condition.
-/
import Derived.Test.YtffianjbljgnaaaSerial
import Derived.Test.YtffianjbljgnaaaAfter
namespace Go.Proofs.Ytffianjbljgnaaa
set_option linter.unusedVariables false
set_option linter.unusedSimpArgs false
open Go.RowKit

section
variable {α : Type} (key : α → Int)
def ltK (x y : α) : Bool := decide (key x < key y)
theorem insRevK_desc (x : α) (R : List α) (h : R.Pairwise fun a b => key b ≤ key a) : (insRev (ltK key) x R).Pairwise fun a b => key b ≤ key a := by
  induction R with
  | nil => simp [insRev]
  | cons y t ih =>
    obtain ⟨h1, h2⟩ := List.pairwise_cons.1 h
    unfold insRev
    by_cases hl : key x < key y
    · rw [if_pos (by simp [ltK, hl])]
      refine List.pairwise_cons.2 ⟨fun b hb => ?_, ih h2⟩
      rcases List.mem_cons.1 ((insRev_perm _ x t).mem_iff.1 hb) with rfl | hb
      · omega
      · exact h1 b hb
    · rw [if_neg (by simp [ltK, hl])]
      refine List.pairwise_cons.2 ⟨fun b hb => ?_, h⟩
      rcases List.mem_cons.1 hb with rfl | hb
      · omega
      · have := h1 b hb; omega
theorem isortK_sorted (d : List α) : (isort (ltK key) d).Pairwise fun a b => key a ≤ key b := by
  unfold isort
  rw [List.pairwise_reverse]
  have : ∀ (d R : List α), R.Pairwise (fun a b => key b ≤ key a) → (d.foldl (fun R x => insRev (ltK key) x R) R).Pairwise (fun a b => key b ≤ key a) := by
    intro d
    induction d with
    | nil => intro R h; exact h
    | cons x t ih => intro R h; rw [List.foldl_cons]; exact ih _ (insRevK_desc key x R h)
  exact this d [] List.Pairwise.nil
theorem sorted_unique {L L' : List α} (h : L.Pairwise fun a b => key a < key b) (h' : L'.Pairwise fun a b => key a ≤ key b) (hp : L'.Perm L) : L' = L := by
  induction L generalizing L' with
  | nil => exact hp.eq_nil
  | cons a t ih =>
    obtain ⟨h1, h2⟩ := List.pairwise_cons.1 h
    cases L' with
    | nil => have := hp.length_eq; simp at this
    | cons b t' =>
      obtain ⟨h3, h4⟩ := List.pairwise_cons.1 h'
      have e : b = a := by
        have a1 := hp.mem_iff.1 (List.mem_cons_self (a := b) (l := t'))
        have a2 := hp.mem_iff.2 (List.mem_cons_self (a := a) (l := t))
        rcases List.mem_cons.1 a1 with e | a1
        · exact e
        · rcases List.mem_cons.1 a2 with e | a2
          · exact e.symm
          · have := h1 b a1; have := h3 a a2; omega
      subst e
      rw [ih h2 h4 (List.perm_cons b |>.1 hp)]
theorem isort_unique {L d : List α} (h : L.Pairwise fun a b => key a < key b) (hp : d.Perm L) : isort (ltK key) d = L :=
  sorted_unique key h (isortK_sorted key d) ((isort_perm _ d).trans hp)
end
theorem inds_map (p : MZ → Bool) (z : List MZ) : ((List.range z.length).filter fun i => match z[i]? with | some q => p q | none => false).map (fun i => z[i]?) = (z.filter p).map some := by
  induction z with
  | nil => rfl
  | cons q t ih =>
    rw [List.length_cons, List.range_succ_eq_map, List.filter_cons]
    have e1 : ((List.map Nat.succ (List.range t.length)).filter fun i => match (q :: t)[i]? with | some q => p q | none => false) = ((List.range t.length).filter fun i => match t[i]? with | some q => p q | none => false).map Nat.succ := by
      rw [List.filter_map]
      congr 1
    have e2 : (((List.range t.length).filter fun i => match t[i]? with | some q => p q | none => false).map Nat.succ).map (fun i => (q :: t)[i]?) = (t.filter p).map some := by
      rw [List.map_map, ← ih]
      rfl
    rw [List.filter_cons]
    simp only [List.getElem?_cons_zero]
    by_cases hp : p q = true
    · rw [if_pos hp, if_pos hp, e1, List.map_cons, e2]; rfl
    · rw [if_neg hp, if_neg hp, e1, e2]
def nK (q : MZ) : Int := q.1.n
theorem calls_map (ts : Nat) (z : List MZ) : (callsL ts z).map (fun i => z[i]?) = (isort (ltK nK) (z.filter fun q => okC ts q.1)).map some := by
  let nO : Option MZ → Int := fun o => match o with | some q => q.1.n | none => 0
  have h1 := isort_map (fun i => z[i]?) (fun a b => decide (nO a < nO b)) (indsL ts z)
  have e1 : (fun x y : Nat => decide (nO z[x]? < nO z[y]?)) = fun x y => decide (nAt z x < nAt z y) := by
    funext x y
    have : ∀ x : Nat, nO z[x]? = nAt z x := fun x => by unfold nAt; cases z[x]? <;> rfl
    rw [this, this]
  rw [e1] at h1
  have h2 : (indsL ts z).map (fun i => z[i]?) = (z.filter fun q => okC ts q.1).map some := inds_map (fun q => okC ts q.1) z
  rw [h2, isort_map some] at h1
  unfold callsL
  rw [← h1]
  rfl
theorem inds_length (ts : Nat) (z : List MZ) : (indsL ts z).length = (z.filter fun q => okC ts q.1).length := by
  have := congrArg List.length (inds_map (fun q => okC ts q.1) z)
  rw [List.length_map, List.length_map] at this
  exact this

/-- Calls, run one behind the other, as long as they are right. -/
def runZ : List KV → List Rec → List MZ → Bool × List KV × List Rec
  | M, W, [] => (true, M, W)
  | M, W, q :: t => if rightB M q then runZ (rightM M q) (rightW W q) t else (false, M, W)
theorem runC_all {z : List MZ} {M M' : List KV} {W W' : List Rec} {is : List Nat} {g : List MZ} (h : is.map (fun i => z[i]?) = g.map some) (hr : runZ M W g = (true, M', W')) : runC z M W is = (none, M', W') := by
  induction is generalizing g M W with
  | nil =>
    cases g with
    | nil => unfold runZ at hr; simp only [Prod.mk.injEq, true_and] at hr; obtain ⟨rfl, rfl⟩ := hr; rfl
    | cons q t => simp at h
  | cons i t ih =>
    cases g with
    | nil => simp at h
    | cons q g =>
      simp only [List.map_cons, List.cons.injEq] at h
      unfold runZ at hr
      unfold runC
      rw [h.1]
      cases hb : rightB M q with
      | true => rw [if_pos hb] at hr; simp only [hb, if_true]; exact ih h.2 hr
      | false => rw [if_neg (by simp [hb])] at hr; cases hr
theorem runC_stop {z : List MZ} {M M' : List KV} {W W' : List Rec} {is : List Nat} {g1 g2 : List MZ} {q : MZ} (h : is.map (fun i => z[i]?) = (g1 ++ q :: g2).map some) (hr : runZ M W g1 = (true, M', W')) (hq : rightB M' q = false) : ∃ i, runC z M W is = (some i, M', W') ∧ z[i]? = some q := by
  induction is generalizing g1 M W with
  | nil => cases g1 <;> simp at h
  | cons i t ih =>
    cases g1 with
    | nil =>
      simp only [List.nil_append, List.map_cons, List.cons.injEq] at h
      unfold runZ at hr
      simp only [Prod.mk.injEq, true_and] at hr
      obtain ⟨rfl, rfl⟩ := hr
      refine ⟨i, ?_, h.1⟩
      unfold runC
      rw [h.1]
      simp [hq]
    | cons p g1 =>
      simp only [List.cons_append, List.map_cons, List.cons.injEq] at h
      unfold runZ at hr
      cases hb : rightB M p with
      | true =>
        rw [if_pos hb] at hr
        obtain ⟨k, h1, h2⟩ := ih h.2 hr
        refine ⟨k, ?_, h2⟩
        unfold runC
        rw [h.1]
        simp only [hb, if_true]
        exact h1
      | false => rw [if_neg (by simp [hb])] at hr; cases hr
theorem runZ_append {M M' : List KV} {W W' : List Rec} {g1 g2 : List MZ} (h : runZ M W (g1 ++ g2) = (true, M', W')) : ∃ M1 W1, runZ M W g1 = (true, M1, W1) ∧ runZ M1 W1 g2 = (true, M', W') := by
  induction g1 generalizing M W with
  | nil => exact ⟨M, W, rfl, h⟩
  | cons q t ih =>
    rw [List.cons_append] at h
    unfold runZ at h
    cases hb : rightB M q with
    | true =>
      rw [if_pos hb] at h
      obtain ⟨M1, W1, h1, h2⟩ := ih h
      exact ⟨M1, W1, by unfold runZ; rw [if_pos hb]; exact h1, h2⟩
    | false => rw [if_neg (by simp [hb])] at h; cases h
theorem runZ_snoc {M M' : List KV} {W W' : List Rec} {g : List MZ} (q : MZ) (h : runZ M W g = (true, M', W')) (hq : rightB M' q = true) : runZ M W (g ++ [q]) = (true, rightM M' q, rightW W' q) := by
  induction g generalizing M W with
  | nil =>
    unfold runZ at h
    simp only [Prod.mk.injEq, true_and] at h
    obtain ⟨rfl, rfl⟩ := h
    show runZ M W [q] = _
    unfold runZ
    rw [if_pos hq]; rfl
  | cons p t ih =>
    unfold runZ at h
    rw [List.cons_append]
    unfold runZ
    cases hb : rightB M p with
    | true => rw [if_pos hb] at h; simp only [if_true]; exact ih h
    | false => rw [if_neg (by simp [hb])] at h; cases h
/-- The keys of what was written are apart. -/
def ApartR (W : List Rec) : Prop := W.Pairwise fun a b => a.key ≠ b.key
theorem setR_apart {W : List Rec} (h : ApartR W) (r : Rec) : ApartR (setR W r) := by
  unfold ApartR at h ⊢
  induction W with
  | nil => simp [setR]
  | cons q t ih =>
    obtain ⟨h1, h2⟩ := List.pairwise_cons.1 h
    unfold setR
    by_cases e : q.key = r.key
    · rw [if_pos e]
      exact List.pairwise_cons.2 ⟨fun b hb => by rw [← e]; exact h1 b hb, h2⟩
    · rw [if_neg e]
      refine List.pairwise_cons.2 ⟨fun b hb => ?_, ih h2⟩
      rcases setR_mem t r b hb with rfl | hb
      · exact e
      · exact h1 b hb
theorem rightW_apart {W : List Rec} (h : ApartR W) (q : MZ) : ApartR (rightW W q) := by
  unfold rightW
  split
  · exact setR_apart h _
  · split
    · exact setR_apart h _
    · exact h
theorem runZ_apart {M M' : List KV} {W W' : List Rec} {g : List MZ} (h : runZ M W g = (true, M', W')) (hW : ApartR W) : ApartR W' := by
  induction g generalizing M W with
  | nil => unfold runZ at h; simp only [Prod.mk.injEq, true_and] at h; obtain ⟨_, rfl⟩ := h; exact hW
  | cons q t ih =>
    unfold runZ at h
    cases hb : rightB M q with
    | true => rw [if_pos hb] at h; exact ih h (rightW_apart hW q)
    | false => rw [if_neg (by simp [hb])] at h; cases h
theorem findR_of {W : List Rec} (h : ApartR W) {r : Rec} (hr : r ∈ W) : findR W r.key = some r := by
  unfold ApartR at h
  induction W with
  | nil => cases hr
  | cons q t ih =>
    obtain ⟨h1, h2⟩ := List.pairwise_cons.1 h
    unfold findR
    rcases List.mem_cons.1 hr with rfl | hr
    · rw [if_pos rfl]
    · rw [if_neg (fun e => h1 r hr e.symm), ih h2 hr]
theorem okOps_self {W : List Rec} (h : ApartR W) : ∀ (B : List Rec) (S : List Txt), (∀ r ∈ B, r ∈ W) → ApartR B → (∀ r ∈ B, r.key ∉ S) → okOps W S B = true := by
  intro B
  induction B with
  | nil => intro S _ _ _; rfl
  | cons r t ih =>
    intro S hm ha hS
    obtain ⟨h1, h2⟩ := List.pairwise_cons.1 ha
    unfold okOps okOp
    rw [findR_of h (hm r (by simp))]
    simp only [hS r (by simp), decide_true, decide_false, Bool.not_false, Bool.and_self, Bool.true_and]
    refine ih _ (fun q hq => hm q (List.mem_cons_of_mem _ hq)) h2 (fun q hq => ?_)
    intro hk
    rcases List.mem_cons.1 hk with e | hk
    · exact h1 q hq e.symm
    · exact hS q (List.mem_cons_of_mem _ hq) hk
/-- The entry of what was written: none, if nothing was. -/
def entO (ts : Nat) (W : List Rec) : List Entry := if W = [] then [] else [⟨ts, ts, W⟩]
theorem ended_self {W : List Rec} (h : ApartR W) (ts : Nat) : endedB W (entO ts W) = true := by
  unfold entO
  split
  · rename_i e; subst e; rfl
  · rename_i e
    show (!decide (W.length = 0) && (decide (W.length = W.length) && okOps W [] W)) = true
    rw [okOps_self h W [] (fun _ hr => hr) h (by simp)]
    cases W with
    | nil => exact absurd rfl e
    | cons _ _ => simp
/-- A transaction's calls: numbered, all answered, with one commit. -/
structure GroupIs (ts : Nat) (g : List MZ) : Prop where
  each : ∀ q ∈ g, q.1.ts = ts ∧ q.1.dn = true ∧ q.1.err = 0
  asc : g.Pairwise fun a b => nK a < nK b
  com : ∃ q ∈ g, q.1.kind = 5
  few : g.length ≤ 7
/-- Transactions that ran one behind the other: what was made, the entries, the map. -/
inductive Hist : Nat → List MZ → List Entry → List KV → Prop
  | nil : Hist 0 [] [] []
  | tx {j : Nat} {X : List MZ} {Z : List Entry} {M M' : List KV} {W : List Rec} (g : List MZ) : Hist j X Z M → GroupIs (10 + j) g → runZ M [] g = (true, M', W) → Hist (j + 1) (X ++ g) (Z ++ entO (10 + j) W) M'
theorem Hist.ts {j : Nat} {X : List MZ} {Z : List Entry} {M : List KV} (h : Hist j X Z M) : (∀ q ∈ X, 10 ≤ q.1.ts ∧ q.1.ts < 10 + j) ∧ (∀ x ∈ Z, 10 ≤ x.ts ∧ x.ts < 10 + j) := by
  induction h with
  | nil => simp
  | tx g _ hg _ ih =>
    refine ⟨fun q hq => ?_, fun x hx => ?_⟩
    · rcases List.mem_append.1 hq with hq | hq
      · have := ih.1 q hq; omega
      · have := (hg.each q hq).1; omega
    · rcases List.mem_append.1 hx with hx | hx
      · have := ih.2 x hx; omega
      · unfold entO at hx
        split at hx
        · cases hx
        · simp only [List.mem_singleton] at hx; subst hx; simp
theorem filter_all {p : MZ → Bool} {l : List MZ} (h : ∀ q ∈ l, p q = true) : l.filter p = l := List.filter_eq_self.2 h
theorem filter_none {β : Type} {p : β → Bool} {l : List β} (h : ∀ q ∈ l, p q = false) : l.filter p = [] := List.filter_eq_nil_iff.2 fun q hq => by simp [h q hq]
theorem entsOf_eq (ez : List EZ) (hts : ∀ q ∈ ez, q.1.ts = q.2.ts) (ts : Nat) : entsOf ez ts = (ez.map (·.2)).filter fun x => decide (x.ts = ts) := by
  unfold entsOf ofZ
  rw [List.filter_map]
  congr 1
  refine List.filter_congr fun q hq => ?_
  simp only [Function.comp_apply, hts q hq]
theorem perm_entO {l : List Entry} {ts : Nat} {W : List Rec} (h : l.Perm (entO ts W)) : l = entO ts W := by
  unfold entO at h ⊢
  split
  · rename_i e; rw [if_pos e] at h; exact h.eq_nil
  · rename_i e; rw [if_neg e] at h; exact List.perm_singleton.1 h
theorem serialL_cons (z : List MZ) (ez : List EZ) (M : List KV) (ts : Nat) (t : List Nat) : serialL z ez M (ts :: t) = match runC z M [] (callsL ts z) with
    | (some i, _, _) => (i : Int)
    | (none, M2, W2) => if endedB W2 (entsOf ez ts) then serialL z ez M2 t else firstAt (askC ts) 0 z := rfl
/-- What is run first comes to where it came. -/
theorem serial_pre {j : Nat} {X0 : List MZ} {Z0 : List Entry} {M0 : List KV} (h : Hist j X0 Z0 M0) (y : List MZ) (ez : List EZ) (hts : ∀ q ∈ ez, q.1.ts = q.2.ts) :
    ∀ (X1 : List MZ) (Z1 : List Entry) (L : List Nat), (∀ ts < 10 + j, (y.filter fun q => okC ts q.1).Perm ((X0 ++ X1).filter fun q => okC ts q.1)) → (∀ q ∈ X1, 10 + j ≤ q.1.ts) → (ez.map (·.2)).Perm (Z0 ++ Z1) → (∀ x ∈ Z1, 10 + j ≤ x.ts) →
    serialL y ez [] (List.range' 10 j ++ L) = serialL y ez M0 L := by
  induction h with
  | nil => intro X1 Z1 L _ _ _ _; rfl
  | @tx j X Z M M' W g h hg hr ih =>
    intro X1 Z1 L hy hX1 hz hZ1
    rw [List.range'_concat, List.append_assoc, ih (g ++ X1) (entO (10 + j) W ++ Z1) ([10 + 1 * j] ++ L) (fun ts hts => by rw [← List.append_assoc]; exact hy ts (by omega)) (fun q hq => by
        rcases List.mem_append.1 hq with hq | hq
        · have := (hg.each q hq).1; omega
        · have := hX1 q hq; omega) (by rw [← List.append_assoc]; exact hz) (fun x hx => by
        rcases List.mem_append.1 hx with hx | hx
        · unfold entO at hx
          split at hx
          · cases hx
          · simp only [List.mem_singleton] at hx; subst hx; simp
        · have := hZ1 x hx; omega), Nat.one_mul]
    show serialL y ez M ((10 + j) :: L) = _
    have e1 : (X ++ g ++ X1).filter (fun q => okC (10 + j) q.1) = g := by
      rw [List.filter_append, List.filter_append, filter_none (l := X), filter_all (l := g), filter_none (l := X1)]
      · simp
      · intro q hq
        have := hX1 q hq
        unfold okC
        rw [decide_eq_false (by omega)]; rfl
      · intro q hq
        obtain ⟨h1, h2, h3⟩ := hg.each q hq
        unfold okC
        rw [h1, h2, h3]; simp
      · intro q hq
        have := h.ts.1 q hq
        unfold okC
        rw [decide_eq_false (by omega)]; rfl
    have e2 := hy (10 + j) (by omega)
    rw [e1] at e2
    have e3 : runC y M [] (callsL (10 + j) y) = (none, M', W) := by
      refine runC_all (g := g) ?_ hr
      rw [calls_map, isort_unique nK hg.asc e2]
    have e4 : entsOf ez (10 + j) = entO (10 + j) W := by
      rw [entsOf_eq ez hts]
      refine perm_entO ((hz.filter _).trans ?_)
      rw [List.filter_append, List.filter_append, filter_none (l := Z), filter_none (l := Z1), List.nil_append, List.append_nil]
      · refine List.Perm.of_eq (List.filter_eq_self.2 fun x hx => ?_)
        unfold entO at hx
        split at hx
        · cases hx
        · simp only [List.mem_singleton] at hx; subst hx; simp
      · intro x hx
        have := hZ1 x hx
        exact decide_eq_false (by omega)
      · intro x hx
        have := h.ts.2 x hx
        exact decide_eq_false (by omega)
    rw [serialL_cons, e3]
    show (if endedB W (entsOf ez (10 + j)) then serialL y ez M' L else _) = _
    rw [e4, ended_self (runZ_apart hr List.Pairwise.nil), if_pos rfl]
/-- What the order of transactions hangs on. -/
def kapK (q : MZ) : Nat × Int × Int × Bool × Int := (q.1.ts, q.1.n, q.1.kind, q.1.dn, q.1.err)
theorem comm_mem (tss : List Nat) (z : List MZ) (x : Nat) : x ∈ commL tss z ↔ ∃ q ∈ z, okM tss q.1 = true ∧ q.1.ts = x := by
  have : ∀ (z : List MZ) (L : List Nat), x ∈ z.foldl (fun L q => if okM tss q.1 then insA q.1.ts L else L) L ↔ x ∈ L ∨ ∃ q ∈ z, okM tss q.1 = true ∧ q.1.ts = x := by
    intro z
    induction z with
    | nil => intro L; simp
    | cons q t ih =>
      intro L
      rw [List.foldl_cons, ih]
      cases h : okM tss q.1 with
      | true =>
        simp only [if_true, insA_mem, List.mem_cons, exists_eq_or_imp, h, true_and]
        constructor
        · rintro ((h | h) | h)
          · exact .inr (.inl h.symm)
          · exact .inl h
          · exact .inr (.inr h)
        · rintro (h | h | h)
          · exact .inl (.inr h)
          · exact .inl (.inl h.symm)
          · exact .inr h
      | false => simp [h]
  unfold commL
  rw [this]
  simp
theorem Hist.acked {j : Nat} {X : List MZ} {Z : List Entry} {M : List KV} (h : Hist j X Z M) : (∀ q ∈ X, q.1.dn = true ∧ q.1.err = 0) ∧ ∀ x, 10 ≤ x → x < 10 + j → ∃ q ∈ X, q.1.kind = 5 ∧ q.1.ts = x := by
  induction h with
  | nil => exact ⟨by simp, fun x h1 h2 => by omega⟩
  | @tx j X Z M M' W g h hg hr ih =>
    refine ⟨fun q hq => ?_, fun x h1 h2 => ?_⟩
    · rcases List.mem_append.1 hq with hq | hq
      · exact ih.1 q hq
      · exact (hg.each q hq).2
    · by_cases hx : x = 10 + j
      · obtain ⟨q, hq, hk⟩ := hg.com
        exact ⟨q, List.mem_append_right _ hq, hk, by rw [hx]; exact (hg.each q hq).1⟩
      · obtain ⟨q, hq, hk⟩ := ih.2 x h1 (by omega)
        exact ⟨q, List.mem_append_left _ hq, hk⟩
theorem comm_hist {j : Nat} {X : List MZ} {Z : List Entry} {M : List KV} (h : Hist j X Z M) (tss : List Nat) (y : List MZ) (hy : (y.map kapK).Perm (X.map kapK)) : commL tss y = List.range' 10 j := by
  refine asc_ext (commL_asc _ _) (by simpa using List.pairwise_lt_range' (s := 10) (n := j)) fun x => ?_
  rw [comm_mem, List.mem_range'_1]
  constructor
  · rintro ⟨q, hq, _, rfl⟩
    have : kapK q ∈ X.map kapK := hy.mem_iff.1 (List.mem_map_of_mem hq)
    obtain ⟨q', hq', e⟩ := List.mem_map.1 this
    have := h.ts.1 q' hq'
    have e1 : q'.1.ts = q.1.ts := congrArg (·.1) e
    omega
  · rintro ⟨h1, h2⟩
    obtain ⟨q, hq, hk, ht⟩ := h.acked.2 x h1 h2
    have hqa := h.acked.1 q hq
    obtain ⟨q', hq', e⟩ := List.mem_map.1 (hy.mem_iff.2 (List.mem_map_of_mem hq))
    have e1 : q'.1.ts = q.1.ts := congrArg (·.1) e
    have e2 : q'.1.kind = q.1.kind := congrArg (·.2.2.1) e
    have e3 : q'.1.dn = q.1.dn := congrArg (·.2.2.2.1) e
    have e4 : q'.1.err = q.1.err := congrArg (·.2.2.2.2) e
    refine ⟨q', hq', ?_, by rw [e1, ht]⟩
    unfold okM ackM
    rw [e2, e3, e4, hk, hqa.1, hqa.2]; simp
/-- In whatever order they are listed: all is serial. -/
theorem serial_hist {j : Nat} {X : List MZ} {Z : List Entry} {M : List KV} (h : Hist j X Z M) (y : List MZ) (hy : y.Perm X) (ez : List EZ) (hts : ∀ q ∈ ez, q.1.ts = q.2.ts) (hz : (ez.map (·.2)).Perm Z) (tss : List Nat) : serialL y ez [] (commL tss y) = -1 := by
  have e := serial_pre h y ez hts [] [] [] (fun ts _ => by rw [List.append_nil]; exact hy.filter _) (by simp) (by rw [List.append_nil]; exact hz) (by simp)
  rw [comm_hist h tss y (hy.map _), ← List.append_nil (List.range' 10 j), e]
  rfl
theorem Hist.few {j : Nat} {X : List MZ} {Z : List Entry} {M : List KV} (h : Hist j X Z M) (ts : Nat) : (X.filter fun q => okC ts q.1).length ≤ 7 := by
  induction h with
  | nil => simp
  | @tx j X Z M M' W g h hg hr ih =>
    rw [List.filter_append, List.length_append]
    by_cases ht : ts = 10 + j
    · rw [filter_none (l := X)]
      · have := List.length_filter_le (fun q : MZ => okC ts q.1) g
        have := hg.few
        simp; omega
      · intro q hq
        have := h.ts.1 q hq
        unfold okC
        rw [decide_eq_false (by omega)]; rfl
    · rw [filter_none (l := g)]
      · simpa using ih
      · intro q hq
        have := (hg.each q hq).1
        unfold okC
        rw [decide_eq_false (by omega)]; rfl
theorem Hist.length {j : Nat} {X : List MZ} {Z : List Entry} {M : List KV} (h : Hist j X Z M) : X.length ≤ j * 7 ∧ Z.length ≤ j := by
  induction h with
  | nil => simp
  | @tx j X Z M M' W g h hg hr ih =>
    rw [List.length_append, List.length_append]
    have := hg.few
    have e : (entO (10 + j) W).length ≤ 1 := by unfold entO; split <;> simp
    omega
theorem few_kap {ts : Nat} {y X : List MZ} (hy : (y.map kapK).Perm (X.map kapK)) : (y.filter fun q => okC ts q.1).length = (X.filter fun q => okC ts q.1).length := by
  let p : Nat × Int × Int × Bool × Int → Bool := fun k => decide (k.1 = ts) && (k.2.2.2.1 && decide (k.2.2.2.2 = 0))
  have e : ∀ l : List MZ, (l.filter fun q => okC ts q.1).length = ((l.map kapK).filter p).length := fun l => by
    rw [List.filter_map, List.length_map]; rfl
  rw [e, e, (hy.filter p).length_eq]
theorem rise_hist {j : Nat} {X : List MZ} {Z : List Entry} {M : List KV} (h : Hist j X Z M) : Z.Pairwise fun a b => (a.ts : Int) < (b.ts : Int) := by
  induction h with
  | nil => exact List.Pairwise.nil
  | @tx j X Z M M' W g h hg hr ih =>
    refine List.pairwise_append.2 ⟨ih, ?_, fun a ha b hb => ?_⟩
    · unfold entO; split <;> simp
    · have := h.ts.2 a ha
      unfold entO at hb
      split at hb
      · cases hb
      · simp only [List.mem_singleton] at hb; subst hb; simp; omega
/-- What entries make of a map hangs on no order. -/
theorem after_hist {j : Nat} {X : List MZ} {Z : List Entry} {M : List KV} (h : Hist j X Z M) {l : List Entry} (hl : l.Perm Z) : afterL l = runL [] Z := by
  unfold afterL rise
  have e : ltEntry = ltK (fun x : Entry => (x.ts : Int)) := by funext x y; unfold ltEntry ltK; simp
  rw [e, isort_unique _ (rise_hist h) hl]
theorem Hist.apart {j : Nat} {X : List MZ} {Z : List Entry} {M : List KV} (h : Hist j X Z M) : (X.map fun q => (q.1.ts, q.1.n)).Nodup := by
  induction h with
  | nil => simp
  | @tx j X Z M M' W g h hg hr ih =>
    rw [List.map_append]
    refine List.nodup_append.2 ⟨ih, ?_, fun a ha b hb => ?_⟩
    · unfold List.Nodup
      rw [List.pairwise_map]
      refine hg.asc.imp fun {a b} hab e => ?_
      have : a.1.n = b.1.n := congrArg (·.2) e
      unfold nK at hab
      omega
    · obtain ⟨q, hq, rfl⟩ := List.mem_map.1 ha
      obtain ⟨r, hr, rfl⟩ := List.mem_map.1 hb
      have h1 := h.ts.1 q hq
      have h2 := (hg.each r hr).1
      intro e
      have : q.1.ts = r.1.ts := congrArg (·.1) e
      omega
/-- Where a call stands in what was made. -/
theorem Hist.at_ {n : Nat} {X : List MZ} {Z : List Entry} {M : List KV} (h : Hist n X Z M) {k : Nat} {q : MZ} (hq : X[k]? = some q) :
    ∃ (j : Nat) (X0 : List MZ) (Z0 : List Entry) (M0 : List KV) (g1 g2 X1 : List MZ) (Z1 : List Entry) (M1 : List KV) (W1 : List Rec), j < n ∧ Hist j X0 Z0 M0 ∧ X = X0 ++ (g1 ++ q :: g2 ++ X1) ∧ k = X0.length + g1.length ∧ Z = Z0 ++ Z1 ∧ GroupIs (10 + j) (g1 ++ q :: g2) ∧ (∀ q ∈ X1, 10 + (j + 1) ≤ q.1.ts) ∧ (∀ x ∈ Z1, 10 + j ≤ x.ts) ∧ runZ M0 [] g1 = (true, M1, W1) ∧ rightB M1 q = true := by
  induction h with
  | nil => simp at hq
  | @tx j X Z M M' W g h hg hr ih =>
    by_cases hk : k < X.length
    · rw [List.getElem?_append_left hk] at hq
      obtain ⟨j', X0, Z0, M0, g1, g2, X1, Z1, M1, W1, h1, h2, rfl, h4, rfl, h6, h7, h8, h9, h10⟩ := ih hq
      refine ⟨j', X0, Z0, M0, g1, g2, X1 ++ g, Z1 ++ entO (10 + j) W, M1, W1, by omega, h2, by simp, h4, by simp, h6, fun q hq => ?_, fun x hx => ?_, h9, h10⟩
      · rcases List.mem_append.1 hq with hq | hq
        · exact h7 q hq
        · have := (hg.each q hq).1; omega
      · rcases List.mem_append.1 hx with hx | hx
        · exact h8 x hx
        · unfold entO at hx
          split at hx
          · cases hx
          · simp only [List.mem_singleton] at hx; subst hx; simp; omega
    · rw [List.getElem?_append_right (by omega)] at hq
      obtain ⟨hlt, hge⟩ := List.getElem?_eq_some_iff.1 hq
      have hg2 : g = g.take (k - X.length) ++ q :: g.drop (k - X.length + 1) := by
        rw [← hge, ← List.drop_eq_getElem_cons hlt, List.take_append_drop]
      rw [hg2] at hr
      obtain ⟨M1, W1, h1, h2⟩ := runZ_append hr
      have hb : rightB M1 q = true := by
        unfold runZ at h2
        cases hb : rightB M1 q with
        | true => rfl
        | false => rw [if_neg (by simp [hb])] at h2; cases h2
      refine ⟨j, X, Z, M, g.take (k - X.length), g.drop (k - X.length + 1), [], entO (10 + j) W, M1, W1, by omega, h, ?_, ?_, rfl, by rw [← hg2]; exact hg, by simp, ?_, h1, hb⟩
      · rw [List.append_nil, ← hg2]
      · rw [List.length_take]; omega
      · intro x hx
        unfold entO at hx
        split at hx
        · cases hx
        · simp only [List.mem_singleton] at hx; subst hx; simp
/-- A call that is told otherwise is found. -/
theorem serial_told {n : Nat} {X : List MZ} {Z : List Entry} {M : List KV} (h : Hist n X Z M) {k : Nat} {q q' : MZ} (hq : X[k]? = some q) (hk : kapK q' = kapK q) (hbad : ∀ M1, rightB M1 q = true → rightB M1 q' = false) (ez : List EZ) (hts : ∀ q ∈ ez, q.1.ts = q.2.ts) (hz : (ez.map (·.2)).Perm Z) (tss : List Nat) :
    serialL (X.set k q') ez [] (commL tss (X.set k q')) = k := by
  have hkap : (X.set k q').map kapK = X.map kapK := by
    rw [List.map_set, hk]
    obtain ⟨h1, h2⟩ := List.getElem?_eq_some_iff.1 hq
    have e : (X.map kapK)[k]'(by rw [List.length_map]; exact h1) = kapK q := by rw [List.getElem_map, h2]
    rw [← e, List.set_getElem_self]
  rw [comm_hist h tss _ (List.Perm.of_eq hkap)]
  have hap := h.apart
  obtain ⟨j, X0, Z0, M0, g1, g2, X1, Z1, M1, W1, h1, h2, hX, h4, hZ, h6, h7, h8, h9, h10⟩ := h.at_ hq
  have hset : X.set k q' = X0 ++ (g1 ++ q' :: g2 ++ X1) := by
    rw [hX, h4, List.set_append_right _ _ (by omega), Nat.add_sub_cancel_left, List.append_assoc, List.set_append_right _ _ (Nat.le_refl _), Nat.sub_self]
    simp
  have e1 : q'.1.ts = q.1.ts := congrArg (·.1) hk
  have e2 : q'.1.n = q.1.n := congrArg (·.2.1) hk
  have e4 : q'.1.dn = q.1.dn := congrArg (·.2.2.2.1) hk
  have e5 : q'.1.err = q.1.err := congrArg (·.2.2.2.2) hk
  have hq6 := h6.each q (by simp)
  have hg' : GroupIs (10 + j) (g1 ++ q' :: g2) := by
    refine ⟨fun p hp => ?_, ?_, ?_, by have := h6.few; simpa using this⟩
    · simp only [List.mem_append, List.mem_cons] at hp
      rcases hp with hp | rfl | hp
      · exact h6.each p (by simp [hp])
      · rw [e1, e4, e5]; exact hq6
      · exact h6.each p (by simp [hp])
    · have := h6.asc
      have hm : ∀ l : List MZ, (l.Pairwise fun a b => nK a < nK b) ↔ (l.map nK).Pairwise fun a b => a < b := fun l => by rw [List.pairwise_map]
      rw [hm] at this ⊢
      have en : nK q' = nK q := e2
      simpa [en] using this
    · obtain ⟨p, hp, hk5⟩ := h6.com
      simp only [List.mem_append, List.mem_cons] at hp
      rcases hp with hp | rfl | hp
      · exact ⟨p, by simp [hp], hk5⟩
      · exact ⟨q', by simp, by rw [show q'.1.kind = p.1.kind from congrArg (·.2.2.1) hk]; exact hk5⟩
      · exact ⟨p, by simp [hp], hk5⟩
  have hX1 : ∀ p ∈ g1 ++ q' :: g2 ++ X1, 10 + j ≤ p.1.ts := fun p hp => by
    rcases List.mem_append.1 hp with hp | hp
    · have := (hg'.each p hp).1; omega
    · have := h7 p hp; omega
  have hr : List.range' 10 n = List.range' 10 j ++ ((10 + j) :: List.range' (10 + j + 1) (n - j - 1)) := by
    have : n = j + (n - j - 1 + 1) := by omega
    conv => lhs; rw [this]
    rw [← List.range'_append_1]
    rfl
  have ep := serial_pre h2 (X.set k q') ez hts (g1 ++ q' :: g2 ++ X1) Z1 ((10 + j) :: List.range' (10 + j + 1) (n - j - 1)) (fun ts _ => by rw [hset]) hX1 (by rw [← hZ]; exact hz) h8
  rw [hr, ep]
  have ef : (X.set k q').filter (fun q => okC (10 + j) q.1) = g1 ++ q' :: g2 := by
    rw [hset, List.filter_append, List.filter_append, filter_none (l := X0), filter_all (l := g1 ++ q' :: g2), filter_none (l := X1)]
    · simp
    · intro p hp
      have := h7 p hp
      unfold okC
      rw [decide_eq_false (by omega)]; rfl
    · intro p hp
      obtain ⟨h1, h2, h3⟩ := hg'.each p hp
      unfold okC
      rw [h1, h2, h3]; simp
    · intro p hp
      have := h2.ts.1 p hp
      unfold okC
      rw [decide_eq_false (by omega)]; rfl
  obtain ⟨i, hi1, hi2⟩ := runC_stop (z := X.set k q') (M := M0) (W := []) (is := callsL (10 + j) (X.set k q')) (g1 := g1) (g2 := g2) (q := q') (by rw [calls_map, ef, isort_unique nK hg'.asc (List.Perm.refl _)]) h9 (hbad M1 h10)
  have hik : i = k := by
    have hkl : k < X.length := (List.getElem?_eq_some_iff.1 hq).1
    have hil : i < (X.set k q').length := (List.getElem?_eq_some_iff.1 hi2).1
    rw [List.length_set] at hil
    have hsame : (X.set k q').map (fun q => (q.1.ts, q.1.n)) = X.map fun q => (q.1.ts, q.1.n) := by
      have := congrArg (List.map fun k : Nat × Int × Int × Bool × Int => (k.1, k.2.1)) hkap
      rw [List.map_map, List.map_map] at this
      exact this
    have hi3 : (X.map fun q => (q.1.ts, q.1.n))[i]? = some (q'.1.ts, q'.1.n) := by rw [← hsame, List.getElem?_map, hi2]; rfl
    have hk3 : (X.map fun q => (q.1.ts, q.1.n))[k]? = some (q'.1.ts, q'.1.n) := by rw [List.getElem?_map, hq, e1, e2]; rfl
    exact (List.getElem?_inj (by rw [List.length_map]; exact hil) hap).1 (hi3.trans hk3.symm)
  rw [serialL_cons, hi1, hik]
theorem told_read {M : List KV} {q q' : MZ} (hk : q.1.kind = 1) (hk' : q'.1.kind = 1) (hkey : q'.1.key = q.1.key) (hv : q'.1.oval = q.1.oval ++ [122]) (h : rightB M q = true) : rightB M q' = false := by
  unfold rightB at h ⊢
  rw [if_pos hk] at h
  rw [if_pos hk']
  unfold readB at h ⊢
  simp only [Bool.and_eq_true, decide_eq_true_eq] at h
  rw [hkey, hv, ← h.2, decide_eq_false (p := q.1.oval ++ [122] = q.1.oval) (by simp)]
  simp
theorem told_scan {M : List KV} {q q' : MZ} (hk : q.1.kind = 2) (hk' : q'.1.kind = 2) (hkey : q'.1.key = q.1.key) (hhi : q'.1.hi = q.1.hi) (hv : q'.2 = q.2 ++ [([122], [])]) (h : rightB M q = true) : rightB M q' = false := by
  unfold rightB at h ⊢
  rw [if_neg (by omega), if_pos hk] at h
  rw [if_neg (by omega), if_pos hk', hkey, hhi, hv]
  simp only [decide_eq_true_eq] at h
  rw [← h]
  simp
end Go.Proofs.Ytffianjbljgnaaa
