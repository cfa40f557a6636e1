/-
  Texts folded into one: RefPl, RefPk, RefPr, Ins3, RfComm, RfCalls, RfPut, RfWrote.
-/
import Derived.Test.YtffianjbljgnaaaGreatEnded
import Derived.Test.YtffianjbljgnaaaGreatRight3
import Derived.Test.YtffianjbljgnaaaGreatSerial
import Derived.Test.YtffianjbljgnaaaGreatOf
import Derived.Test.YtffianjbljgnaaaGreatApp
import Derived.Deep.DeepCutAuto
import Derived.Deep.CutBlock

/-! ### RefPl -/
namespace Go.Proofs.YtffianjbljgnaaaGreat
set_option linter.unusedVariables false
set_option linter.unusedSimpArgs false
open Go.RowKit Go.Maps

/-- A pair is put in a map, as the document says it. -/
def rput : List KV → Txt → Txt → Bool → List KV
  | [], k, v, done => if done then [] else [(k, v)]
  | p :: t, k, v, done => if p.1 = k then rput t k v done else if done = false ∧ k < p.1 then (k, v) :: p :: rput t k v true else p :: rput t k v done
theorem rput_done (M : List KV) (k v : Txt) : rput M k v true = drop M k := by
  induction M with
  | nil => rfl
  | cons p t ih =>
    unfold rput drop
    rw [List.filter_cons]
    by_cases h : p.1 = k
    · rw [if_pos h, if_neg (by simp [h]), ih]; rfl
    · rw [if_neg h, if_neg (by simp), if_pos (by simp [h]), ih]; rfl
theorem drop_above {M : List KV} {k : Txt} (h : ∀ p ∈ M, k < p.1) : drop M k = M := by
  unfold drop
  refine List.filter_eq_self.2 fun p hp => ?_
  have := txt_ne (h p hp)
  simp only [decide_eq_true_eq]
  exact fun e => this e.symm
theorem rput_above {M : List KV} {k : Txt} (h : ∀ p ∈ M, k < p.1) (v : Txt) : rput M k v false = (k, v) :: M := by
  cases M with
  | nil => rfl
  | cons p t =>
    have hp := h p (by simp)
    unfold rput
    rw [if_neg (fun e => txt_ne hp e.symm), if_pos ⟨rfl, hp⟩, rput_done, drop_above fun q hq => h q (List.mem_cons_of_mem _ hq)]
theorem rput_put {M : List KV} (h : Asc M) (k v : Txt) : rput M k v false = put M k v := by
  induction M with
  | nil => rfl
  | cons p t ih =>
    obtain ⟨h1, h2⟩ := List.pairwise_cons.1 h
    unfold rput put
    by_cases c1 : p.1 = k
    · rw [if_pos c1, if_neg (fun e => txt_ne e c1), if_pos c1, rput_above]
      intro q hq
      rw [← c1]; exact h1 q hq
    · rw [if_neg c1]
      by_cases c2 : p.1 < k
      · rw [if_pos c2, if_neg (fun e => txt_lt_irrefl k (txt_lt_trans e.2 c2)), ih h2]
      · have c3 := txt_lt_of c2 c1
        rw [if_neg c2, if_neg c1, if_pos ⟨rfl, c3⟩, rput_done, drop_above fun q hq => txt_lt_trans c3 (h1 q hq)]
theorem rput_app {M : List KV} (h : Asc M) (r : Rec) : rput M r.key r.val r.del = app M r := by
  unfold app
  cases r.del with
  | true => rw [rput_done]; rfl
  | false => rw [rput_put h]; rfl

/-- A list without doubles in another one that is no longer is all of it. -/
theorem perm_of_nodup {β : Type} [DecidableEq β] : ∀ (l1 l2 : List β), l1.Nodup → (∀ x ∈ l1, x ∈ l2) → l2.length ≤ l1.length → l2.Perm l1 := by
  intro l1
  induction l1 with
  | nil =>
    intro l2 _ _ h
    have : l2 = [] := List.length_eq_zero_iff.1 (by simpa using h)
    rw [this]
  | cons a t ih =>
    intro l2 hn hs hl
    obtain ⟨h1, h2⟩ := List.nodup_cons.1 hn
    have ha := hs a (by simp)
    have hp := List.perm_cons_erase ha
    refine hp.trans ((List.perm_cons a).2 (ih _ h2 (fun x hx => ?_) ?_))
    · have hx2 := hs x (List.mem_cons_of_mem _ hx)
      exact (List.mem_erase_of_ne (fun e => h1 (by rw [← e]; exact hx))).2 hx2
    · have := hp.length_eq
      simp only [List.length_cons] at this hl
      omega
/-- No key twice. -/
def ApartW (W : List Rec) : Prop := (W.map (·.key)).Nodup
theorem setR_keys (W : List Rec) (r : Rec) : (setR W r).map (·.key) = if r.key ∈ W.map (·.key) then W.map (·.key) else W.map (·.key) ++ [r.key] := by
  induction W with
  | nil => rfl
  | cons q t ih =>
    unfold setR
    by_cases h : q.key = r.key
    · rw [if_pos h, if_pos (by simp [h]), List.map_cons, List.map_cons, h]
    · rw [if_neg h, List.map_cons, ih]
      have h' : ¬ r.key = q.key := fun e => h e.symm
      by_cases c : r.key ∈ t.map (·.key)
      · rw [if_pos c, if_pos (by rw [List.map_cons]; exact List.mem_cons_of_mem _ c), List.map_cons]
      · rw [if_neg c, if_neg (by rw [List.map_cons]; simpa [h'] using c), List.map_cons, List.cons_append]
theorem ApartW.set {W : List Rec} (h : ApartW W) (r : Rec) : ApartW (setR W r) := by
  unfold ApartW at *
  rw [setR_keys]
  split
  · exact h
  · rename_i c
    refine List.nodup_append.2 ⟨h, by simp, ?_⟩
    intro a ha b hb
    simp only [List.mem_singleton] at hb
    subst hb
    exact fun e => c (by rw [← e]; exact ha)
theorem ApartW.right {W : List Rec} (h : ApartW W) (q : MZ) : ApartW (rightW W q) := by
  unfold rightW
  split
  · exact h.set _
  · split
    · exact h.set _
    · exact h
theorem ApartW.find {W : List Rec} (h : ApartW W) {x : Rec} (hx : x ∈ W) : findR W x.key = some x := by
  unfold ApartW at h
  induction W with
  | nil => cases hx
  | cons q t ih =>
    rw [List.map_cons] at h
    obtain ⟨h1, h2⟩ := List.nodup_cons.1 h
    unfold findR
    rcases List.mem_cons.1 hx with rfl | hx
    · rw [if_pos rfl]
    · rw [if_neg (fun e => h1 (by rw [← e]; exact List.mem_map_of_mem hx)), ih h2 hx]
theorem findR_some {W : List Rec} {k : Txt} {x : Rec} (h : findR W k = some x) : x ∈ W ∧ x.key = k := by
  induction W with
  | nil => cases h
  | cons q t ih =>
    unfold findR at h
    split at h
    · rename_i e
      cases h
      exact ⟨by simp, e.symm⟩
    · obtain ⟨h1, h2⟩ := ih h
      exact ⟨List.mem_cons_of_mem _ h1, h2⟩
/-- The document's look at one key of what was written. -/
def sameN (x : Rec) (l : List Rec) : Nat := (l.filter fun o => decide (o.key = x.key)).length
def matchB (x : Rec) (l : List Rec) : Bool := l.all fun o => !decide (o.key = x.key) || (decide (o.del = x.del) && decide (o.val = x.val))
def rended1 (W : List Rec) (l : List Rec) : Bool := W.all fun x => matchB x l && decide (sameN x l = 1)
theorem okOps_iff (W : List Rec) : ∀ (l : List Rec) (S : List Txt), okOps W S l = true ↔ ((l.map (·.key)).Nodup ∧ (∀ o ∈ l, o.key ∉ S)) ∧ ∀ o ∈ l, ∃ x, findR W o.key = some x ∧ x.del = o.del ∧ x.val = o.val := by
  intro l
  induction l with
  | nil => intro S; exact ⟨fun _ => ⟨⟨List.nodup_nil, by simp⟩, by simp⟩, fun _ => rfl⟩
  | cons r t ih =>
    intro S
    unfold okOps
    rw [Bool.and_eq_true, ih]
    have e : okOp W S r = true ↔ r.key ∉ S ∧ ∃ x, findR W r.key = some x ∧ x.del = r.del ∧ x.val = r.val := by
      unfold okOp
      cases findR W r.key with
      | none => simp
      | some x => simp
    rw [e, List.map_cons, List.nodup_cons]
    constructor
    · rintro ⟨⟨a1, a2⟩, ⟨b1, b2⟩, b3⟩
      refine ⟨⟨⟨fun hm => ?_, b1⟩, fun o ho => ?_⟩, fun o ho => ?_⟩
      · obtain ⟨o, ho, he⟩ := List.mem_map.1 hm
        exact b2 o ho (by rw [he]; simp)
      · rcases List.mem_cons.1 ho with rfl | ho
        · exact a1
        · exact fun hs => b2 o ho (List.mem_cons_of_mem _ hs)
      · rcases List.mem_cons.1 ho with rfl | ho
        · exact a2
        · exact b3 o ho
    · rintro ⟨⟨⟨a1, a2⟩, a3⟩, a4⟩
      refine ⟨⟨a3 r (by simp), a4 r (by simp)⟩, ⟨a2, fun o ho hs => ?_⟩, fun o ho => a4 o (List.mem_cons_of_mem _ ho)⟩
      rcases List.mem_cons.1 hs with hs | hs
      · exact a1 (by rw [← hs]; exact List.mem_map_of_mem ho)
      · exact a3 o (List.mem_cons_of_mem _ ho) hs
theorem sameN_count (x : Rec) (l : List Rec) : sameN x l = (l.map (·.key)).count x.key := by
  unfold sameN
  rw [List.count_eq_countP, List.countP_map, List.countP_eq_length_filter]
  congr 2
  funext o
  show decide (o.key = x.key) = (o.key == x.key)
  by_cases h : o.key = x.key <;> simp [h]
theorem rended1_eq {W : List Rec} (h : ApartW W) {l : List Rec} (hl : l.length = W.length) : rended1 W l = okOps W [] l := by
  rw [Bool.eq_iff_iff, okOps_iff]
  have hlen : (l.map (·.key)).length = (W.map (·.key)).length := by simp [hl]
  constructor
  · intro hr
    have hr := List.all_eq_true.1 hr
    have h1 : ∀ k ∈ W.map (·.key), k ∈ l.map (·.key) := fun k hk => by
      obtain ⟨x, hx, rfl⟩ := List.mem_map.1 hk
      have := hr x hx
      rw [Bool.and_eq_true] at this
      have h2 := of_decide_eq_true this.2
      rw [sameN_count] at h2
      exact List.count_pos_iff.1 (by rw [h2]; exact Nat.one_pos)
    have hp := perm_of_nodup _ _ h h1 (by omega)
    refine ⟨⟨hp.nodup_iff.2 h, by simp⟩, fun o ho => ?_⟩
    have hk := hp.mem_iff.1 (List.mem_map_of_mem (f := (·.key)) ho)
    obtain ⟨x, hx, he⟩ := List.mem_map.1 hk
    refine ⟨x, by rw [← he]; exact h.find hx, ?_⟩
    have := hr x hx
    rw [Bool.and_eq_true] at this
    have h3 := List.all_eq_true.1 this.1 o ho
    have he' : o.key = x.key := he.symm
    rw [decide_eq_true he'] at h3
    simp only [Bool.not_true, Bool.false_or, Bool.and_eq_true, decide_eq_true_eq] at h3
    exact ⟨h3.1.symm, h3.2.symm⟩
  · rintro ⟨⟨hn, _⟩, hm⟩
    have h1 : ∀ k ∈ l.map (·.key), k ∈ W.map (·.key) := fun k hk => by
      obtain ⟨o, ho, rfl⟩ := List.mem_map.1 hk
      obtain ⟨x, hx, _⟩ := hm o ho
      obtain ⟨h2, h3⟩ := findR_some hx
      rw [← h3]
      exact List.mem_map_of_mem h2
    have hp := perm_of_nodup _ _ hn h1 (by omega)
    refine List.all_eq_true.2 fun x hx => ?_
    rw [Bool.and_eq_true]
    refine ⟨List.all_eq_true.2 fun o ho => ?_, decide_eq_true ?_⟩
    · by_cases he : o.key = x.key
      · obtain ⟨y, hy, h2, h3⟩ := hm o ho
        rw [he, h.find hx] at hy
        cases hy
        simp [he, h2, h3]
      · simp [he]
    · rw [sameN_count, hn.count, if_pos (hp.mem_iff.1 (List.mem_map_of_mem hx))]
/-- What the document asks at a transaction's end: how many entries, the operations of the last one. -/
def rendedB (W : List Rec) (n : Nat) (l : List Rec) : Bool := if 1 < n ∨ (n = 0 ∧ 0 < W.length) ∨ l.length ≠ W.length ∨ (n = 1 ∧ W.length = 0) then false else rended1 W l
def lastOps (L : List Entry) : List Rec := match L.getLast? with | none => [] | some x => x.ops
theorem rendedB_eq {W : List Rec} (h : ApartW W) (L : List Entry) : rendedB W L.length (lastOps L) = endedB W L := by
  match L with
  | [] =>
    show rendedB W 0 [] = decide (W.length = 0)
    unfold rendedB
    by_cases h0 : W.length = 0
    · rw [if_neg (by simp only [List.length_nil]; omega), List.length_eq_zero_iff.1 h0]; rfl
    · rw [if_pos (by omega), decide_eq_false h0]
  | [x] =>
    show rendedB W 1 x.ops = (!decide (W.length = 0) && (decide (x.ops.length = W.length) && okOps W [] x.ops))
    unfold rendedB
    by_cases h0 : W.length = 0
    · rw [if_pos (by omega), decide_eq_true h0]; rfl
    · by_cases h1 : x.ops.length = W.length
      · rw [if_neg (by omega), rended1_eq h h1, decide_eq_false h0, decide_eq_true h1]; rfl
      · rw [if_pos (by omega), decide_eq_false h0, decide_eq_false h1]; rfl
  | x :: y :: t =>
    show rendedB W (x :: y :: t).length _ = false
    unfold rendedB
    rw [if_pos (by simp only [List.length_cons]; omega)]
end Go.Proofs.YtffianjbljgnaaaGreat

/-! ### RefPk -/
namespace Go.Proofs.YtffianjbljgnaaaGreat
set_option linter.unusedVariables false
set_option linter.unusedSimpArgs false
open Go.RowKit Go.Maps

theorem insA_same {x : Nat} : ∀ {L : List Nat} {k : Nat}, (∀ i y, i < k → L[i]? = some y → y < x) → L[k]? = some x → insA x L = L := by
  intro L
  induction L with
  | nil => intro k _ h; simp at h
  | cons y t ih =>
    intro k h hx
    unfold insA
    cases k with
    | zero =>
      have e : y = x := by simpa using hx
      rw [if_neg (by omega), if_pos e]
    | succ k =>
      rw [if_pos (h 0 y (by omega) rfl), ih (k := k) (fun i z hi hz => h (i + 1) z (by omega) (by simpa using hz)) (by simpa using hx)]
theorem insA_at {x : Nat} : ∀ {L : List Nat} {k : Nat}, k ≤ L.length → (∀ i y, i < k → L[i]? = some y → y < x) → (∀ y, L[k]? = some y → x < y) → insA x L = L.take k ++ x :: L.drop k := by
  intro L
  induction L with
  | nil =>
    intro k hk _ _
    have : k = 0 := by simpa using hk
    subst this
    rfl
  | cons y t ih =>
    intro k hk h hx
    unfold insA
    cases k with
    | zero =>
      have e : x < y := hx y rfl
      rw [if_neg (by omega), if_neg (by omega)]
      rfl
    | succ k =>
      rw [if_pos (h 0 y (by omega) rfl), ih (k := k) (by simpa using hk) (fun i z hi hz => h (i + 1) z (by omega) (by simpa using hz)) (fun z hz => hx z (by simpa using hz))]
      rfl
/-- The committed ones among the first i calls. -/
def commP (tss : List Nat) (z : List MZ) (i : Nat) : List Nat := commL tss (z.take i)
theorem commP_zero (tss : List Nat) (z : List MZ) : commP tss z 0 = [] := rfl
theorem commP_next (tss : List Nat) (z : List MZ) (i : Nat) (q : MZ) (h : z[i]? = some q) : commP tss z (i + 1) = if okM tss q.1 then insA q.1.ts (commP tss z i) else commP tss z i := by
  unfold commP commL
  rw [List.take_add_one, h]
  simp [List.foldl_append]
theorem commP_all (tss : List Nat) (z : List MZ) (i : Nat) (h : z.length ≤ i) : commP tss z i = commL tss z := by
  unfold commP
  rw [List.take_of_length_le h]
theorem insRev_skip {α : Type} (lt : α → α → Bool) (x : α) : ∀ (B A : List α), (∀ y ∈ B, lt x y = true) → insRev lt x (B ++ A) = B ++ insRev lt x A := by
  intro B
  induction B with
  | nil => intro A _; rfl
  | cons y t ih =>
    intro A h
    rw [List.cons_append]
    conv => lhs; unfold insRev
    rw [if_pos (h y (by simp)), ih A (fun z hz => h z (List.mem_cons_of_mem _ hz))]
    rfl
theorem insRev_stop {α : Type} (lt : α → α → Bool) (x : α) (A : List α) (h : ∀ y, A.head? = some y → lt x y = false) : insRev lt x A = x :: A := by
  cases A with
  | nil => rfl
  | cons y t =>
    unfold insRev
    rw [h y rfl, if_neg (by decide)]
theorem insRev_at {α : Type} (lt : α → α → Bool) (x : α) (L : List α) (k : Nat) (hk : k ≤ L.length) (h : ∀ i y, k ≤ i → L[i]? = some y → lt x y = true) (hx : ∀ y, 0 < k → L[k - 1]? = some y → lt x y = false) :
    insRev lt x L.reverse = (L.take k ++ x :: L.drop k).reverse := by
  have e : L.reverse = (L.drop k).reverse ++ (L.take k).reverse := by rw [← List.reverse_append, List.take_append_drop]
  rw [e, insRev_skip, insRev_stop]
  · rw [List.reverse_append, List.reverse_cons, List.append_assoc]; rfl
  · intro y hy
    rw [List.head?_reverse, List.getLast?_eq_getElem?, List.length_take, Nat.min_eq_left hk] at hy
    by_cases h0 : 0 < k
    · rw [List.getElem?_take, if_pos (by omega)] at hy
      exact hx y h0 hy
    · have : k = 0 := by omega
      subst this
      simp at hy
  · intro y hy
    obtain ⟨i, hi, rfl⟩ := List.getElem_of_mem (List.mem_reverse.1 hy)
    rw [List.length_drop] at hi
    exact h (k + i) _ (by omega) (by rw [List.getElem_drop]; exact List.getElem?_eq_getElem (by omega))
theorem isort_snoc {α : Type} (lt : α → α → Bool) (D : List α) (x : α) (k : Nat) (hk : k ≤ (isort lt D).length) (h : ∀ i y, k ≤ i → (isort lt D)[i]? = some y → lt x y = true) (hx : ∀ y, 0 < k → (isort lt D)[k - 1]? = some y → lt x y = false) :
    isort lt (D ++ [x]) = (isort lt D).take k ++ x :: (isort lt D).drop k := by
  have := insRev_at lt x (isort lt D) k hk h hx
  unfold isort at this ⊢
  rw [List.foldl_append]
  simp only [List.foldl_cons, List.foldl_nil]
  rw [List.reverse_reverse] at this
  rw [this, List.reverse_reverse]
/-- The calls that count among the first i, in order. -/
def callsP (ts : Nat) (z : List MZ) (i : Nat) : List Nat := isort (fun x y => decide (nAt z x < nAt z y)) (indsP ts z i)
theorem callsP_zero (ts : Nat) (z : List MZ) : callsP ts z 0 = [] := rfl
theorem callsP_skip (ts : Nat) (z : List MZ) (i : Nat) (q : MZ) (h : z[i]? = some q) (hok : okC ts q.1 = false) : callsP ts z (i + 1) = callsP ts z i := by
  unfold callsP
  rw [indsP_succ ts z i q h, hok]
  simp
theorem callsP_put (ts : Nat) (z : List MZ) (i : Nat) (q : MZ) (h : z[i]? = some q) (hok : okC ts q.1 = true) (k : Nat) (hk : k ≤ (callsP ts z i).length) (h1 : ∀ j y, k ≤ j → (callsP ts z i)[j]? = some y → q.1.n < nAt z y) (h2 : ∀ y, 0 < k → (callsP ts z i)[k - 1]? = some y → ¬ q.1.n < nAt z y) :
    callsP ts z (i + 1) = (callsP ts z i).take k ++ i :: (callsP ts z i).drop k := by
  have e : nAt z i = q.1.n := by unfold nAt; rw [h]
  have e2 : callsP ts z (i + 1) = isort (fun x y => decide (nAt z x < nAt z y)) (indsP ts z i ++ [i]) := by
    unfold callsP
    rw [indsP_succ ts z i q h, hok]
    rfl
  rw [e2]
  exact isort_snoc _ _ _ k hk (fun j y hj hy => by rw [e]; exact decide_eq_true (h1 j y hj hy)) (fun y h0 hy => by rw [e]; exact decide_eq_false (h2 y h0 hy))
theorem callsP_all (ts : Nat) (z : List MZ) (i : Nat) (h : i = z.length) : callsP ts z i = callsL ts z := by subst h; rfl
theorem callsP_mem (ts : Nat) (z : List MZ) (i x : Nat) (h : x ∈ callsP ts z i) : x < i := by
  have := (isort_perm _ _).mem_iff.1 h
  unfold indsP at this
  simpa using (List.mem_filter.1 this).1
theorem callsP_length (ts : Nat) (z : List MZ) (i : Nat) : (callsP ts z i).length ≤ i := by
  have := indsP_le ts z i
  unfold callsP
  rw [isort_length]
  exact this
end Go.Proofs.YtffianjbljgnaaaGreat

/-! ### RefPr -/
namespace Go.Proofs.YtffianjbljgnaaaGreat
set_option linter.unusedVariables false
set_option linter.unusedSimpArgs false
open Go.RowKit Go.Maps

def lastF (k : Txt) (o : Option Txt) (p : KV) : Option Txt := if p.1 = k then some p.2 else o
/-- The value of a key, as the document looks for it. -/
def lastV (M : List KV) (k : Txt) : Option Txt := M.foldl (lastF k) none
theorem lastF_none {M : List KV} {k : Txt} (h : ∀ p ∈ M, p.1 ≠ k) (o : Option Txt) : M.foldl (lastF k) o = o := by
  induction M generalizing o with
  | nil => rfl
  | cons p t ih =>
    rw [List.foldl_cons]
    have : lastF k o p = o := by unfold lastF; rw [if_neg (h p (by simp))]
    rw [this]
    exact ih (fun q hq => h q (List.mem_cons_of_mem _ hq)) o
theorem lastV_look {M : List KV} (h : Asc M) (k : Txt) : lastV M k = look M k := by
  have : ∀ (M : List KV) (o : Option Txt), Asc M → M.foldl (lastF k) o = (match look M k with | some v => some v | none => o) := by
    intro M
    induction M with
    | nil => intro o _; rfl
    | cons p t ih =>
      intro o h
      obtain ⟨h1, h2⟩ := List.pairwise_cons.1 h
      rw [List.foldl_cons]
      unfold look
      by_cases c : k = p.1
      · rw [if_pos c]
        have e : lastF k o p = some p.2 := by unfold lastF; rw [if_pos c.symm]
        rw [e, lastF_none (fun q hq e => by have := txt_ne (h1 q hq); rw [e, c] at this; exact this rfl)]
      · rw [if_neg c]
        have e : lastF k o p = o := by unfold lastF; rw [if_neg (fun e => c e.symm)]
        rw [e]
        exact ih o h2
  have h0 := this M none h
  unfold lastV
  rw [h0]
  cases look M k <;> rfl
theorem lastV_next (M : List KV) (k : Txt) (i : Nat) (p : KV) (h : M[i]? = some p) : lastV (M.take (i + 1)) k = if p.1 = k then some p.2 else lastV (M.take i) k := by
  unfold lastV
  rw [List.take_add_one, h]
  simp [List.foldl_append, lastF]
theorem filter_next {α : Type} (f : α → Bool) (M : List α) (i : Nat) (p : α) (h : M[i]? = some p) : (M.take (i + 1)).filter f = (M.take i).filter f ++ if f p then [p] else [] := by
  rw [List.take_add_one, h, List.filter_append]
  congr 1
  show List.filter f [p] = _
  rw [List.filter_cons]
  split <;> simp
theorem all_next {α : Type} (f : α → Bool) (M : List α) (i : Nat) (p : α) (h : M[i]? = some p) : (M.take (i + 1)).all f = ((M.take i).all f && f p) := by
  rw [List.take_add_one, h, List.all_append]
  simp
theorem any_nextR {α : Type} (f : α → Bool) (M : List α) (i : Nat) (p : α) (h : M[i]? = some p) : (M.take (i + 1)).any f = ((M.take i).any f || f p) := by
  rw [List.take_add_one, h, List.any_append]
  simp
theorem sel_next (M : List KV) (lo hi : Txt) (i : Nat) (p : KV) (h : M[i]? = some p) : sel (M.take (i + 1)) lo hi = sel (M.take i) lo hi ++ if inside lo hi p.1 then [p] else [] := filter_next _ M i p h
theorem sel_len (M : List KV) (lo hi : Txt) (i : Nat) : (sel (M.take i) lo hi).length ≤ i := by
  unfold sel
  have := List.length_filter_le (fun p : KV => inside lo hi p.1) (M.take i)
  rw [List.length_take] at this
  omega
theorem matchB_next (x : Rec) (l : List Rec) (i : Nat) (o : Rec) (h : l[i]? = some o) : matchB x (l.take (i + 1)) = (matchB x (l.take i) && (!decide (o.key = x.key) || (decide (o.del = x.del) && decide (o.val = x.val)))) := all_next _ l i o h
theorem sameN_next (x : Rec) (l : List Rec) (i : Nat) (o : Rec) (h : l[i]? = some o) : sameN x (l.take (i + 1)) = sameN x (l.take i) + if o.key = x.key then 1 else 0 := by
  unfold sameN
  rw [filter_next _ l i o h, List.length_append]
  by_cases c : o.key = x.key <;> simp [c]
theorem sameN_le (x : Rec) (l : List Rec) (i : Nat) : sameN x (l.take i) ≤ i := by
  unfold sameN
  have := List.length_filter_le (fun o : Rec => decide (o.key = x.key)) (l.take i)
  rw [List.length_take] at this
  omega
theorem matchB_false {x : Rec} {l : List Rec} {i : Nat} (h : matchB x (l.take i) = false) : matchB x l = false := by
  unfold matchB at *
  rw [List.all_eq_false] at *
  obtain ⟨o, ho, hf⟩ := h
  exact ⟨o, List.mem_of_mem_take ho, hf⟩
theorem rended1_step (W l : List Rec) (i : Nat) (x : Rec) (h : W[i]? = some x) : rended1 (W.drop i) l = ((matchB x l && decide (sameN x l = 1)) && rended1 (W.drop (i + 1)) l) := by
  obtain ⟨h1, rfl⟩ := List.getElem?_eq_some_iff.1 h
  rw [List.drop_eq_getElem_cons h1]
  unfold rended1
  rw [List.all_cons]
theorem ofZ_next (z : List EZ) (ts i : Nat) (q : EZ) (h : z[i]? = some q) : ofZ (z.take (i + 1)) ts = ofZ (z.take i) ts ++ if q.1.ts = ts then [q] else [] := by
  unfold ofZ
  rw [filter_next _ z i q h]
  by_cases c : q.1.ts = ts <;> simp [c]
theorem ofZ_le (z : List EZ) (ts i : Nat) : (ofZ (z.take i) ts).length ≤ i := by
  unfold ofZ
  have := List.length_filter_le (fun q : EZ => decide (q.1.ts = ts)) (z.take i)
  rw [List.length_take] at this
  omega
end Go.Proofs.YtffianjbljgnaaaGreat

/-! ### Ins3 -/
namespace Go.Proofs.YtffianjbljgnaaaGreat
set_option linter.unusedVariables false
set_option linter.unusedSimpArgs false
open Go.RowKit

/-- An append of nothing. -/
theorem append_nough (t e ty : TypeId) (ht : Tryz.prog.underlying t = some (.slice e)) (hinf : ∃ i, Tryz.prog.info? e = some i) (w : World) (p : Option Addr) (n cap : Nat) (x : Option Addr) (c : Nat) (hn : n ≤ cap) (hp : p = none → n = 0 ∧ cap = 0) :
    (Builtin.append_ #[t, t] ty #[.slice p n cap, .slice x 0 c]).run Tryz.prog w = .ok (.slice p n cap) w := by
  obtain ⟨i, hi⟩ := hinf
  cases p with
  | none =>
    obtain ⟨rfl, rfl⟩ := hp rfl
    cases x <;> simp [Builtin.append_, run_underlying ht, sizeOf, typeInfo, hi, Builtin.lenOf, Builtin.firstCells, storeCells, loadCells, loadCellsFrom]
  | some p =>
    cases x <;> simp [Builtin.append_, run_underlying ht, sizeOf, typeInfo, hi, Builtin.lenOf, Builtin.firstCells, storeCells, loadCells, loadCellsFrom, hn]
theorem ownsRow_le {w : World} {B B' : Nat} {e : TypeId} {size : Nat} {v : Value} {n : Nat} {cells : List Value} (h : w.ownsRow B e size v n cells) (hb : B' ≤ B) : w.ownsRow B' e size v n cells := by
  refine ⟨h.1, ?_⟩
  rcases h.2 with h2 | ⟨g, cap, cur, e1, hg, h2⟩
  · exact .inl h2
  · exact .inr ⟨g, cap, cur, e1, by omega, h2⟩
/-- An append of whatever many, of none too. -/
theorem own_more (t e ty : TypeId) (z : Value) (size bytes : Nat) (ht : Tryz.prog.underlying t = some (.slice e)) (hinf : (Tryz.prog.info? e).map (fun i => (i.zero, i.size, i.bytes)) = some (some z, size, bytes)) (hzs : z.cells.size = size) (hsz : 0 < size) (hby : bytes ≤ 1000)
    {w : World} {B : Nat} {v : Value} {n : Nat} {cells : List Value} (h : w.ownsRow B e size v n cells) (hl : n ≤ 1000000) (hB : B ≤ w.heap.size)
    (x : Option Addr) (m c : Nat) (news : List Value) (hm : m ≤ 1000000) (hnl : news.length = m * size) (hnews : 0 < m → ∃ a, x = some a ∧ ∀ j u, news[j]? = some u → w.cell? (a.add j) = some u) (hone : ∀ u ∈ news, u.oneCell' = true) :
    ∃ v' w', (Builtin.append_ #[t, t] ty #[v, .slice x m c]).run Tryz.prog w = .ok v' w' ∧ w'.ownsRow B e size v' (n + m) (cells ++ news) ∧ Mod v.ownBlock.toList w w' ∧ ∀ x, v'.ownBlock = some x → v.ownBlock = some x ∨ w.heap.size ≤ x := by
  by_cases h0 : m = 0
  · subst h0
    have : news = [] := List.eq_nil_of_length_eq_zero (by omega)
    subst this
    have hc : ∃ p k, v = .slice p n k ∧ n ≤ k ∧ (p = none → n = 0 ∧ k = 0) := by
      rcases h.2 with ⟨rfl, rfl⟩ | ⟨g, cap, cur, rfl, hg, hh, hcp, hmx, hcs, htk⟩
      · exact ⟨none, 0, rfl, Nat.le_refl _, fun _ => ⟨rfl, rfl⟩⟩
      · exact ⟨_, _, rfl, hcp, fun e => by cases e⟩
    obtain ⟨p, k, rfl, hk, hp⟩ := hc
    refine ⟨_, w, append_nough _ _ _ ht (by obtain ⟨i, hi, _⟩ := info_parts hinf; exact ⟨i, hi⟩) w p n k x c hk hp, ?_, Mod.refl _ _, fun x hx => .inl hx⟩
    rw [List.append_nil]
    exact h
  · obtain ⟨a, hx, hnw⟩ := hnews (by omega)
    subst hx
    exact own_append t e ty z size bytes ht hinf hzs hsz hby h hl hB a m c news hm (by omega) hnl hnw hone
theorem own_form {w : World} {B : Nat} {e : TypeId} {size : Nat} {v : Value} {n : Nat} {cells : List Value} (h : w.ownsRow B e size v n cells) :
    (v = .slice none 0 0 ∧ n = 0) ∨ ∃ g c, v = .slice (some ⟨g, 0, none⟩) n c ∧ B ≤ g ∧ g < w.heap.size ∧ n ≤ c := by
  rcases h.2 with ⟨rfl, rfl⟩ | ⟨g, cap, cur, rfl, hg, hh, hcp, hmx, hcs, htk⟩
  · exact .inl ⟨rfl, rfl⟩
  · exact .inr ⟨g, cap, rfl, hg, (Array.getElem?_eq_some_iff.1 hh).1, hcp⟩
/-- One more value at place k of a row, by three appends: the cells ahead, the value (out of a block of its own), the cells behind. -/
theorem ins3 (t e ty : TypeId) (z : Value) (bytes : Nat) (ht : Tryz.prog.underlying t = some (.slice e)) (hinf : (Tryz.prog.info? e).map (fun i => (i.zero, i.size, i.bytes)) = some (some z, 1, bytes)) (hzs : z.cells.size = 1) (hby : bytes ≤ 1000)
    {w : World} {B : Nat} {p : Option Addr} {n c : Nat} {cells : List Value} (h : w.ownsRow B e 1 (.slice p n c) n cells) (hn : n ≤ 100000) (hB : B ≤ w.heap.size) (hone : ∀ u ∈ cells, u.oneCell' = true) (k : Nat) (hk : k ≤ n) (u : Value) (hu : u.oneCell' = true) :
    n ≤ c ∧ ∃ (a1 : Option Addr) (c1 : Nat) (w1 : World), (Builtin.append_ #[t, t] ty #[.slice none 0 0, .slice p k c]).run Tryz.prog w = .ok (.slice a1 k c1) w1 ∧ Below w.heap.size w w1 ∧
      ∃ (a2 : Option Addr) (c2 : Nat) (w2 : World), (Builtin.append_ #[t, t] ty #[.slice a1 k c1, .slice (some ⟨w1.heap.size, 0, none⟩) 1 1]).run Tryz.prog (w1.alloc (.cells #[u] e)) = .ok (.slice a2 (k + 1) c2) w2 ∧ Below w.heap.size w w2 ∧
      ∀ p2 cc, (k < n → ∃ g, p = some ⟨g, 0, none⟩ ∧ p2 = some ⟨g, k, none⟩) → ∃ (a3 : Option Addr) (c3 : Nat) (w3 : World), (Builtin.append_ #[t, t] ty #[.slice a2 (k + 1) c2, .slice p2 (n - k) cc]).run Tryz.prog w2 = .ok (.slice a3 (n + 1) c3) w3 ∧
        w3.ownsRow B e 1 (.slice a3 (n + 1) c3) (n + 1) (cells.take k ++ u :: cells.drop k) ∧ Below w.heap.size w w3 := by
  have hlen : cells.length = n := by have := h.1; omega
  have hform : n ≤ c ∧ (0 < n → ∃ g, p = some ⟨g, 0, none⟩ ∧ g < w.heap.size ∧ ∀ j v, cells[j]? = some v → w.cell? ⟨g, j, none⟩ = some v) := by
    rcases h.2 with ⟨h3, h0⟩ | ⟨g, cap, cur, h3, hg, hh, hc1, hc2, hs, htk⟩
    · simp only [Value.slice.injEq] at h3
      obtain ⟨rfl, _, rfl⟩ := h3
      subst h0
      exact ⟨Nat.le_refl _, fun h => absurd h (Nat.lt_irrefl 0)⟩
    · simp only [Value.slice.injEq, true_and] at h3
      obtain ⟨rfl, rfl⟩ := h3
      refine ⟨hc1, fun _ => ⟨g, rfl, (Array.getElem?_eq_some_iff.1 hh).1, fun j v hj => ?_⟩⟩
      have hb : Blk w g (cells ++ cur.toList.drop (n * 1)) e := by unfold Blk; rw [hh, ← htk, List.take_append_drop]
      rw [hb.cell, List.getElem?_append_left (List.getElem?_eq_some_iff.1 hj).1]; exact hj
  refine ⟨hform.1, ?_⟩
  have ltk : (cells.take k).length = k := by rw [List.length_take]; omega
  have ldr : (cells.drop k).length = n - k := by rw [List.length_drop]; omega
  obtain ⟨v1, w1, hrun1, hown1, hm1, hf1⟩ := own_more t e ty z 1 bytes ht hinf hzs (by omega) hby (World.ownsRow_nil w w.heap.size e 1) (by omega) (Nat.le_refl _) p k c (cells.take k) (by omega) (by omega) (fun h0 => by
      obtain ⟨g, e1, hg, hc⟩ := hform.2 (by omega)
      exact ⟨_, e1, fun j v hj => by
        rw [addr_add', Nat.zero_add]
        refine hc j v ?_
        rw [List.getElem?_take] at hj
        split at hj
        · exact hj
        · cases hj⟩) (fun v hv => hone v (List.mem_of_mem_take hv))
  have hb1 : Below w.heap.size w w1 := hm1.below (fun y hy => by simp [Value.ownBlock] at hy) (Nat.le_refl _)
  rw [Nat.zero_add, List.nil_append] at hown1
  obtain ⟨a1, c1, rfl⟩ := own_slice hown1
  refine ⟨a1, c1, w1, hrun1, hb1, ?_⟩
  have hs1 := hb1.size
  obtain ⟨v2, w2, hrun2, hown2, hm2, hf2⟩ := own_more t e ty z 1 bytes ht hinf hzs (by omega) hby (hown1.alloc (.cells #[u] e)) (by omega) (by rw [World.size_alloc]; omega) (some ⟨w1.heap.size, 0, none⟩) 1 1 [u] (by omega) rfl (fun _ => ⟨_, rfl, fun j v hj => by
      rw [addr_add', Nat.zero_add, World.cell?_alloc_new]
      simpa using hj⟩) (fun v hv => by simp only [List.mem_singleton] at hv; subst hv; exact hu)
  have hb1a : Below w.heap.size w (w1.alloc (.cells #[u] e)) := hb1.trans (((Below.refl _ _).alloc (Nat.le_refl _) _).mono hs1)
  have hb2 : Below w.heap.size w w2 := hb1a.trans (hm2.below (fun y hy => (hown1.lt y (by simpa using hy)).1) (by rw [World.size_alloc]; omega))
  obtain ⟨a2, c2, rfl⟩ := own_slice hown2
  refine ⟨a2, c2, w2, hrun2, hb2, fun p2 cc hp2 => ?_⟩
  have hs2 := hb2.size
  obtain ⟨v3, w3, hrun3, hown3, hm3, hf3⟩ := own_more t e ty z 1 bytes ht hinf hzs (by omega) hby hown2 (by omega) hs2 p2 (n - k) cc (cells.drop k) (by omega) (by omega) (fun h0 => by
      obtain ⟨g, e1, hg, hc⟩ := hform.2 (by omega)
      obtain ⟨g', e2, e3⟩ := hp2 (by omega)
      rw [e1] at e2
      simp only [Option.some.injEq, Addr.mk.injEq, and_true] at e2
      subst e2
      exact ⟨_, e3, fun j v hj => by
        rw [addr_add', hb2.cell (p := ⟨g, k + j, none⟩) hg]
        refine hc _ v ?_
        rw [List.getElem?_drop] at hj
        exact hj⟩) (fun v hv => hone v (List.mem_of_mem_drop hv))
  have e9 : k + 1 + (n - k) = n + 1 := by omega
  rw [e9, List.append_assoc] at hown3
  obtain ⟨a3, c3, rfl⟩ := own_slice hown3
  exact ⟨a3, c3, w3, hrun3, ownsRow_le hown3 hB, hb2.trans (hm3.below (fun y hy => (hown2.lt y (by simpa using hy)).1) hs2)⟩
end Go.Proofs.YtffianjbljgnaaaGreat

/-! ### RfComm -/
namespace Go.Proofs.YtffianjbljgnaaaGreat
set_option linter.unusedVariables false
set_option linter.unusedSimpArgs false
open Go.RowKit Go.Maps

theorem info_num : (Tryz.prog.info? 33).map (fun i => (i.zero, i.size, i.bytes)) = some (some (.int .u64 0), 1, 8) := by kernel_rfl
theorem u64s_one (l : List Nat) : ∀ u ∈ u64s l, u.oneCell' = true := fun u hu => by
  unfold u64s at hu
  obtain ⟨x, _, rfl⟩ := List.mem_map.1 hu
  rfl
theorem u64s_length (l : List Nat) : (u64s l).length = l.length := by unfold u64s; rw [List.length_map]
theorem u64s_ins (l : List Nat) (k x : Nat) : (u64s l).take k ++ .int .u64 (x : Nat) :: (u64s l).drop k = u64s (l.take k ++ x :: l.drop k) := by
  unfold u64s
  rw [List.map_append, List.map_cons, List.map_take, List.map_drop]
theorem okM_split (tss : List Nat) (m : Md) (hk : m.kind = 5) : okM tss m = (ackM m || decide (m.ts ∈ tss)) := by
  unfold okM
  rw [decide_eq_true hk, Bool.true_and]
theorem okM_no (tss : List Nat) (m : Md) (hk : ¬ m.kind = 5) : okM tss m = false := by
  unfold okM ackM
  rw [decide_eq_false hk]
  rfl
theorem any_ts (z : List EZ) (ts : Nat) : (z.any fun q => decide (q.1.ts = ts)) = decide (ts ∈ z.map (·.1.ts)) := by
  rw [Bool.eq_iff_iff, List.any_eq_true, decide_eq_true_iff, List.mem_map]
  constructor
  · rintro ⟨q, hq, h⟩; exact ⟨q, hq, of_decide_eq_true h⟩
  · rintro ⟨q, hq, h⟩; exact ⟨q, hq, decide_eq_true h⟩
theorem commP_len (tss : List Nat) (z : List MZ) (i : Nat) : (commP tss z i).length ≤ i := by
  have := commL_le tss (z.take i)
  rw [List.length_take] at this
  unfold commP
  omega
/-- A list of numbers that is handed back. -/
def NumsEnd (L : List Nat) (w : World) (e : Ending) (w' : World) : Prop :=
  ∃ (a : Option Addr) (c : Nat), e = .returned (.slice a L.length c) ∧ RowsAt w' a L.length c 1 (u64s L) ∧ (∀ g o, a = some ⟨g, o, none⟩ → w.heap.size ≤ g) ∧ Below w.heap.size w w'
set_option maxRecDepth 100000 in
set_option maxHeartbeats 16000000 in
theorem commR_any (w : World) (am : Option Addr) (nm cm : Nat) (zm : List MZ) (hm : MadeAt w am nm cm zm) (hnm : nm ≤ 900) (a : Option Addr) (n c : Nat) (z : List EZ) (h : EntsAt w a n c z) (hn : n ≤ 100000) :
    Calls Tryz.prog 8 #[.slice am nm cm, .slice a n c] w (NumsEnd (commL (z.map (·.1.ts)) zm) w) := by
  have HMM := Lib.hid hm
  have HH := Lib.hid h
  have HLen := Lib.hid h.len
  have HOwn0 := Lib.hid (World.ownsRow_nil w w.heap.size 33 1)
  obtain ⟨tss, htss⟩ : ∃ t, z.map (·.1.ts) = t := ⟨_, rfl⟩
  have HTss := Lib.hid htss
  rw [htss]
  clear hm h htss
  go_enter Tryz.func8, Tryz.ntmps8
  go_wp2_with fail
  go_loopw [5, 6, 7, 8, 9, 10, 11] (fun s5 s6 _ _ _ _ _ wr => ∃ i : Nat, i ≤ nm ∧ s6 = .int .i64 i ∧ wr.ownsRow w.heap.size 33 1 s5 (commP tss zm i).length (u64s (commP tss zm i)) ∧ Below w.heap.size w wr) (fun _ s6 _ _ _ _ _ _ => nm - (intOf s6).toNat)
  case atStart => exact ⟨0, by omega, rfl, HOwn0.out, Below.refl _ _⟩
  case round =>
    clear HOwn0
    obtain ⟨i, hi, rfl, hown, hb⟩ := hrel
    have HB := Lib.hid hb
    obtain ⟨D, hD⟩ : ∃ D, commP tss zm i = D := ⟨_, rfl⟩
    rw [hD] at hown
    by_cases hlt : i < nm
    · have hil : (i : Int) < (nm : Int) := by omega
      have hDl : D.length ≤ 900 := by rw [← hD]; have := commP_len tss zm i; omega
      obtain ⟨q, g, o, hq, hqz, rfl, hg, hc⟩ := (HMM.out.on hb).row hlt
      have hnx := commP_next tss zm i q hq
      rw [hD] at hnx
      have HNx := Lib.hid hnx
      have HC := Lib.hid hc
      have HBox := Lib.hid (md_box wr q.1)
      have hbn := (Below.refl wr.heap.size wr).alloc (Nat.le_refl _) (.cells (mdCells q.1).toArray 45)
      have HOwn := Lib.hid (hown.alloc (.cells (mdCells q.1).toArray 45))
      have HB2 := Lib.hid (hb.trans (hbn.mono hb.size))
      have HXl0 := Lib.hid (show wr.heap.size < (wr.alloc (.cells (mdCells q.1).toArray 45)).heap.size by rw [World.size_alloc]; omega)
      clear hown hb hbn hD hnx hq hqz hc
      go_upto_region 6 with (first | ((with_reducible refine wpList_loadM rfl _ rfl _ _ _ HC.out ?_ ?_); rfl) | ((with_reducible refine wpList_storeM rfl _ _ rfl _ q.1 ?_ ?_ ?_); rfl; rfl))
      try go_frame
      obtain ⟨xb, hxb⟩ : ∃ x, wr.heap.size = x := ⟨_, rfl⟩
      rw [hxb] at HBox HXl0
      simp only [hxb]
      generalize wr.alloc (.cells (mdCells q.1).toArray 45) = w2 at *
      have HX := Lib.hid (show MdCellsAt w2 xb 0 q.1 from HBox.out)
      have HXl := Lib.hid (show xb < w2.heap.size from HXl0.out)
      clear HBox HC hxb HXl0
      have d2 := HX.out.2.2.1
      have d7 := HX.out.2.2.2.2.2.2.2.1
      have d10 := HX.out.2.2.2.2.2.2.2.2.2.2.1
      by_cases hk : q.1.kind = 5
      · have e1 : (q.1.kind == 5) = true := by simp [hk]
        have e2 : (q.1.kind != 5) = false := by simp [hk]
        have HOk := Lib.hid (show okM tss q.1 = (ackM q.1 || decide (q.1.ts ∈ tss)) from okM_split tss q.1 hk)
        obtain ⟨b0, hb0⟩ : ∃ b, ackM q.1 = b := ⟨_, rfl⟩
        rw [hb0] at HOk
        have HB0 := Lib.hid hb0
        clear hb0
        go_upto_region 7 with fail
        clear d2 e1 e2
        go_cut [8] (fun s8 wx => s8 = .bool b0 ∧ w2 = wx)
        case first =>
          cases hdn : q.1.dn with
          | true =>
            rw [hdn] at d7
            by_cases h2 : q.1.err = 0
            · have e2 : (q.1.err == 0) = true := by simp [h2]
              have HX0 := Lib.hid (show b0 = true by rw [← HB0.out]; unfold ackM; rw [hdn]; simp [hk, h2])
              clear hdn h2 hk
              go_wp2_with fail
              go_meet
              exact ⟨by rw [HX0.out], rfl⟩
            · have e2 : (q.1.err == 0) = false := by simp [h2]
              have HX0 := Lib.hid (show b0 = false by rw [← HB0.out]; unfold ackM; rw [hdn]; simp [h2])
              clear hdn h2 hk
              go_wp2_with fail
              go_meet
              exact ⟨by rw [HX0.out], rfl⟩
          | false =>
            rw [hdn] at d7
            have HX0 := Lib.hid (show b0 = false by rw [← HB0.out]; unfold ackM; rw [hdn]; simp)
            clear hdn hk
            go_wp2_with fail
            go_meet
            exact ⟨by rw [HX0.out], rfl⟩
        obtain ⟨rfl, rfl⟩ := hcut
        clear hk d7 d10
        obtain ⟨ts, hts⟩ : ∃ t, q.1.ts = t := ⟨_, rfl⟩
        rw [hts] at HOk
        have HTs := Lib.hid hts
        have HQt := Lib.hid (show ∀ w', Below w2.heap.size w2 w' → w'.cell? ⟨xb, 0, none⟩ = some (.int .u64 (ts : Nat)) from fun w' hb => by
          rw [hb.cell (p := ⟨xb, 0, none⟩) HXl.out, ← hts]
          exact HX.out.1)
        clear hts
        go_wp2_with fail
        generalize wr = wo at *
        go_loopw [8, 9] (fun s8 s9 wr => ∃ k : Nat, k ≤ n ∧ s9 = .int .i64 k ∧ s8 = .bool (b0 || (z.take k).any (fun q : EZ => decide (q.1.ts = ts))) ∧ Below w2.heap.size w2 wr) (fun _ s9 _ => n - (intOf s9).toNat)
        case atStart => exact ⟨0, by omega, rfl, by rw [show (z.take 0).any (fun q : EZ => decide (q.1.ts = ts)) = false from rfl, Bool.or_false], Below.refl _ _⟩
        case round =>
          obtain ⟨k, hk, rfl, rfl, hb⟩ := hrel
          have HBk := Lib.hid hb
          have HTk := Lib.hid (HB2.out.trans (hb.mono HB2.out.size))
          clear hb
          by_cases hkn : k < n
          · have hkl : (k : Int) < (n : Int) := by omega
            obtain ⟨q2, g2, o2, hq2, _, rfl, hg2, c0, _, _⟩ := (HH.out.on HTk.out).row hkn
            have HNk := Lib.hid (any_nextR (fun q : EZ => decide (q.1.ts = ts)) z k q2 hq2)
            obtain ⟨t2, ht2⟩ : ∃ t, q2.1.ts = t := ⟨_, rfl⟩
            rw [ht2] at c0
            have HT2 := Lib.hid ht2
            have HF := Lib.hid (show ∀ w', Below wr.heap.size wr w' → (w'.cell? ⟨g2, o2 + k * 3, none⟩ = some (.int .u64 (t2 : Nat)) ∧ w'.cell? ⟨xb, 0, none⟩ = some (.int .u64 (ts : Nat))) from fun w' hb => ⟨by rw [hb.cell (p := ⟨g2, o2 + k * 3, none⟩) hg2]; exact c0, HQt.out w' (HBk.out.trans (hb.mono HBk.out.size))⟩)
            obtain ⟨b, hb⟩ : ∃ b, (b0 || (z.take k).any (fun q : EZ => decide (q.1.ts = ts))) = b := ⟨_, rfl⟩
            rw [hb]
            have HBb := Lib.hid hb
            clear hb hq2 hg2 c0 ht2
            cases b with
            | true =>
              have HX2 := Lib.hid (show (b0 || (z.take (k + 1)).any (fun q : EZ => decide (q.1.ts = ts))) = true by rw [HNk.out, ← Bool.or_assoc, HBb.out]; simp)
              go_upto_region 11 with fail
              refine wp_region_settle (Below wr.heap.size wr) (by kernel_rfl) (by kernel_rfl) (by kernel_rfl) (below_drew (Below.refl _ _)) ?_
              repeat (first
                | (refine settled_not ?_ ?_
                   · rfl
                   simp only [Act.put, List.setIfInBounds_toArray, List.set_cons_zero, List.set_cons_succ])
                | (refine settled_val (v := ?_) ?_ (fun w' hS => ?_) ?_
                   rotate_left
                   · rfl
                   · obtain ⟨k0, k1⟩ := HF.out w' hS
                     go_simp
                     with_reducible rfl
                   simp only [Act.put, List.setIfInBounds_toArray, List.set_cons_zero, List.set_cons_succ]))
              refine settled_nil (fun w8 hS => ?_)
              have HE := Lib.hid (HBk.out.trans (hS.mono HBk.out.size))
              clear hS
              go_wp2_with fail
              go_roundw
              case rel => exact ⟨k + 1, by omega, by go_num, by rw [HX2.out], HE.out⟩
              case measure => simp [intOf]; omega
            | false =>
              by_cases htt : t2 = ts
              · have e1 : ((t2 : Int) == (ts : Int)) = true := by simp [htt]
                have HX2 := Lib.hid (show (b0 || (z.take (k + 1)).any (fun q : EZ => decide (q.1.ts = ts))) = true by rw [HNk.out, ← Bool.or_assoc, HBb.out]; simp [HT2.out, htt])
                go_upto_region 11 with fail
                refine wp_region_settle (Below wr.heap.size wr) (by kernel_rfl) (by kernel_rfl) (by kernel_rfl) (below_drew (Below.refl _ _)) ?_
                repeat (first
                  | (refine settled_not ?_ ?_
                     · rfl
                     simp only [Act.put, List.setIfInBounds_toArray, List.set_cons_zero, List.set_cons_succ])
                  | (refine settled_val (v := ?_) ?_ (fun w' hS => ?_) ?_
                     rotate_left
                     · rfl
                     · obtain ⟨k0, k1⟩ := HF.out w' hS
                       go_simp
                       with_reducible rfl
                     simp only [Act.put, List.setIfInBounds_toArray, List.set_cons_zero, List.set_cons_succ]))
                refine settled_nil (fun w8 hS => ?_)
                have HE := Lib.hid (HBk.out.trans (hS.mono HBk.out.size))
                clear hS
                go_wp2_with fail
                go_roundw
                case rel => exact ⟨k + 1, by omega, by go_num, by rw [HX2.out], HE.out⟩
                case measure => simp [intOf]; omega
              · have e1 : ((t2 : Int) == (ts : Int)) = false := by simp; omega
                have HX2 := Lib.hid (show (b0 || (z.take (k + 1)).any (fun q : EZ => decide (q.1.ts = ts))) = false by rw [HNk.out, ← Bool.or_assoc, HBb.out]; simp [HT2.out, htt])
                go_upto_region 11 with fail
                refine wp_region_settle (Below wr.heap.size wr) (by kernel_rfl) (by kernel_rfl) (by kernel_rfl) (below_drew (Below.refl _ _)) ?_
                repeat (first
                  | (refine settled_not ?_ ?_
                     · rfl
                     simp only [Act.put, List.setIfInBounds_toArray, List.set_cons_zero, List.set_cons_succ])
                  | (refine settled_val (v := ?_) ?_ (fun w' hS => ?_) ?_
                     rotate_left
                     · rfl
                     · obtain ⟨k0, k1⟩ := HF.out w' hS
                       go_simp
                       with_reducible rfl
                     simp only [Act.put, List.setIfInBounds_toArray, List.set_cons_zero, List.set_cons_succ]))
                refine settled_nil (fun w8 hS => ?_)
                have HE := Lib.hid (HBk.out.trans (hS.mono HBk.out.size))
                clear hS
                go_wp2_with fail
                go_roundw
                case rel => exact ⟨k + 1, by omega, by go_num, by rw [HX2.out], HE.out⟩
                case measure => simp [intOf]; omega
          · have hkl : ¬ (k : Int) < (n : Int) := by omega
            obtain ⟨b1, hb1⟩ : ∃ b, okM tss q.1 = b := ⟨_, rfl⟩
            have HX1 := Lib.hid (show (b0 || (z.take k).any (fun q : EZ => decide (q.1.ts = ts))) = b1 by rw [List.take_of_length_le (by have := HLen.out; omega), any_ts, HTss.out, ← HOk.out, hb1])
            rw [HX1.out]
            have HB1 := Lib.hid hb1
            have HNx2 := Lib.hid (show commP tss zm (i + 1) = if b1 then insA ts D else D by rw [HNx.out, hb1, HTs.out])
            clear hb1 HNx HX1 HOk
            have HBc := Lib.hid HBk.out
            go_upto_region 12 with fail
            generalize wr = wo2 at *
            obtain ⟨aD, cD, rfl⟩ := own_slice HOwn.out
            have HOw := Lib.hid (ownsRow_mod HOwn.out (Mod.of_below HBk.out (S := [])) (by simp))
            have HDr := Lib.hid (own_rows HOw.out).1
            obtain ⟨ln, hln⟩ : ∃ x, D.length = x := ⟨_, rfl⟩
            rw [hln] at HOw HDr hDl
            simp only [hln]
            have HLn := Lib.hid hln
            clear hln
            go_upto_block 4 with fail
            go_cut [10] (fun s10 wx => ∃ k : Nat, k ≤ ln ∧ s10 = .int .i64 k ∧ (∀ j y, j < k → D[j]? = some y → y < ts) ∧ (∀ y, D[k]? = some y → ts ≤ y) ∧ Below wo2.heap.size wo2 wx)
            case first =>
              go_wp2_with fail
              go_loopw [10] (fun s10 wr => ∃ k : Nat, k ≤ ln ∧ s10 = .int .i64 k ∧ (∀ j y, j < k → D[j]? = some y → y < ts) ∧ Below wo2.heap.size wo2 wr) (fun s10 _ => ln - (intOf s10).toNat)
              case atStart => exact ⟨0, by omega, rfl, fun j y hj => by omega, Below.refl _ _⟩
              case round =>
                obtain ⟨j, hj, rfl, hle, hb⟩ := hrel
                have HLe := Lib.hid hle
                have HBj := Lib.hid hb
                clear hle hb
                by_cases hjl : j < ln
                · have hji : (j : Int) < (ln : Int) := by omega
                  obtain ⟨y, hy⟩ : ∃ y, D[j]? = some y := ⟨_, List.getElem?_eq_getElem (by have := HLn.out; omega)⟩
                  have HY := Lib.hid hy
                  obtain ⟨gD, oD, e9, hgD, hcD⟩ := (HDr.out.on HBj.out).at_ (by omega)
                  have d0 := hcD j _ (u64s_nth D j y hy)
                  subst e9
                  have HF := Lib.hid (show ∀ w', Below wr.heap.size wr w' → (w'.cell? ⟨gD, oD + j, none⟩ = some (.int .u64 (y : Nat)) ∧ w'.cell? ⟨xb, 0, none⟩ = some (.int .u64 (ts : Nat))) from fun w' hb => ⟨by rw [hb.cell (p := ⟨gD, oD + j, none⟩) hgD]; exact d0, HQt.out w' (HBc.out.trans ((HBj.out.trans (hb.mono HBj.out.size)).mono HBc.out.size))⟩)
                  clear hcD d0 hy
                  by_cases hyt : y < ts
                  · have hyi : (y : Int) < (ts : Int) := by omega
                    have HNl := Lib.hid (show ∀ j' y', j' < j + 1 → D[j']? = some y' → y' < ts from fun j' y' h1 h2 => by
                      by_cases hjj : j' = j
                      · subst hjj; rw [HY.out] at h2; cases h2; exact hyt
                      · exact HLe.out j' y' (by omega) h2)
                    clear hyt
                    go_upto_region 13 with fail
                    refine wp_region_settle (Below wr.heap.size wr) (by kernel_rfl) (by kernel_rfl) (by kernel_rfl) (below_drew (Below.refl _ _)) ?_
                    repeat (first
                      | (refine settled_not ?_ ?_
                         · rfl
                         simp only [Act.put, List.setIfInBounds_toArray, List.set_cons_zero, List.set_cons_succ])
                      | (refine settled_val (v := ?_) ?_ (fun w' hS => ?_) ?_
                         rotate_left
                         · rfl
                         · obtain ⟨k0, k1⟩ := HF.out w' hS
                           go_simp
                           with_reducible rfl
                         simp only [Act.put, List.setIfInBounds_toArray, List.set_cons_zero, List.set_cons_succ]))
                    refine settled_nil (fun w8 hS => ?_)
                    have HE := Lib.hid (HBj.out.trans (hS.mono HBj.out.size))
                    clear hS
                    go_wp2_with fail
                    go_roundw
                    case rel => exact ⟨j + 1, by omega, by go_num, HNl.out, HE.out⟩
                    case measure => simp [intOf]; omega
                  · have hyi : ¬ (y : Int) < (ts : Int) := by omega
                    have HNl := Lib.hid (show ∀ y', D[j]? = some y' → ts ≤ y' from fun y' h => by rw [HY.out] at h; cases h; omega)
                    clear hyt
                    go_upto_region 13 with fail
                    refine wp_region_settle (Below wr.heap.size wr) (by kernel_rfl) (by kernel_rfl) (by kernel_rfl) (below_drew (Below.refl _ _)) ?_
                    repeat (first
                      | (refine settled_not ?_ ?_
                         · rfl
                         simp only [Act.put, List.setIfInBounds_toArray, List.set_cons_zero, List.set_cons_succ])
                      | (refine settled_val (v := ?_) ?_ (fun w' hS => ?_) ?_
                         rotate_left
                         · rfl
                         · obtain ⟨k0, k1⟩ := HF.out w' hS
                           go_simp
                           with_reducible rfl
                         simp only [Act.put, List.setIfInBounds_toArray, List.set_cons_zero, List.set_cons_succ]))
                    refine settled_nil (fun w8 hS => ?_)
                    have HE := Lib.hid (HBj.out.trans (hS.mono HBj.out.size))
                    clear hS
                    go_wp2_with fail
                    go_meet
                    exact ⟨j, by omega, rfl, HLe.out, HNl.out, HE.out⟩
                · have hji : ¬ (j : Int) < (ln : Int) := by omega
                  have HNl := Lib.hid (show ∀ y', D[j]? = some y' → ts ≤ y' from fun y' h => by
                    rw [List.getElem?_eq_none (by have := HLn.out; omega)] at h
                    cases h)
                  go_upto_region 13 with fail
                  refine wp_region_settle (Below wr.heap.size wr) (by kernel_rfl) (by kernel_rfl) (by kernel_rfl) (below_drew (Below.refl _ _)) ?_
                  repeat (first
                    | (refine settled_not ?_ ?_
                       · rfl
                       simp only [Act.put, List.setIfInBounds_toArray, List.set_cons_zero, List.set_cons_succ])
                    | (refine settled_val (v := ?_) ?_ (fun w' hS => ?_) ?_
                       rotate_left
                       · rfl
                       · skip
                         go_simp
                         with_reducible rfl
                       simp only [Act.put, List.setIfInBounds_toArray, List.set_cons_zero, List.set_cons_succ]))
                  refine settled_nil (fun w8 hS => ?_)
                  have HE := Lib.hid (HBj.out.trans (hS.mono HBj.out.size))
                  clear hS
                  go_wp2_with fail
                  go_meet
                  exact ⟨j, by omega, rfl, HLe.out, HNl.out, HE.out⟩
            rename World => w3
            obtain ⟨j, hj, rfl, hle, hge, hb3⟩ := hcut
            have HLe := Lib.hid hle
            have HGe := Lib.hid hge
            have HB3 := Lib.hid hb3
            have HT3 := Lib.hid (HBc.out.trans (hb3.mono HBc.out.size))
            have HOw3 := Lib.hid (ownsRow_mod HOw.out (Mod.of_below hb3 (S := [])) (by simp))
            have HDr3 := Lib.hid (HDr.out.on hb3)
            have HTop := Lib.hid (HB2.out.trans (HT3.out.mono HB2.out.size))
            clear hle hge hb3
            obtain ⟨sk, hsk⟩ : ∃ b, (!b1 || decide (D[j]? = some ts)) = b := ⟨_, rfl⟩
            have HSk := Lib.hid hsk
            clear hsk
            go_upto_region 15 with fail
            go_cut [82] (fun s82 wx => s82 = .bool sk ∧ Below w3.heap.size w3 wx)
            case first =>
              cases b1 with
              | false =>
                have HX := Lib.hid (show sk = true by rw [← HSk.out]; rfl)
                refine wp_region_settle (Below w3.heap.size w3) (by kernel_rfl) (by kernel_rfl) (by kernel_rfl) (below_drew (Below.refl _ _)) ?_
                repeat (first
                  | (refine settled_not ?_ ?_
                     · rfl
                     simp only [Act.put, List.setIfInBounds_toArray, List.set_cons_zero, List.set_cons_succ])
                  | (refine settled_val (v := ?_) ?_ (fun w' hS => ?_) ?_
                     rotate_left
                     · rfl
                     · skip
                       go_simp
                       with_reducible rfl
                     simp only [Act.put, List.setIfInBounds_toArray, List.set_cons_zero, List.set_cons_succ]))
                refine settled_nil (fun w8 hS => ?_)
                go_wp2_with fail
                go_meet
                exact ⟨by rw [HX.out], hS⟩
              | true =>
                by_cases hjl : j < ln
                · have hji : (j : Int) < (ln : Int) := by omega
                  obtain ⟨y, hy⟩ : ∃ y, D[j]? = some y := ⟨_, List.getElem?_eq_getElem (by have := HLn.out; omega)⟩
                  have HY := Lib.hid hy
                  obtain ⟨gD, oD, e9, hgD, hcD⟩ := HDr3.out.at_ (by omega)
                  have d0 := hcD j _ (u64s_nth D j y hy)
                  subst e9
                  have HF := Lib.hid (show ∀ w', Below w3.heap.size w3 w' → (w'.cell? ⟨gD, oD + j, none⟩ = some (.int .u64 (y : Nat)) ∧ w'.cell? ⟨xb, 0, none⟩ = some (.int .u64 (ts : Nat))) from fun w' hb => ⟨by rw [hb.cell (p := ⟨gD, oD + j, none⟩) hgD]; exact d0, HQt.out w' (HT3.out.trans (hb.mono HT3.out.size))⟩)
                  clear hcD d0 hy
                  by_cases hyt : y = ts
                  · have e1 : ((y : Int) == (ts : Int)) = true := by simp [hyt]
                    have HX := Lib.hid (show sk = true by rw [← HSk.out, HY.out]; simp [hyt])
                    clear hyt
                    refine wp_region_settle (Below w3.heap.size w3) (by kernel_rfl) (by kernel_rfl) (by kernel_rfl) (below_drew (Below.refl _ _)) ?_
                    repeat (first
                      | (refine settled_not ?_ ?_
                         · rfl
                         simp only [Act.put, List.setIfInBounds_toArray, List.set_cons_zero, List.set_cons_succ])
                      | (refine settled_val (v := ?_) ?_ (fun w' hS => ?_) ?_
                         rotate_left
                         · rfl
                         · obtain ⟨k0, k1⟩ := HF.out w' hS
                           go_simp
                           with_reducible rfl
                         simp only [Act.put, List.setIfInBounds_toArray, List.set_cons_zero, List.set_cons_succ]))
                    refine settled_nil (fun w8 hS => ?_)
                    go_wp2_with fail
                    go_meet
                    exact ⟨by rw [HX.out], hS⟩
                  · have e1 : ((y : Int) == (ts : Int)) = false := by simp; omega
                    have HX := Lib.hid (show sk = false by rw [← HSk.out, HY.out]; simp [hyt])
                    clear hyt
                    refine wp_region_settle (Below w3.heap.size w3) (by kernel_rfl) (by kernel_rfl) (by kernel_rfl) (below_drew (Below.refl _ _)) ?_
                    repeat (first
                      | (refine settled_not ?_ ?_
                         · rfl
                         simp only [Act.put, List.setIfInBounds_toArray, List.set_cons_zero, List.set_cons_succ])
                      | (refine settled_val (v := ?_) ?_ (fun w' hS => ?_) ?_
                         rotate_left
                         · rfl
                         · obtain ⟨k0, k1⟩ := HF.out w' hS
                           go_simp
                           with_reducible rfl
                         simp only [Act.put, List.setIfInBounds_toArray, List.set_cons_zero, List.set_cons_succ]))
                    refine settled_nil (fun w8 hS => ?_)
                    go_wp2_with fail
                    go_meet
                    exact ⟨by rw [HX.out], hS⟩
                · have hji : ¬ (j : Int) < (ln : Int) := by omega
                  have HX := Lib.hid (show sk = false by rw [← HSk.out, List.getElem?_eq_none (by have := HLn.out; omega)]; simp)
                  refine wp_region_settle (Below w3.heap.size w3) (by kernel_rfl) (by kernel_rfl) (by kernel_rfl) (below_drew (Below.refl _ _)) ?_
                  repeat (first
                    | (refine settled_not ?_ ?_
                       · rfl
                       simp only [Act.put, List.setIfInBounds_toArray, List.set_cons_zero, List.set_cons_succ])
                    | (refine settled_val (v := ?_) ?_ (fun w' hS => ?_) ?_
                       rotate_left
                       · rfl
                       · skip
                         go_simp
                         with_reducible rfl
                       simp only [Act.put, List.setIfInBounds_toArray, List.set_cons_zero, List.set_cons_succ]))
                  refine settled_nil (fun w8 hS => ?_)
                  go_wp2_with fail
                  go_meet
                  exact ⟨by rw [HX.out], hS⟩
            rename World => w4
            obtain ⟨rfl, hb4⟩ := hcut
            have HOw4 := Lib.hid (ownsRow_mod HOw3.out (Mod.of_below hb4 (S := [])) (by simp))
            have HT4 := Lib.hid (HT3.out.trans (hb4.mono HT3.out.size))
            have HTop4 := Lib.hid (HTop.out.trans (hb4.mono HTop.out.size))
            clear hb4
            cases sk with
            | true =>
              have HNx3 := Lib.hid (show commP tss zm (i + 1) = D from by
                rw [HNx2.out]
                have := HSk.out
                cases b1 with
                | false => rfl
                | true =>
                  simp only [Bool.not_true, Bool.false_or, decide_eq_true_eq] at this
                  rw [if_pos rfl, insA_same HLe.out this])
              go_wp2_with fail
              go_roundw
              case rel => exact ⟨i + 1, by omega, by go_num, by rw [HNx3.out, HLn.out]; exact HOw4.out, HTop4.out⟩
              case measure => simp [intOf]; omega
            | false =>
              have HNx3 := Lib.hid (show commP tss zm (i + 1) = D.take j ++ ts :: D.drop j from by
                rw [HNx2.out]
                have := HSk.out
                simp only [Bool.or_eq_false_iff, Bool.not_eq_false', decide_eq_false_iff_not] at this
                obtain ⟨h1, h2⟩ := this
                rw [h1, if_pos rfl]
                refine insA_at (by rw [HLn.out]; exact hj) HLe.out (fun y hy => ?_)
                have := HGe.out y hy
                rcases Nat.lt_or_ge ts y with h | h
                · exact h
                · exact absurd (by rw [hy, Nat.le_antisymm h this]) h2)
              have HD' := Lib.hid (show (D.take j ++ ts :: D.drop j).length = ln + 1 from by rw [List.length_append, List.length_cons, List.length_take, List.length_drop, HLn.out]; omega)
              obtain ⟨hcap, a1, c1, w5, hrun1, hb5, a2, c2, w6, hrun2, hb6, hall⟩ := ins3 27 33 27 _ 8 Tryz.underlying27 info_num rfl (by decide) HOw4.out (by omega) (by have := HTop4.out.size; exact this) (u64s_one D) j hj (.int .u64 (ts : Nat)) rfl
              rw [u64s_ins] at hall
              have HAll := Lib.hid hall
              have HF5 := HQt.out w5 (HT4.out.trans (hb5.mono HT4.out.size))
              have HTop9 := Lib.hid HTop4.out
              have hj0 : (0 : Int) ≤ (j : Int) := by omega
              have hjc : (j : Int) ≤ (cD : Int) := by omega
              have hjln : (j : Int) ≤ (ln : Int) := by omega
              have hlc : (ln : Int) ≤ (cD : Int) := by omega
              have HFo := Lib.hid (own_form HOw4.out)
              clear hall hb5 hb6 HNx2 HSk HQt HDr HDr3 HOw HOw3
              rcases HFo.out with ⟨hs, hz⟩ | ⟨gD, cD', hs, hgB, hgl, _⟩
              · simp only [Value.slice.injEq] at hs
                obtain ⟨rfl, _, rfl⟩ := hs
                subst hz
                have hj00 : j = 0 := by omega
                subst hj00
                obtain ⟨a3, c3, w7, hrun3, hown, hb7⟩ := HAll.out none 0 (fun h0 => by omega)
                skip
                have HO7 := Lib.hid hown
                have HTop7 := Lib.hid (HTop9.out.trans (hb7.mono HTop9.out.size))
                clear hown hb7 HAll
                go_upto_region 18 with (at_builtin; (with_reducible refine wpList_append_run rfl _ _ _ rfl _ _ _ _ ?_ ?_ hrun1 ?_); rfl; rfl)
                clear hrun1
                go_upto_region 19 with (at_builtin; (with_reducible refine wpList_append_run rfl _ _ _ rfl _ _ _ _ ?_ ?_ hrun2 ?_); rfl; rfl)
                clear hrun2
                go_wp2_with (at_builtin; (with_reducible refine wpList_append_run rfl _ _ _ rfl _ _ _ _ ?_ ?_ hrun3 ?_); rfl; rfl)
                clear hrun3
                go_roundw
                case rel => exact ⟨i + 1, by omega, by go_num, by rw [HNx3.out, HD'.out]; exact HO7.out, HTop7.out⟩
                case measure => simp [intOf]; omega
              · simp only [Value.slice.injEq, true_and] at hs
                obtain ⟨rfl, rfl⟩ := hs
                by_cases hcj : cD = j
                · have hcj2 : (cD : Int) = (j : Int) := by omega
                  by_cases hj00 : j = 0
                  · subst hj00
                    subst hcj
                    obtain rfl : ln = 0 := by omega
                    obtain ⟨a3, c3, w7, hrun3, hown, hb7⟩ := HAll.out (some ⟨gD, 0, none⟩) 0 (fun h0 => by omega)
                    skip
                    have HO7 := Lib.hid hown
                    have HTop7 := Lib.hid (HTop9.out.trans (hb7.mono HTop9.out.size))
                    clear hown hb7 HAll
                    go_upto_region 18 with (at_builtin; (with_reducible refine wpList_append_run rfl _ _ _ rfl _ _ _ _ ?_ ?_ hrun1 ?_); rfl; rfl)
                    clear hrun1
                    go_upto_region 19 with (at_builtin; (with_reducible refine wpList_append_run rfl _ _ _ rfl _ _ _ _ ?_ ?_ hrun2 ?_); rfl; rfl)
                    clear hrun2
                    go_wp2_with (at_builtin; (with_reducible refine wpList_append_run rfl _ _ _ rfl _ _ _ _ ?_ ?_ hrun3 ?_); rfl; rfl)
                    clear hrun3
                    go_roundw
                    case rel => exact ⟨i + 1, by omega, by go_num, by rw [HNx3.out, HD'.out]; exact HO7.out, HTop7.out⟩
                    case measure => simp [intOf]; omega
                  · have hj01 : ¬ (j : Int) = 0 := by omega
                    subst hcj
                    obtain rfl : ln = cD := by omega
                    obtain ⟨a3, c3, w7, hrun3, hown, hb7⟩ := HAll.out (some ⟨gD, 0, none⟩) 0 (fun h0 => by omega)
                    rw [Nat.sub_self] at hrun3
                    have HO7 := Lib.hid hown
                    have HTop7 := Lib.hid (HTop9.out.trans (hb7.mono HTop9.out.size))
                    clear hown hb7 HAll
                    go_upto_region 18 with (at_builtin; (with_reducible refine wpList_append_run rfl _ _ _ rfl _ _ _ _ ?_ ?_ hrun1 ?_); rfl; rfl)
                    clear hrun1
                    go_upto_region 19 with (at_builtin; (with_reducible refine wpList_append_run rfl _ _ _ rfl _ _ _ _ ?_ ?_ hrun2 ?_); rfl; rfl)
                    clear hrun2
                    go_wp2_with (at_builtin; (with_reducible refine wpList_append_run rfl _ _ _ rfl _ _ _ _ ?_ ?_ hrun3 ?_); rfl; rfl)
                    clear hrun3
                    go_roundw
                    case rel => exact ⟨i + 1, by omega, by go_num, by rw [HNx3.out, HD'.out]; exact HO7.out, HTop7.out⟩
                    case measure => simp [intOf]; omega
                · have hcj2 : ¬ (cD : Int) = (j : Int) := by omega
                  obtain ⟨a3, c3, w7, hrun3, hown, hb7⟩ := HAll.out (some ⟨gD, j, none⟩) (cD - j) (fun _ => ⟨gD, rfl, rfl⟩)
                  skip
                  have HO7 := Lib.hid hown
                  have HTop7 := Lib.hid (HTop9.out.trans (hb7.mono HTop9.out.size))
                  clear hown hb7 HAll
                  go_upto_region 18 with (at_builtin; (with_reducible refine wpList_append_run rfl _ _ _ rfl _ _ _ _ ?_ ?_ hrun1 ?_); rfl; rfl)
                  clear hrun1
                  go_upto_region 19 with (at_builtin; (with_reducible refine wpList_append_run rfl _ _ _ rfl _ _ _ _ ?_ ?_ hrun2 ?_); rfl; rfl)
                  clear hrun2
                  go_wp2_with (at_builtin; (with_reducible refine wpList_append_run rfl _ _ _ rfl _ _ _ _ ?_ ?_ hrun3 ?_); rfl; rfl)
                  clear hrun3
                  go_roundw
                  case rel => exact ⟨i + 1, by omega, by go_num, by rw [HNx3.out, HD'.out]; exact HO7.out, HTop7.out⟩
                  case measure => simp [intOf]; omega
      · have e1 : (q.1.kind == 5) = false := by simp [hk]
        have e2 : (q.1.kind != 5) = true := by simp [hk]
        have HNx3 := Lib.hid (show commP tss zm (i + 1) = D from by
          rw [HNx.out, okM_no tss q.1 hk]
          rfl)
        clear hk d7 d10
        go_wp2_with fail
        go_roundw
        case rel => exact ⟨i + 1, by omega, by go_num, by rw [HNx3.out]; exact HOwn.out, HB2.out⟩
        case measure => simp [intOf]; omega
    · have hil : ¬ (i : Int) < (nm : Int) := by omega
      have hE := commP_all tss zm i (by have := HMM.out.len; omega)
      rw [hD] at hE
      obtain ⟨a3, c3, rfl⟩ := own_slice hown
      have HE := Lib.hid (show NumsEnd (commL tss zm) w (.returned (.slice a3 D.length c3)) wr from by
        rw [← hE]
        exact ⟨a3, c3, rfl, (own_rows hown).1, (own_rows hown).2, hb⟩)
      clear hown hb hE hD HB
      go_wp2_with fail
      go_ret
      exact HE.out
end Go.Proofs.YtffianjbljgnaaaGreat

/-! ### RfCalls -/
namespace Go.Proofs.YtffianjbljgnaaaGreat
set_option linter.unusedVariables false
set_option linter.unusedSimpArgs false
open Go.RowKit Go.Maps

theorem i64s_one (l : List Nat) : ∀ u ∈ i64s l, u.oneCell' = true := fun u hu => by
  unfold i64s at hu
  obtain ⟨x, _, rfl⟩ := List.mem_map.1 hu
  rfl
theorem i64s_ins (l : List Nat) (k x : Nat) : (i64s l).take k ++ .int .i64 (x : Nat) :: (i64s l).drop k = i64s (l.take k ++ x :: l.drop k) := by
  unfold i64s
  rw [List.map_append, List.map_cons, List.map_take, List.map_drop]
/-- A list of places that is handed back. -/
def PlacesEnd (L : List Nat) (w : World) (e : Ending) (w' : World) : Prop :=
  ∃ (a : Option Addr) (c : Nat), e = .returned (.slice a L.length c) ∧ RowsAt w' a L.length c 1 (i64s L) ∧ (∀ g o, a = some ⟨g, o, none⟩ → w.heap.size ≤ g) ∧ Below w.heap.size w w'
set_option maxRecDepth 100000 in
set_option maxHeartbeats 16000000 in
theorem callsR_any (w : World) (am : Option Addr) (nm cm : Nat) (zm : List MZ) (hm : MadeAt w am nm cm zm) (hnm : nm ≤ 900) (ts : Nat) :
    Calls Tryz.prog 23 #[.slice am nm cm, .int .u64 (ts : Nat)] w (PlacesEnd (callsL ts zm) w) := by
  have HMM := Lib.hid hm
  have HOwn0 := Lib.hid (World.ownsRow_nil w w.heap.size 3 1)
  clear hm
  go_enter Tryz.func23, Tryz.ntmps23
  go_wp2_with fail
  go_loopw [5, 6, 7, 8, 9] (fun s5 s6 _ _ _ wr => ∃ i : Nat, i ≤ nm ∧ s6 = .int .i64 i ∧ wr.ownsRow w.heap.size 3 1 s5 (callsP ts zm i).length (i64s (callsP ts zm i)) ∧ Below w.heap.size w wr) (fun _ s6 _ _ _ _ => nm - (intOf s6).toNat)
  case atStart => exact ⟨0, by omega, rfl, HOwn0.out, Below.refl _ _⟩
  case round =>
    clear HOwn0
    obtain ⟨i, hi, rfl, hown, hb⟩ := hrel
    have HB := Lib.hid hb
    obtain ⟨D, hD⟩ : ∃ D, callsP ts zm i = D := ⟨_, rfl⟩
    rw [hD] at hown
    by_cases hlt : i < nm
    · have hil : (i : Int) < (nm : Int) := by omega
      have hDl : D.length ≤ 900 := by rw [← hD]; have := callsP_length ts zm i; omega
      have hDm : ∀ y ∈ D, y < nm := fun y hy => by rw [← hD] at hy; have := callsP_mem ts zm i y hy; omega
      have HDm := Lib.hid hDm
      obtain ⟨q, g, o, hq, hqz, ham, hg, hc⟩ := (HMM.out.on hb).row hlt
      have hnx1 := callsP_skip ts zm i q hq
      have hnx2 := callsP_put ts zm i q hq
      rw [hD] at hnx1 hnx2
      have HNx1 := Lib.hid hnx1
      have HNx2 := Lib.hid hnx2
      have HC := Lib.hid hc
      have HBox := Lib.hid (md_box wr q.1)
      have hbn := (Below.refl wr.heap.size wr).alloc (Nat.le_refl _) (.cells (mdCells q.1).toArray 45)
      have HOwn := Lib.hid (hown.alloc (.cells (mdCells q.1).toArray 45))
      have HB2 := Lib.hid (hb.trans (hbn.mono hb.size))
      have HXl0 := Lib.hid (show wr.heap.size < (wr.alloc (.cells (mdCells q.1).toArray 45)).heap.size by rw [World.size_alloc]; omega)
      clear hown hb hbn hD hnx1 hnx2 hq hqz hc hDm
      subst ham
      go_upto_region 6 with (first | ((with_reducible refine wpList_loadM rfl _ rfl _ _ _ HC.out ?_ ?_); rfl) | ((with_reducible refine wpList_storeM rfl _ _ rfl _ q.1 ?_ ?_ ?_); rfl; rfl))
      try go_frame
      obtain ⟨xb, hxb⟩ : ∃ x, wr.heap.size = x := ⟨_, rfl⟩
      rw [hxb] at HBox HXl0
      simp only [hxb]
      generalize wr.alloc (.cells (mdCells q.1).toArray 45) = w2 at *
      have HX := Lib.hid (show MdCellsAt w2 xb 0 q.1 from HBox.out)
      have HXl := Lib.hid (show xb < w2.heap.size from HXl0.out)
      clear HBox HC hxb HXl0
      have d0 := HX.out.1
      have d7 := HX.out.2.2.2.2.2.2.2.1
      have d10 := HX.out.2.2.2.2.2.2.2.2.2.2.1
      obtain ⟨b0, hb0⟩ : ∃ b, okC ts q.1 = b := ⟨_, rfl⟩
      have HB0 := Lib.hid hb0
      clear hb0
      go_cut [34] (fun s34 wx => s34 = .bool (!b0) ∧ w2 = wx)
      case first =>
        by_cases h1 : q.1.ts = ts
        · have e1 : ((q.1.ts : Int) == (ts : Int)) = true := by simp [h1]
          have e1' : ((q.1.ts : Int) != (ts : Int)) = false := by simp [h1]
          cases hdn : q.1.dn with
          | true =>
            rw [hdn] at d7
            by_cases h2 : q.1.err = 0
            · have e2 : (q.1.err == 0) = true := by simp [h2]
              have e2' : (q.1.err != 0) = false := by simp [h2]
              have HX0 := Lib.hid (show b0 = true by rw [← HB0.out]; unfold okC; rw [hdn]; simp [h1, h2])
              clear hdn h2 h1
              go_wp2_with fail
              go_meet
              exact ⟨by rw [HX0.out]; try rfl, rfl⟩
            · have e2 : (q.1.err == 0) = false := by simp [h2]
              have e2' : (q.1.err != 0) = true := by simp [h2]
              have HX0 := Lib.hid (show b0 = false by rw [← HB0.out]; unfold okC; rw [hdn]; simp [h2])
              clear hdn h2 h1
              go_wp2_with fail
              go_meet
              exact ⟨by rw [HX0.out]; try rfl, rfl⟩
          | false =>
            rw [hdn] at d7
            have HX0 := Lib.hid (show b0 = false by rw [← HB0.out]; unfold okC; rw [hdn]; simp)
            clear hdn h1
            go_wp2_with fail
            go_meet
            exact ⟨by rw [HX0.out]; try rfl, rfl⟩
        · have e1 : ((q.1.ts : Int) == (ts : Int)) = false := by simp; omega
          have e1' : ((q.1.ts : Int) != (ts : Int)) = true := by simp; omega
          have HX0 := Lib.hid (show b0 = false by rw [← HB0.out]; unfold okC; simp [h1])
          clear h1
          go_wp2_with fail
          go_meet
          exact ⟨by rw [HX0.out]; try rfl, rfl⟩
      obtain ⟨rfl, rfl⟩ := hcut
      clear d0 d7 d10
      cases b0 with
      | false =>
        have HNx3 := Lib.hid (HNx1.out HB0.out)
        go_wp2_with fail
        go_roundw
        case rel => exact ⟨i + 1, by omega, by go_num, by rw [HNx3.out]; exact HOwn.out, HB2.out⟩
        case measure => simp [intOf]; omega
      | true =>
        have HPut := Lib.hid (HNx2.out HB0.out)
        obtain ⟨qn, hqn⟩ : ∃ t, q.1.n = t := ⟨_, rfl⟩
        have HQn := Lib.hid (show ∀ w', Below w2.heap.size w2 w' → w'.cell? ⟨xb, 1, none⟩ = some (.int .i64 qn) from fun w' hb => by
          rw [hb.cell (p := ⟨xb, 1, none⟩) HXl.out, ← hqn]
          exact HX.out.2.1)
        rw [hqn] at HPut
        obtain ⟨aD, cD, rfl⟩ := own_slice HOwn.out
        have HDr := Lib.hid (own_rows HOwn.out).1
        have HMr := Lib.hid (HMM.out.on HB2.out)
        obtain ⟨ln, hln⟩ : ∃ x, D.length = x := ⟨_, rfl⟩
        rw [hln] at HOwn HDr hDl HPut
        simp only [hln]
        have HLn := Lib.hid hln
        clear hln hqn HNx1 HNx2
        go_upto_block 2 with fail
        go_cut [8] (fun s8 wx => ∃ k : Nat, k ≤ ln ∧ s8 = .int .i64 k ∧ (∀ j y, k ≤ j → D[j]? = some y → qn < nAt zm y) ∧ (∀ y, 0 < k → D[k - 1]? = some y → ¬ qn < nAt zm y) ∧ Below w2.heap.size w2 wx)
        case first =>
          go_wp2_with fail
          go_loopw [8] (fun s8 wr => ∃ k : Nat, k ≤ ln ∧ s8 = .int .i64 k ∧ (∀ j y, k ≤ j → D[j]? = some y → qn < nAt zm y) ∧ Below w2.heap.size w2 wr) (fun s8 _ => (intOf s8).toNat)
          case atStart => exact ⟨ln, Nat.le_refl _, rfl, (fun j y hj h => by rw [List.getElem?_eq_none (by have := HLn.out; omega)] at h; cases h), Below.refl _ _⟩
          case round =>
            obtain ⟨k, hk, rfl, hle, hb⟩ := hrel
            have HLe := Lib.hid hle
            have HBj := Lib.hid hb
            clear hle hb
            by_cases hk0 : 0 < k
            · have hki : (k : Int) > 0 := by omega
              obtain ⟨j, hj⟩ : ∃ j, j + 1 = k := ⟨k - 1, by omega⟩
              have hji : (k : Int) - 1 = (j : Int) := by omega
              have hwj : IntKind.i64.wrap (j : Int) = (j : Int) := IntWalk.i64_in _ (by omega)
              have hjl : (j : Int) < (ln : Int) := by omega
              obtain ⟨y, hy⟩ : ∃ y, D[j]? = some y := ⟨_, List.getElem?_eq_getElem (by have := HLn.out; omega)⟩
              have HY := Lib.hid hy
              have hyn : y < nm := HDm.out y (List.mem_of_getElem? hy)
              have hyi : (y : Int) < (nm : Int) := by omega
              obtain ⟨gD, oD, e9, hgD, hcD⟩ := (HDr.out.on HBj.out).at_ (by omega)
              have d0 := hcD j _ (i64s_nth D j y hy)
              subst e9
              obtain ⟨q2, g2, o2, hq2, _, e8, hg2, hc2⟩ := (HMr.out.on HBj.out).row hyn
              simp only [Option.some.injEq, Addr.mk.injEq, and_true] at e8
              obtain ⟨rfl, rfl⟩ := e8
              have d1 := hc2.2.1
              obtain ⟨y2, hy2⟩ : ∃ t, q2.1.n = t := ⟨_, rfl⟩
              rw [hy2] at d1
              have HN2 := Lib.hid (show nAt zm y = y2 by unfold nAt; rw [hq2]; exact hy2)
              have HF := Lib.hid (show ∀ w', Below wr.heap.size wr w' → (w'.cell? ⟨gD, oD + j, none⟩ = some (.int .i64 (y : Nat)) ∧ w'.cell? ⟨g, o + y * 16 + 1, none⟩ = some (.int .i64 y2) ∧ w'.cell? ⟨xb, 1, none⟩ = some (.int .i64 qn)) from fun w' hb => ⟨by rw [hb.cell (p := ⟨gD, oD + j, none⟩) hgD]; exact d0, by rw [hb.cell (p := ⟨g, o + y * 16 + 1, none⟩) hg2]; exact d1, HQn.out w' (HBj.out.trans (hb.mono HBj.out.size))⟩)
              clear hcD d0 hy hc2 hq2 d1 hy2 hg2 hgD
              have HJ := Lib.hid hj
              clear hj
              by_cases hyt : qn < y2
              · have hyi2 : y2 > qn := hyt
                have HNl := Lib.hid (show ∀ j' y', j ≤ j' → D[j']? = some y' → qn < nAt zm y' from fun j' y' h1 h2 => by
                  by_cases hjj : j' = j
                  · subst hjj; rw [HY.out] at h2; cases h2; rw [HN2.out]; exact hyt
                  · exact HLe.out j' y' (by have := HJ.out; omega) h2)
                clear hyt
                go_upto_region 8 with fail
                refine wp_region_settle (Below wr.heap.size wr) (by kernel_rfl) (by kernel_rfl) (by kernel_rfl) (below_drew (Below.refl _ _)) ?_
                repeat (first
                  | (refine settled_not ?_ ?_
                     · rfl
                     simp only [Act.put, List.setIfInBounds_toArray, List.set_cons_zero, List.set_cons_succ])
                  | (refine settled_val (v := ?_) ?_ (fun w' hS => ?_) ?_
                     rotate_left
                     · rfl
                     · obtain ⟨k0, k1, k2⟩ := HF.out w' hS
                       go_simp
                       with_reducible rfl
                     simp only [Act.put, List.setIfInBounds_toArray, List.set_cons_zero, List.set_cons_succ]))
                refine settled_nil (fun w8 hS => ?_)
                have HE := Lib.hid (HBj.out.trans (hS.mono HBj.out.size))
                clear hS
                go_wp2_with fail
                go_roundw
                case rel => exact ⟨j, by omega, rfl, HNl.out, HE.out⟩
                case measure => simp [intOf]; have := HJ.out; omega
              · have hyi2 : ¬ y2 > qn := hyt
                have HNl := Lib.hid (show ∀ y', 0 < k → D[k - 1]? = some y' → ¬ qn < nAt zm y' from fun y' _ h => by
                  rw [show k - 1 = j by have := HJ.out; omega, HY.out] at h
                  cases h
                  rw [HN2.out]
                  exact hyt)
                clear hyt
                go_upto_region 8 with fail
                refine wp_region_settle (Below wr.heap.size wr) (by kernel_rfl) (by kernel_rfl) (by kernel_rfl) (below_drew (Below.refl _ _)) ?_
                repeat (first
                  | (refine settled_not ?_ ?_
                     · rfl
                     simp only [Act.put, List.setIfInBounds_toArray, List.set_cons_zero, List.set_cons_succ])
                  | (refine settled_val (v := ?_) ?_ (fun w' hS => ?_) ?_
                     rotate_left
                     · rfl
                     · obtain ⟨k0, k1, k2⟩ := HF.out w' hS
                       go_simp
                       with_reducible rfl
                     simp only [Act.put, List.setIfInBounds_toArray, List.set_cons_zero, List.set_cons_succ]))
                refine settled_nil (fun w8 hS => ?_)
                have HE := Lib.hid (HBj.out.trans (hS.mono HBj.out.size))
                clear hS
                go_wp2_with fail
                go_meet
                exact ⟨k, by omega, rfl, HLe.out, HNl.out, HE.out⟩
            · have hki : ¬ (k : Int) > 0 := by omega
              have HNl := Lib.hid (show ∀ y', 0 < k → D[k - 1]? = some y' → ¬ qn < nAt zm y' from fun y' h _ => absurd h hk0)
              go_upto_region 8 with fail
              refine wp_region_settle (Below wr.heap.size wr) (by kernel_rfl) (by kernel_rfl) (by kernel_rfl) (below_drew (Below.refl _ _)) ?_
              repeat (first
                | (refine settled_not ?_ ?_
                   · rfl
                   simp only [Act.put, List.setIfInBounds_toArray, List.set_cons_zero, List.set_cons_succ])
                | (refine settled_val (v := ?_) ?_ (fun w' hS => ?_) ?_
                   rotate_left
                   · rfl
                   · skip
                     go_simp
                     with_reducible rfl
                   simp only [Act.put, List.setIfInBounds_toArray, List.set_cons_zero, List.set_cons_succ]))
              refine settled_nil (fun w8 hS => ?_)
              have HE := Lib.hid (HBj.out.trans (hS.mono HBj.out.size))
              clear hS
              go_wp2_with fail
              go_meet
              exact ⟨k, by omega, rfl, HLe.out, HNl.out, HE.out⟩
        rename World => w3
        obtain ⟨j, hj, rfl, hle, hge, hb3⟩ := hcut
        have HNx3 := Lib.hid (HPut.out j hj hle hge)
        have HOw4 := Lib.hid (ownsRow_mod HOwn.out (Mod.of_below hb3 (S := [])) (by simp))
        have HTop9 := Lib.hid (HB2.out.trans (hb3.mono HB2.out.size))
        clear hle hge hb3 HPut HDr HMr
        have HD' := Lib.hid (show (D.take j ++ i :: D.drop j).length = ln + 1 from by rw [List.length_append, List.length_cons, List.length_take, List.length_drop, HLn.out]; omega)
        obtain ⟨hcap, a1, c1, w5, hrun1, hb5, a2, c2, w6, hrun2, hb6, hall⟩ := ins3 60 3 60 _ 8 Tryz.underlying60 info_int rfl (by decide) HOw4.out (by omega) (by have := HTop9.out.size; exact this) (i64s_one D) j hj (.int .i64 (i : Nat)) rfl
        rw [i64s_ins] at hall
        have HAll := Lib.hid hall
        have hj0 : (0 : Int) ≤ (j : Int) := by omega
        have hjc : (j : Int) ≤ (cD : Int) := by omega
        have hjln : (j : Int) ≤ (ln : Int) := by omega
        have hlc : (ln : Int) ≤ (cD : Int) := by omega
        have HFo := Lib.hid (own_form HOw4.out)
        clear hall hb5 hb6
        rcases HFo.out with ⟨hs, hz⟩ | ⟨gD, cD', hs, hgB, hgl, _⟩
        · simp only [Value.slice.injEq] at hs
          obtain ⟨rfl, _, rfl⟩ := hs
          subst hz
          have hj00 : j = 0 := by omega
          subst hj00
          obtain ⟨a3, c3, w7, hrun3, hown, hb7⟩ := HAll.out none 0 (fun h0 => by omega)
          skip
          have HO7 := Lib.hid hown
          have HTop7 := Lib.hid (HTop9.out.trans (hb7.mono HTop9.out.size))
          clear hown hb7 HAll
          go_upto_region 12 with (at_builtin; (with_reducible refine wpList_append_run rfl _ _ _ rfl _ _ _ _ ?_ ?_ hrun1 ?_); rfl; rfl)
          clear hrun1
          go_upto_region 13 with (at_builtin; (with_reducible refine wpList_append_run rfl _ _ _ rfl _ _ _ _ ?_ ?_ hrun2 ?_); rfl; rfl)
          clear hrun2
          go_wp2_with (at_builtin; (with_reducible refine wpList_append_run rfl _ _ _ rfl _ _ _ _ ?_ ?_ hrun3 ?_); rfl; rfl)
          clear hrun3
          go_roundw
          case rel => exact ⟨i + 1, by omega, by go_num, by rw [HNx3.out, HD'.out]; exact HO7.out, HTop7.out⟩
          case measure => simp [intOf]; omega
        · simp only [Value.slice.injEq, true_and] at hs
          obtain ⟨rfl, rfl⟩ := hs
          by_cases hcj : cD = j
          · have hcj2 : (cD : Int) = (j : Int) := by omega
            by_cases hj00 : j = 0
            · subst hj00
              subst hcj
              obtain rfl : ln = 0 := by omega
              obtain ⟨a3, c3, w7, hrun3, hown, hb7⟩ := HAll.out (some ⟨gD, 0, none⟩) 0 (fun h0 => by omega)
              skip
              have HO7 := Lib.hid hown
              have HTop7 := Lib.hid (HTop9.out.trans (hb7.mono HTop9.out.size))
              clear hown hb7 HAll
              go_upto_region 12 with (at_builtin; (with_reducible refine wpList_append_run rfl _ _ _ rfl _ _ _ _ ?_ ?_ hrun1 ?_); rfl; rfl)
              clear hrun1
              go_upto_region 13 with (at_builtin; (with_reducible refine wpList_append_run rfl _ _ _ rfl _ _ _ _ ?_ ?_ hrun2 ?_); rfl; rfl)
              clear hrun2
              go_wp2_with (at_builtin; (with_reducible refine wpList_append_run rfl _ _ _ rfl _ _ _ _ ?_ ?_ hrun3 ?_); rfl; rfl)
              clear hrun3
              go_roundw
              case rel => exact ⟨i + 1, by omega, by go_num, by rw [HNx3.out, HD'.out]; exact HO7.out, HTop7.out⟩
              case measure => simp [intOf]; omega
            · have hj01 : ¬ (j : Int) = 0 := by omega
              subst hcj
              obtain rfl : ln = cD := by omega
              obtain ⟨a3, c3, w7, hrun3, hown, hb7⟩ := HAll.out (some ⟨gD, 0, none⟩) 0 (fun h0 => by omega)
              rw [Nat.sub_self] at hrun3
              have HO7 := Lib.hid hown
              have HTop7 := Lib.hid (HTop9.out.trans (hb7.mono HTop9.out.size))
              clear hown hb7 HAll
              go_upto_region 12 with (at_builtin; (with_reducible refine wpList_append_run rfl _ _ _ rfl _ _ _ _ ?_ ?_ hrun1 ?_); rfl; rfl)
              clear hrun1
              go_upto_region 13 with (at_builtin; (with_reducible refine wpList_append_run rfl _ _ _ rfl _ _ _ _ ?_ ?_ hrun2 ?_); rfl; rfl)
              clear hrun2
              go_wp2_with (at_builtin; (with_reducible refine wpList_append_run rfl _ _ _ rfl _ _ _ _ ?_ ?_ hrun3 ?_); rfl; rfl)
              clear hrun3
              go_roundw
              case rel => exact ⟨i + 1, by omega, by go_num, by rw [HNx3.out, HD'.out]; exact HO7.out, HTop7.out⟩
              case measure => simp [intOf]; omega
          · have hcj2 : ¬ (cD : Int) = (j : Int) := by omega
            obtain ⟨a3, c3, w7, hrun3, hown, hb7⟩ := HAll.out (some ⟨gD, j, none⟩) (cD - j) (fun _ => ⟨gD, rfl, rfl⟩)
            skip
            have HO7 := Lib.hid hown
            have HTop7 := Lib.hid (HTop9.out.trans (hb7.mono HTop9.out.size))
            clear hown hb7 HAll
            go_upto_region 12 with (at_builtin; (with_reducible refine wpList_append_run rfl _ _ _ rfl _ _ _ _ ?_ ?_ hrun1 ?_); rfl; rfl)
            clear hrun1
            go_upto_region 13 with (at_builtin; (with_reducible refine wpList_append_run rfl _ _ _ rfl _ _ _ _ ?_ ?_ hrun2 ?_); rfl; rfl)
            clear hrun2
            go_wp2_with (at_builtin; (with_reducible refine wpList_append_run rfl _ _ _ rfl _ _ _ _ ?_ ?_ hrun3 ?_); rfl; rfl)
            clear hrun3
            go_roundw
            case rel => exact ⟨i + 1, by omega, by go_num, by rw [HNx3.out, HD'.out]; exact HO7.out, HTop7.out⟩
            case measure => simp [intOf]; omega
    · have hil : ¬ (i : Int) < (nm : Int) := by omega
      have hE := callsP_all ts zm i (by have := HMM.out.len; omega)
      rw [hD] at hE
      obtain ⟨a3, c3, rfl⟩ := own_slice hown
      have HE := Lib.hid (show PlacesEnd (callsL ts zm) w (.returned (.slice a3 D.length c3)) wr from by
        rw [← hE]
        exact ⟨a3, c3, rfl, (own_rows hown).1, (own_rows hown).2, hb⟩)
      clear hown hb hE hD HB
      go_wp2_with fail
      go_ret
      exact HE.out
end Go.Proofs.YtffianjbljgnaaaGreat

/-! ### RfPut -/
namespace Go.Proofs.YtffianjbljgnaaaGreat
set_option linter.unusedVariables false
set_option linter.unusedSimpArgs false
open Go.RowKit Go.Maps

theorem rput_step (M : List KV) (k v : Txt) (done : Bool) (i : Nat) (p : KV) (h : M[i]? = some p) : rput (M.drop i) k v done = if p.1 = k then rput (M.drop (i + 1)) k v done else if done = false ∧ k < p.1 then (k, v) :: p :: rput (M.drop (i + 1)) k v true else p :: rput (M.drop (i + 1)) k v done := by
  obtain ⟨h1, rfl⟩ := List.getElem?_eq_some_iff.1 h
  rw [List.drop_eq_getElem_cons h1]
  rfl
/-- What put hands back: a row of its own. -/
def PutREnd (P : List KV) (w : World) (e : Ending) (w' : World) : Prop :=
  ∃ (a : Option Addr) (c : Nat), e = .returned (.slice a P.length c) ∧ RowsAt w' a P.length c 2 (pairsCells P) ∧ (∀ g, (Value.slice a P.length c).ownBlock = some g → w.heap.size ≤ g ∧ g < w'.heap.size) ∧ Below w.heap.size w w'
/-- What the loop of put has gathered. -/
structure PutSt (w0 w : World) (v : Value) (D : List KV) : Prop where
  own : w.ownsRow w0.heap.size 76 2 v D.length (pairsCells D)
  below : Below w0.heap.size w0 w
theorem PutSt.start (w : World) : PutSt w w (.slice none 0 0) [] := ⟨⟨rfl, .inl ⟨rfl, rfl⟩⟩, Below.refl _ _⟩
theorem PutSt.add {w0 w : World} {v : Value} {D : List KV} (h : PutSt w0 w v D) (hD : D.length ≤ 900000) (p : KV) :
    ∃ v' w', (Builtin.append_ #[41, 41] 41 #[v, .slice (some ⟨w.heap.size, 0, none⟩) 1 1]).run Tryz.prog (w.alloc (.cells #[.string ⟨p.1.toArray⟩, .string ⟨p.2.toArray⟩] 76)) = .ok v' w' ∧ PutSt w0 w' v' (D ++ [p]) := by
  have hbn := (Below.refl w.heap.size w).alloc (Nat.le_refl _) (.cells #[.string ⟨p.1.toArray⟩, .string ⟨p.2.toArray⟩] 76)
  obtain ⟨v', w', hrun, hown', hmod, hblk⟩ := own_append 41 76 41 _ 2 32 Tryz.underlying41 info_pair rfl (by decide) (by decide) (h.own.alloc (.cells #[.string ⟨p.1.toArray⟩, .string ⟨p.2.toArray⟩] 76))
    (by omega) (by have := h.below.size; simp; omega) ⟨w.heap.size, 0, none⟩ 1 1 (pairCells p) (by omega) (by omega) rfl
    (fun i u hi => by rw [addr_add', Nat.zero_add, World.cell?_alloc_new]; simpa [pairCells] using hi)
    (by intro u hu; simp only [pairCells, List.mem_cons, List.not_mem_nil, or_false] at hu; rcases hu with rfl | rfl <;> rfl)
  refine ⟨v', w', hrun, ?_, ?_⟩
  · rw [List.length_append, pairs_append]
    simpa [pairsCells] using hown'
  · exact h.below.trans (((Mod.of_below hbn).trans hmod).below (fun x hx => (h.own.lt x (by simpa using hx)).1) h.below.size)
set_option maxRecDepth 100000 in
set_option maxHeartbeats 8000000 in
theorem putR_any (w : World) (a : Option Addr) (n c : Nat) (M : List KV) (h : RowsAt w a n c 2 (pairsCells M)) (hn : n = M.length) (hmax : n ≤ 100000) (k v : Txt) (del : Bool) :
    Calls Tryz.prog 25 #[.slice a n c, .string ⟨k.toArray⟩, .string ⟨v.toArray⟩, .bool del] w (PutREnd (rput M k v del) w) := by
  have HH := Lib.hid h
  have HN := Lib.hid hn
  have HSt := Lib.hid (PutSt.start w)
  clear h hn
  go_enter Tryz.func25, Tryz.ntmps25
  go_wp2_with fail
  go_loopw [9, 10, 11] (fun s9 s10 s11 wr => ∃ (i : Nat) (D : List KV) (done : Bool), i ≤ n ∧ s11 = .int .i64 i ∧ s10 = .bool done ∧ D.length ≤ 2 * i ∧ rput M k v del = D ++ rput (M.drop i) k v done ∧ PutSt w wr s9 D) (fun _ _ s11 _ => n - (intOf s11).toNat)
  case atStart => exact ⟨0, [], del, by omega, rfl, rfl, by simp, by simp, HSt.out⟩
  case round =>
    clear HSt
    obtain ⟨i, D, done, hi, rfl, rfl, hDl, hR, hS⟩ := hrel
    have HS := Lib.hid hS
    have HR := Lib.hid hR
    have HDl := Lib.hid hDl
    clear hS hR hDl
    by_cases hlt : i < n
    · have hil : (i : Int) < (n : Int) := by omega
      obtain ⟨p, g, o, hp, _, rfl, hg, c0, c1⟩ := pairs_row (HH.out.on HS.out.below) HN.out hlt
      have HSp := Lib.hid (rput_step M k v done i p hp)
      have HP := Lib.hid hp
      have HG := Lib.hid hg
      have HC0 := Lib.hid c0
      have HC1 := Lib.hid c1
      obtain ⟨pk, pv⟩ := p
      simp only at c0 c1 HSp HC0 HC1 HP
      clear hp hg
      by_cases hk : pk = k
      · have e1 : ((⟨pk.toArray⟩ : ByteArray) == ⟨k.toArray⟩) = true := by rw [bytes_beq]; simp [hk]
        have e2 : (pk == k) = true := by simp [hk]
        have HX := Lib.hid (show rput M k v del = D ++ rput (M.drop (i + 1)) k v done by rw [HR.out, HSp.out, if_pos hk])
        clear hk HR HSp
        go_wp2_with fail
        go_roundw
        case rel => exact ⟨i + 1, D, done, by omega, by go_num, rfl, by have := HDl.out; omega, HX.out, HS.out⟩
        case measure => simp [intOf]; omega
      · have e1 : ((⟨pk.toArray⟩ : ByteArray) == ⟨k.toArray⟩) = false := by rw [bytes_beq]; simp [hk]
        have e2 : (pk == k) = false := by simp [hk]
        cases done with
        | true =>
          have HX := Lib.hid (show rput M k v del = (D ++ [(pk, pv)]) ++ rput (M.drop (i + 1)) k v true by rw [HR.out, HSp.out, if_neg hk, if_neg (by simp)]; simp)
          clear hk HR HSp
          obtain ⟨v', w', hrun, hS'⟩ := (HS.out).add (by have := HDl.out; omega) (pk, pv)
          have HS' := Lib.hid hS'
          clear hS'
          go_wp2_with (at_builtin; (with_reducible refine wpList_append_run rfl _ _ _ rfl _ _ _ _ ?_ ?_ hrun ?_); rfl; rfl)
          go_roundw
          case rel => exact ⟨i + 1, _, true, by omega, by go_num, rfl, by have := HDl.out; rw [List.length_append]; simp only [List.length_cons, List.length_nil]; omega, HX.out, HS'.out⟩
          case measure => simp [intOf]; omega
        | false =>
          by_cases hkp : k < pk
          · have f1 : Op.bytesLess pk k = false := by rw [Go.Proofs.bytesLess_eq]; exact decide_eq_false (fun h => txt_lt_irrefl k (txt_lt_trans hkp h))
            have HX := Lib.hid (show rput M k v del = ((D ++ [(k, v)]) ++ [(pk, pv)]) ++ rput (M.drop (i + 1)) k v true by rw [HR.out, HSp.out, if_neg hk, if_pos ⟨rfl, hkp⟩]; simp)
            clear hk hkp HR HSp
            obtain ⟨v1, w1, hrun, hS1⟩ := HS.out.add (by have := HDl.out; omega) (k, v)
            have HS1 := Lib.hid hS1
            have HB1 := Lib.hid (show Below w.heap.size w w1 from hS1.below)
            clear hS1
            go_upto_region 10 with (at_builtin; (with_reducible refine wpList_append_run rfl _ _ _ rfl _ _ _ _ ?_ ?_ hrun ?_); rfl; rfl)
            clear hrun c0 c1
            obtain ⟨p2, g2, o2, hp2, _, e2', hg2, c0, c1⟩ := pairs_row (HH.out.on HB1.out) HN.out hlt
            rw [HP.out] at hp2
            cases hp2
            cases e2'
            simp only at c0 c1
            clear hg2
            obtain ⟨v', w', hrun, hS'⟩ := (HS1.out).add (by have := HDl.out; rw [List.length_append]; simp only [List.length_cons, List.length_nil]; omega) (pk, pv)
            have HS' := Lib.hid hS'
            clear hS'
            go_wp2_with (at_builtin; (with_reducible refine wpList_append_run rfl _ _ _ rfl _ _ _ _ ?_ ?_ hrun ?_); rfl; rfl)
            go_roundw
            case rel => exact ⟨i + 1, _, true, by omega, by go_num, rfl, by have := HDl.out; rw [List.length_append, List.length_append]; simp only [List.length_cons, List.length_nil]; omega, HX.out, HS'.out⟩
            case measure => simp [intOf]; omega
          · have f1 : Op.bytesLess pk k = true := by rw [Go.Proofs.bytesLess_eq]; exact decide_eq_true (Classical.byContradiction fun h => hkp (txt_lt_of h hk))
            have HX := Lib.hid (show rput M k v del = (D ++ [(pk, pv)]) ++ rput (M.drop (i + 1)) k v false by rw [HR.out, HSp.out, if_neg hk, if_neg (fun h => hkp h.2)]; simp)
            clear hk hkp HR HSp
            obtain ⟨v', w', hrun, hS'⟩ := (HS.out).add (by have := HDl.out; omega) (pk, pv)
            have HS' := Lib.hid hS'
            clear hS'
            go_wp2_with (at_builtin; (with_reducible refine wpList_append_run rfl _ _ _ rfl _ _ _ _ ?_ ?_ hrun ?_); rfl; rfl)
            go_roundw
            case rel => exact ⟨i + 1, _, false, by omega, by go_num, rfl, by have := HDl.out; rw [List.length_append]; simp only [List.length_cons, List.length_nil]; omega, HX.out, HS'.out⟩
            case measure => simp [intOf]; omega
    · have hil : ¬ (i : Int) < (n : Int) := by omega
      have hR := HR.out
      rw [List.drop_eq_nil_of_le (by have := HN.out; omega)] at hR
      cases done with
      | true =>
        have HX := Lib.hid (show rput M k v del = D from by rw [hR]; exact List.append_nil D)
        clear hR HR
        obtain ⟨a3, c3, rfl⟩ := own_slice HS.out.own
        have HE := Lib.hid (show PutREnd (rput M k v del) w (.returned (.slice a3 D.length c3)) wr from by
          rw [HX.out]
          exact ⟨a3, c3, rfl, (own_rows HS.out.own).1, HS.out.own.lt, HS.out.below⟩)
        go_wp2_with fail
        go_ret
        exact HE.out
      | false =>
        have HX := Lib.hid (show rput M k v del = D ++ [(k, v)] from hR)
        clear hR HR
        obtain ⟨v1, w1, hrun, hS1⟩ := HS.out.add (by have := HDl.out; omega) (k, v)
        have HO1 := hS1.own
        obtain ⟨a3, c3, rfl⟩ := own_slice hS1.own
        have HE := Lib.hid (show PutREnd (rput M k v del) w (.returned (.slice a3 (D ++ [(k, v)]).length c3)) w1 from by
          rw [HX.out]
          exact ⟨a3, c3, rfl, (own_rows hS1.own).1, hS1.own.lt, hS1.below⟩)
        clear hS1 HO1
        obtain ⟨ln, hln⟩ : ∃ x, (D ++ [(k, v)]).length = x := ⟨_, rfl⟩
        rw [hln] at hrun HE
        clear hln
        go_wp2_with (at_builtin; (with_reducible refine wpList_append_run rfl _ _ _ rfl _ _ _ _ ?_ ?_ hrun ?_); rfl; rfl)
        go_ret
        exact HE.out
end Go.Proofs.YtffianjbljgnaaaGreat

/-! ### RfWrote -/
namespace Go.Proofs.YtffianjbljgnaaaGreat
set_option linter.unusedVariables false
set_option linter.unusedSimpArgs false
open Go.RowKit Go.Maps

theorem info_recR : (Tryz.prog.info? 68).map (fun i => (i.zero, i.size, i.bytes)) = some (some (.agg #[.string ⟨#[]⟩, .int .u64 0, .bool false, .string ⟨#[]⟩]), 4, 48) := by kernel_rfl
theorem recs_appendR (l m : List Rec) : recsCells (l ++ m) = recsCells l ++ recsCells m := by unfold recsCells; rw [List.flatMap_append]
theorem recs_oneR (l : List Rec) : ∀ u ∈ recsCells l, u.oneCell' = true := by
  intro u hu
  unfold recsCells at hu
  obtain ⟨r, _, hr⟩ := List.mem_flatMap.1 hu
  simp only [recCells, List.mem_cons, List.not_mem_nil, or_false] at hr
  rcases hr with rfl | rfl | rfl | rfl <;> rfl
theorem setR_atR {W : List Rec} {r q : Rec} {i : Nat} (h : ∀ p ∈ W.take i, p.key ≠ r.key) (hq : W[i]? = some q) (hk : q.key = r.key) : setR W r = W.set i r := by
  induction W generalizing i with
  | nil => simp at hq
  | cons p t ih =>
    unfold setR
    cases i with
    | zero =>
      simp only [List.getElem?_cons_zero, Option.some.injEq] at hq
      subst hq
      rw [if_pos hk]; rfl
    | succ i =>
      rw [if_neg (h p (by simp)), ih (i := i) (fun x hx => h x (by simp [hx])) (by simpa using hq)]; rfl
theorem setR_endR {W : List Rec} {r : Rec} (h : ∀ p ∈ W, p.key ≠ r.key) : setR W r = W ++ [r] := by
  induction W with
  | nil => rfl
  | cons p t ih =>
    unfold setR
    rw [if_neg (h p (by simp)), ih (fun x hx => h x (by simp [hx]))]; rfl
theorem recs_setR (W : List Rec) (i : Nat) (r : Rec) : ((((recsCells W).set (i * 4) (.string ⟨r.key.toArray⟩)).set (i * 4 + 1) (.int .u64 (r.lsn : Nat))).set (i * 4 + 2) (.bool r.del)).set (i * 4 + 3) (.string ⟨r.val.toArray⟩) = recsCells (W.set i r) := by
  induction W generalizing i with
  | nil => simp [recsCells]
  | cons q t ih =>
    cases i with
    | zero => rfl
    | succ i =>
      have e : (i + 1) * 4 = i * 4 + 4 := by omega
      have := ih i
      rw [e, List.set_cons_succ]
      show (((((recCells q ++ recsCells t)).set (i * 4 + 4) _).set (i * 4 + 4 + 1) _).set (i * 4 + 4 + 2) _).set (i * 4 + 4 + 3) _ = recCells q ++ recsCells (t.set i r)
      rw [← this]
      rfl
/-- A cell of a row that is owned is stored. -/
theorem own_setR {w : World} {B g i : Nat} {e : TypeId} {size : Nat} {v u : Value} {n : Nat} {xs : List Value} (h : w.ownsRow B e size v n xs) (hg : v.ownBlock = some g) : (w.setCell ⟨g, i, none⟩ u).ownsRow B e size v n (xs.set i u) := by
  obtain ⟨h1, h2⟩ := h
  refine ⟨by rw [List.length_set]; exact h1, ?_⟩
  rcases h2 with ⟨rfl, rfl⟩ | ⟨g', cap, cur, rfl, hb, hh, hc1, hc2, hs, ht⟩
  · cases hg
  · simp only [Value.ownBlock, Option.some.injEq] at hg
    subst hg
    right
    have hB : Blk w g' cur.toList e := by unfold Blk; rw [hh]
    have hB2 := hB.set i u
    unfold Blk at hB2
    exact ⟨g', cap, _, rfl, hb, hB2, hc1, hc2, by simp [hs], by rw [List.toList_toArray, List.take_set, ht]⟩
/-- What last ends with. -/
def WroteEnd (B : Nat) (v : Value) (W : List Rec) (w : World) (e : Ending) (w' : World) : Prop :=
  ∃ v', e = .returned v' ∧ w'.ownsRow B 68 4 v' W.length (recsCells W) ∧ Mod v.ownBlock.toList w w' ∧ ∀ x, v'.ownBlock = some x → v.ownBlock = some x ∨ w.heap.size ≤ x
set_option maxRecDepth 100000 in
set_option maxHeartbeats 4000000 in
theorem wroteR_any (w : World) (B : Nat) (v : Value) (W : List Rec) (hown : w.ownsRow B 68 4 v W.length (recsCells W)) (hB : B ≤ w.heap.size) (hW : W.length ≤ 1000) (k : Txt) (l : Nat) (d : Bool) (x : Txt) :
    Calls Tryz.prog 26 #[v, .agg #[.string ⟨k.toArray⟩, .int .u64 (l : Nat), .bool d, .string ⟨x.toArray⟩]] w (WroteEnd B v (setR W ⟨k, l, d, x⟩) w) := by
  obtain ⟨a, c, rfl⟩ := own_slice hown
  have hb0 := (Below.refl w.heap.size w).alloc (Nat.le_refl _) (.cells #[.string ⟨k.toArray⟩, .int .u64 (l : Nat), .bool d, .string ⟨x.toArray⟩] 68)
  have hR : Blk (w.alloc (.cells #[.string ⟨k.toArray⟩, .int .u64 (l : Nat), .bool d, .string ⟨x.toArray⟩] 68)) w.heap.size (recCells ⟨k, l, d, x⟩) 68 := Blk.new w (recCells ⟨k, l, d, x⟩) _
  have hO1 := hown.alloc (.cells #[.string ⟨k.toArray⟩, .int .u64 (l : Nat), .bool d, .string ⟨x.toArray⟩] 68)
  have hs1 : (w.alloc (.cells #[.string ⟨k.toArray⟩, .int .u64 (l : Nat), .bool d, .string ⟨x.toArray⟩] 68)).heap.size = w.heap.size + 1 := by simp
  have HLt := Lib.hid hown.lt
  go_enter Tryz.func26, Tryz.ntmps26
  go_upto_region 1 with fail
  generalize w.alloc (.cells #[.string ⟨k.toArray⟩, .int .u64 (l : Nat), .bool d, .string ⟨x.toArray⟩] 68) = w1 at *
  have HB0 := Lib.hid hb0
  have HR := Lib.hid hR
  have HO1 := Lib.hid hO1
  have hs0 : w.heap.size < w1.heap.size := by omega
  have HS1 := Lib.hid hs1
  clear hb0 hR hO1 hown hs1
  go_wp2_with fail
  go_loopw [5] (fun s5 wr => ∃ i : Nat, i ≤ W.length ∧ s5 = .int .i64 i ∧ (∀ p ∈ W.take i, p.key ≠ k) ∧ Below w1.heap.size w1 wr) (fun s5 _ => W.length - (intOf s5).toNat)
  case atStart => exact ⟨0, by omega, rfl, by simp, Below.refl _ _⟩
  case round =>
    obtain ⟨i, hi, rfl, hne, hb⟩ := hrel
    by_cases hlt : i < W.length
    · have hil : (i : Int) < (W.length : Int) := by omega
      have how := ownsRow_mod HO1.out (Mod.of_below (S := []) hb) (by simp)
      obtain ⟨hrows, _⟩ := own_rows how
      obtain ⟨r, g, o, hr, hrl, rfl, hg, d0, d1, d2, d3⟩ := recs_row hrows rfl hlt
      obtain ⟨g', cap', rest, eq1, hg1, hc1, hc2, hblk⟩ := owns_blk how (by omega)
      have eqa : g = g' ∧ o = 0 := by simp at eq1; exact eq1.1
      obtain ⟨rfl, rfl⟩ := eqa
      rw [Nat.zero_add] at d0 d1 d2 d3
      have hgw := HLt.out g rfl
      have hRr := HR.out.on hb
      have HF := Lib.hid (show ∀ w', Below wr.heap.size wr w' → (w'.cell? ⟨g, i * 4, none⟩ = some (.string ⟨r.key.toArray⟩) ∧ w'.cell? ⟨w.heap.size, 0, none⟩ = some (.string ⟨k.toArray⟩)) from
        fun w' h => ⟨(h.cell (p := ⟨g, i * 4, none⟩) hg).trans d0, by rw [(hRr.on h).cell]; rfl⟩)
      have e1 := bytes_beq r.key k
      have hsz := hb.size
      by_cases hk : r.key = k
      · have HSet := Lib.hid (show setR W ⟨k, l, d, x⟩ = W.set i ⟨k, l, d, x⟩ from setR_atR (fun p hp => hne p hp) hr hk)
        have HOw := Lib.hid how
        have HBw := Lib.hid hb
        have HRr := Lib.hid hRr
        rw [decide_eq_true hk] at e1
        have e2 : (r.key == k) = true := by simp [hk]
        clear hk hne hrows hr hrl how hb d0 d1 d2 d3 hRr hblk
        go_upto_region 4 with fail
        refine wp_region_settle (Below wr.heap.size wr) (by kernel_rfl) (by kernel_rfl) (by kernel_rfl) (below_drew (Below.refl _ _)) ?_
        repeat (first
          | (refine settled_not ?_ ?_
             · rfl
             simp only [Act.put, List.setIfInBounds_toArray, List.set_cons_zero, List.set_cons_succ])
          | (refine settled_val (v := ?_) ?_ (fun w' hS => ?_) ?_
             rotate_left
             · rfl
             · obtain ⟨k0, k1⟩ := HF.out w' hS
               go_simp
               with_reducible rfl
             simp only [Act.put, List.setIfInBounds_toArray, List.set_cons_zero, List.set_cons_succ]))
        refine settled_nil (fun w2 hS => ?_)
        have hOw2 := ownsRow_mod HOw.out (Mod.of_below (S := []) hS) (by simp)
        obtain ⟨g2, cap2, rest2, eq2, _, _, _, hblk2⟩ := owns_blk hOw2 (by omega)
        have eqb : g = g2 := by simp at eq2; exact eq2.1
        subst eqb
        have hR2 := HRr.out.on hS
        have hl4 : i * 4 + 3 < (recsCells W).length := by rw [recs_length]; omega
        obtain ⟨c0, h0⟩ : ∃ c0, w2.cell? ⟨g, i * 4, none⟩ = some c0 := ⟨_, by rw [hblk2.cell, List.getElem?_append_left (by omega), List.getElem?_eq_getElem (by omega)]⟩
        obtain ⟨c1, h1⟩ : ∃ c0, w2.cell? ⟨g, i * 4 + 1, none⟩ = some c0 := ⟨_, by rw [hblk2.cell, List.getElem?_append_left (by omega), List.getElem?_eq_getElem (by omega)]⟩
        obtain ⟨c2', h2⟩ : ∃ c0, w2.cell? ⟨g, i * 4 + 2, none⟩ = some c0 := ⟨_, by rw [hblk2.cell, List.getElem?_append_left (by omega), List.getElem?_eq_getElem (by omega)]⟩
        obtain ⟨c3, h3⟩ : ∃ c0, w2.cell? ⟨g, i * 4 + 3, none⟩ = some c0 := ⟨_, by rw [hblk2.cell, List.getElem?_append_left (by omega), List.getElem?_eq_getElem (by omega)]⟩
        have z0 := hblk2.free (i * 4)
        have z1 := hblk2.free (i * 4 + 1)
        have z2 := hblk2.free (i * 4 + 2)
        have z3 := hblk2.free (i * 4 + 3)
        have r0 : w2.cell? ⟨w.heap.size, 0, none⟩ = some (.string ⟨k.toArray⟩) := by rw [hR2.cell]; rfl
        have r1 : w2.cell? ⟨w.heap.size, 1, none⟩ = some (.int .u64 (l : Nat)) := by rw [hR2.cell]; rfl
        have r2 : w2.cell? ⟨w.heap.size, 2, none⟩ = some (.bool d) := by rw [hR2.cell]; rfl
        have r3 : w2.cell? ⟨w.heap.size, 3, none⟩ = some (.string ⟨x.toArray⟩) := by rw [hR2.cell]; rfl
        have hW4 := own_setR (u := .string ⟨x.toArray⟩) (i := i * 4 + 3) (own_setR (u := .bool d) (i := i * 4 + 2) (own_setR (u := .int .u64 (l : Nat)) (i := i * 4 + 1) (own_setR (u := .string ⟨k.toArray⟩) (i := i * 4) hOw2 rfl) rfl) rfl) rfl
        rw [recs_setR W i ⟨k, l, d, x⟩, ← HSet.out] at hW4
        have hm4 : Mod [g] w2 ((((w2.setCell ⟨g, i * 4, none⟩ (.string ⟨k.toArray⟩)).setCell ⟨g, i * 4 + 1, none⟩ (.int .u64 (l : Nat))).setCell ⟨g, i * 4 + 2, none⟩ (.bool d)).setCell ⟨g, i * 4 + 3, none⟩ (.string ⟨x.toArray⟩)) :=
          ((((Mod.refl _ _).setCell _ _ (.inl (by simp))).setCell _ _ (.inl (by simp))).setCell _ _ (.inl (by simp))).setCell _ _ (.inl (by simp))
        have hmw : Mod [g] w w2 := (Mod.of_below HB0.out).trans ((Mod.of_below HBw.out).trans (Mod.of_below hS))
        have HE := Lib.hid (show WroteEnd B (.slice (some ⟨g, 0, none⟩) W.length c) (setR W ⟨k, l, d, x⟩) w (.returned (.slice (some ⟨g, 0, none⟩) W.length c)) ((((w2.setCell ⟨g, i * 4, none⟩ (.string ⟨k.toArray⟩)).setCell ⟨g, i * 4 + 1, none⟩ (.int .u64 (l : Nat))).setCell ⟨g, i * 4 + 2, none⟩ (.bool d)).setCell ⟨g, i * 4 + 3, none⟩ (.string ⟨x.toArray⟩)) from
          ⟨_, rfl, by have hl : (setR W ⟨k, l, d, x⟩).length = W.length := by rw [HSet.out, List.length_set]
                      rw [hl]; exact hW4, hmw.trans hm4, fun y hy => .inl hy⟩)
        clear hW4 hm4 hmw hOw2 hblk2 hR2 hS HF
        go_wp2_with fail
        go_ret
        exact HE.out
      · rw [decide_eq_false hk] at e1
        have e2 : (r.key == k) = false := by simp [hk]
        have HNe := Lib.hid (show ∀ p ∈ W.take (i + 1), p.key ≠ k from fun p hp => by
          rw [List.take_add_one, hr] at hp
          rcases List.mem_append.1 hp with hp | hp
          · exact hne p hp
          · simp only [Option.toList_some, List.mem_singleton] at hp; subst hp; exact hk)
        have HBw := Lib.hid hb
        clear hk hne hrows hr hrl how hb d0 d1 d2 d3 hRr hblk
        go_upto_region 4 with fail
        refine wp_region_settle (Below wr.heap.size wr) (by kernel_rfl) (by kernel_rfl) (by kernel_rfl) (below_drew (Below.refl _ _)) ?_
        repeat (first
          | (refine settled_not ?_ ?_
             · rfl
             simp only [Act.put, List.setIfInBounds_toArray, List.set_cons_zero, List.set_cons_succ])
          | (refine settled_val (v := ?_) ?_ (fun w' hS => ?_) ?_
             rotate_left
             · rfl
             · obtain ⟨k0, k1⟩ := HF.out w' hS
               go_simp
               with_reducible rfl
             simp only [Act.put, List.setIfInBounds_toArray, List.set_cons_zero, List.set_cons_succ]))
        refine settled_nil (fun w2 hS => ?_)
        have HB2 := Lib.hid (HBw.out.trans (hS.mono HBw.out.size))
        clear hS HF
        go_wp2_with fail
        go_roundw
        case rel => exact ⟨i + 1, by omega, by go_num, HNe.out, HB2.out⟩
        case measure => simp [intOf]; omega
    · have hge : ¬ (i : Int) < (W.length : Int) := by omega
      have hin : i = W.length := by omega
      have HSet := Lib.hid (show setR W ⟨k, l, d, x⟩ = W ++ [⟨k, l, d, x⟩] from setR_endR (fun p hp => hne p (by rw [hin, List.take_of_length_le (Nat.le_refl _)]; exact hp)))
      have how := ownsRow_mod HO1.out (Mod.of_below (S := []) hb) (by simp)
      have hR2 := HR.out.on hb
      have r0 : wr.cell? ⟨w.heap.size, 0, none⟩ = some (.string ⟨k.toArray⟩) := by rw [hR2.cell]; rfl
      have r1 : wr.cell? ⟨w.heap.size, 1, none⟩ = some (.int .u64 (l : Nat)) := by rw [hR2.cell]; rfl
      have r2 : wr.cell? ⟨w.heap.size, 2, none⟩ = some (.bool d) := by rw [hR2.cell]; rfl
      have r3 : wr.cell? ⟨w.heap.size, 3, none⟩ = some (.string ⟨x.toArray⟩) := by rw [hR2.cell]; rfl
      have hbn := (Below.refl wr.heap.size wr).alloc (Nat.le_refl _) (.cells #[.string ⟨k.toArray⟩, .int .u64 (l : Nat), .bool d, .string ⟨x.toArray⟩] 68)
      have hN : Blk (wr.alloc (.cells #[.string ⟨k.toArray⟩, .int .u64 (l : Nat), .bool d, .string ⟨x.toArray⟩] 68)) wr.heap.size (recsCells [⟨k, l, d, x⟩]) 68 := Blk.new wr (recsCells [⟨k, l, d, x⟩]) _
      obtain ⟨v', w', hrun, hown', hmod, hblk⟩ := own_append 34 68 34 _ 4 48 Tryz.underlying34 info_recR rfl (by decide) (by decide) (how.alloc (.cells #[.string ⟨k.toArray⟩, .int .u64 (l : Nat), .bool d, .string ⟨x.toArray⟩] 68))
        (by omega) (by have := hb.size; simp; omega) ⟨wr.heap.size, 0, none⟩ 1 1 (recsCells [⟨k, l, d, x⟩]) (by omega) (by omega) rfl
        (fun j u hj => by rw [addr_add', Nat.zero_add, hN.cell]; exact hj) (recs_oneR _)
      rw [← recs_appendR, ← HSet.out] at hown'
      have HE := Lib.hid (show WroteEnd B (.slice a W.length c) (setR W ⟨k, l, d, x⟩) w (.returned v') w' from ⟨v', rfl, by
        have hl : (setR W ⟨k, l, d, x⟩).length = W.length + 1 := by rw [HSet.out]; simp
        rw [hl]; exact hown', ((Mod.of_below HB0.out).trans (Mod.of_below hb)).trans ((Mod.of_below hbn).trans hmod), fun y hy => by
        rcases hblk y hy with h | h
        · exact .inl h
        · have := HB0.out.size; have := hb.size; simp at h; omega⟩)
      clear hown' hmod hblk hN hbn how hR2 hne hb
      go_wp2_with (at_builtin; (with_reducible refine wpList_append_run rfl _ _ _ rfl _ _ _ _ ?_ ?_ hrun ?_); rfl; rfl)
      go_ret
      exact HE.out
end Go.Proofs.YtffianjbljgnaaaGreat
