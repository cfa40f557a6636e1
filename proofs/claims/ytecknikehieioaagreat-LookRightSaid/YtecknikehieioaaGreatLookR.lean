/-
  Texts folded into one: LookT, SortK, LookR.
-/
import Derived.Test.YtecknikehieioaaGreatLookP
import Derived.Test.YtecknikehieioaaGreatMem
import Derived.Test.YtecknikehieioaaGreatSortU
import Derived.Shelf.SlSortCmp.InsertionK
import Derived.Sort.LotA
import Derived.Test.YtecknikehieioaaGreatSerial
import Derived.Test.YtecknikehieioaaGreatOrder

/-! ### LookT -/
namespace Go.Proofs.YtecknikehieioaaGreat
set_option linter.unusedVariables false
set_option linter.unusedSimpArgs false
open Go.RowKit Go.Maps

/-- Operations as a history makes them. -/
structure GoodA (A : List Rec) : Prop where
  asc : A.Pairwise fun a b => a.lsn < b.lsn
  pos : ∀ r ∈ A, 1 ≤ r.lsn ∧ r.lsn ≤ 100
  key : ∀ r ∈ A, ∃ c : Nat, 97 ≤ c ∧ c < 102 ∧ r.key = [UInt8.ofNat c]
  val : ∀ r ∈ A, r.del = false → r.val.length = 1
def zeroR0 : Rec := ⟨[], 0, false, []⟩
/-- The last operation on a key. -/
def bestF (k : Txt) (b r : Rec) : Rec := if r.key = k then r else b
def bestA (A : List Rec) (k : Txt) : Rec := A.foldl (bestF k) zeroR0
def hereA (A : List Rec) (c : Nat) : List Rec := if 0 < (bestA A [UInt8.ofNat c]).lsn ∧ (bestA A [UInt8.ofNat c]).del = false then [bestA A [UInt8.ofNat c]] else []
def treeN (A : List Rec) (m : Nat) : List Rec := (List.range' 97 m).flatMap (hereA A)
theorem treeN_next (A : List Rec) (m : Nat) : treeN A (m + 1) = treeN A m ++ hereA A (97 + m) := by
  unfold treeN
  rw [List.range'_concat, List.flatMap_append, Nat.one_mul]
  simp
theorem best_cases (A : List Rec) (k : Txt) : (bestA A k = zeroR0 ∧ ∀ r ∈ A, r.key ≠ k) ∨ (bestA A k ∈ A ∧ (bestA A k).key = k) := by
  have : ∀ (A : List Rec) (b : Rec), (A.foldl (bestF k) b = b ∧ ∀ r ∈ A, r.key ≠ k) ∨ (A.foldl (bestF k) b ∈ A ∧ (A.foldl (bestF k) b).key = k) := by
    intro A
    induction A with
    | nil => intro b; exact .inl ⟨rfl, by simp⟩
    | cons r t ih =>
      intro b
      rw [List.foldl_cons]
      rcases ih (bestF k b r) with ⟨h1, h2⟩ | ⟨h1, h2⟩
      · rw [h1]
        unfold bestF
        by_cases e : r.key = k
        · rw [if_pos e]; exact .inr ⟨by simp, e⟩
        · rw [if_neg e]
          refine .inl ⟨rfl, fun q hq => ?_⟩
          rcases List.mem_cons.1 hq with rfl | hq
          · exact e
          · exact h2 q hq
      · exact .inr ⟨List.mem_cons_of_mem _ h1, h2⟩
  exact this A zeroR0
theorem best_last {A : List Rec} (h : A.Pairwise fun a b => a.lsn < b.lsn) (k : Txt) : ∀ r ∈ A, r.key = k → r.lsn ≤ (bestA A k).lsn := by
  have : ∀ (A : List Rec) (b : Rec), A.Pairwise (fun a b => a.lsn < b.lsn) → (∀ r ∈ A, b.lsn < r.lsn) → b.lsn ≤ (A.foldl (bestF k) b).lsn ∧ ∀ r ∈ A, r.key = k → r.lsn ≤ (A.foldl (bestF k) b).lsn := by
    intro A
    induction A with
    | nil => intro b _ _; exact ⟨Nat.le_refl _, by simp⟩
    | cons r t ih =>
      intro b ha hb
      obtain ⟨h1, h2⟩ := List.pairwise_cons.1 ha
      rw [List.foldl_cons]
      have hbr := hb r (by simp)
      obtain ⟨i1, i2⟩ := ih (bestF k b r) h2 (fun q hq => by
        unfold bestF
        split
        · exact h1 q hq
        · exact hb q (List.mem_cons_of_mem _ hq))
      refine ⟨?_, fun q hq hk => ?_⟩
      · refine Nat.le_trans ?_ i1
        unfold bestF
        split <;> omega
      · rcases List.mem_cons.1 hq with rfl | hq
        · unfold bestF at i1
          rw [if_pos hk] at i1
          unfold bestF
          rw [if_pos hk]
          exact i1
        · exact i2 q hq hk
  rcases List.eq_nil_or_concat A with rfl | _
  · simp
  · intro r hr hk
    cases A with
    | nil => cases hr
    | cons a t =>
      obtain ⟨h1, h2⟩ := List.pairwise_cons.1 h
      unfold bestA
      rw [List.foldl_cons]
      by_cases e : a.key = k
      · obtain ⟨i1, i2⟩ := this t (bestF k zeroR0 a) h2 (fun q hq => by unfold bestF; rw [if_pos e]; exact h1 q hq)
        rcases List.mem_cons.1 hr with rfl | hr
        · refine Nat.le_trans ?_ i1
          unfold bestF
          rw [if_pos e]; exact Nat.le_refl _
        · exact i2 r hr hk
      · have e0 : bestF k zeroR0 a = zeroR0 := by unfold bestF; rw [if_neg e]
        rw [e0]
        rcases List.mem_cons.1 hr with rfl | hr
        · exact absurd hk e
        · exact (this t zeroR0 h2 (fun q hq => Nat.lt_of_le_of_lt (Nat.zero_le _) (h1 q hq))).2 r hr hk
theorem asc_eq {A : List Rec} (h : A.Pairwise fun a b => a.lsn < b.lsn) {x y : Rec} (hx : x ∈ A) (hy : y ∈ A) (e : x.lsn = y.lsn) : x = y := by
  induction A with
  | nil => cases hx
  | cons a t ih =>
    obtain ⟨h1, h2⟩ := List.pairwise_cons.1 h
    rcases List.mem_cons.1 hx with rfl | hx <;> rcases List.mem_cons.1 hy with rfl | hy
    · rfl
    · have := h1 y (by assumption); omega
    · have := h1 x (by assumption); omega
    · exact ih h2 (by assumption) (by assumption)
theorem hereA_mem (A : List Rec) (c : Nat) (r : Rec) : r ∈ hereA A c ↔ r = bestA A [UInt8.ofNat c] ∧ 0 < r.lsn ∧ r.del = false := by
  unfold hereA
  split
  · rename_i h
    rw [List.mem_singleton]
    constructor
    · rintro rfl; exact ⟨rfl, h⟩
    · exact fun h => h.1
  · rename_i h
    constructor
    · intro hr; cases hr
    · rintro ⟨rfl, h2⟩; exact absurd h2 h
/-- What a tree has. -/
theorem treeN_mem (A : List Rec) (m : Nat) (r : Rec) : r ∈ treeN A m ↔ ∃ c, 97 ≤ c ∧ c < 97 + m ∧ r = bestA A [UInt8.ofNat c] ∧ 0 < r.lsn ∧ r.del = false := by
  unfold treeN
  rw [List.mem_flatMap]
  constructor
  · rintro ⟨c, hc, hr⟩
    rw [List.mem_range'_1] at hc
    exact ⟨c, hc.1, hc.2, (hereA_mem A c r).1 hr⟩
  · rintro ⟨c, h1, h2, h3⟩
    exact ⟨c, List.mem_range'_1.2 ⟨h1, h2⟩, (hereA_mem A c r).2 h3⟩
theorem treeN_in {A : List Rec} {m : Nat} {r : Rec} (h : r ∈ treeN A m) : r ∈ A ∧ r.del = false ∧ ∃ c, 97 ≤ c ∧ c < 97 + m ∧ r.key = [UInt8.ofNat c] ∧ r = bestA A r.key := by
  obtain ⟨c, h1, h2, h3, h4, h5⟩ := (treeN_mem A m r).1 h
  rcases best_cases A [UInt8.ofNat c] with ⟨e, _⟩ | ⟨e1, e2⟩
  · rw [h3, e] at h4; exact absurd h4 (by decide)
  · refine ⟨by rw [h3]; exact e1, h5, c, h1, h2, by rw [h3]; exact e2, ?_⟩
    conv => lhs; rw [h3]
    rw [show r.key = [UInt8.ofNat c] by rw [h3]; exact e2]
theorem key_lt {a b : Nat} (ha : a < 256) (hb : b < 256) (h : a < b) : ([UInt8.ofNat a] : Txt) < [UInt8.ofNat b] := by
  refine List.Lex.rel ?_
  rw [UInt8.lt_iff_toNat_lt]
  simp only [UInt8.toNat_ofNat']
  omega
theorem treeN_asc (A : List Rec) (m : Nat) (hm : m ≤ 5) : (treeN A m).Pairwise fun a b => a.key < b.key := by
  induction m with
  | zero => exact List.Pairwise.nil
  | succ m ih =>
    rw [treeN_next]
    refine List.pairwise_append.2 ⟨ih (by omega), ?_, fun a ha b hb => ?_⟩
    · unfold hereA
      split <;> simp
    · obtain ⟨_, _, c, h1, h2, h3, _⟩ := treeN_in ha
      obtain ⟨e1, e2, e3⟩ := (hereA_mem A _ b).1 hb
      rcases best_cases A [UInt8.ofNat (97 + m)] with ⟨e, _⟩ | ⟨_, e⟩
      · rw [e1, e] at e2; exact absurd e2 (by decide)
      · rw [h3, e1, e]
        exact key_lt (by omega) (by omega) (by omega)
theorem isR_mem {A : List Rec} {r : Rec} : isR A r = true ↔ r ∈ A := by
  unfold isR
  rw [List.any_eq_true]
  constructor
  · rintro ⟨q, hq, h⟩; rw [← of_decide_eq_true h]; exact hq
  · intro h; exact ⟨r, h, by simp⟩
/-- A list in order, all of it of A: nothing is wrong. -/
theorem scanT_ok (st : Nat) (A : List Rec) : ∀ (N : List Rec) (p : Option Rec) (i : Nat), (∀ r ∈ N, r ∈ A) → N.Pairwise (fun a b => a.key < b.key) → (∀ q, p = some q → ∀ r ∈ N, q.key < r.key) → scanT st A p i N = -1 := by
  intro N
  induction N with
  | nil => intro _ _ _ _ _; rfl
  | cons r t ih =>
    intro p i hA hp hq
    obtain ⟨h1, h2⟩ := List.pairwise_cons.1 hp
    unfold scanT
    rw [if_neg, ih (some r) (i + 1) (fun x hx => hA x (List.mem_cons_of_mem _ hx)) h2 (fun q e x hx => by cases e; exact h1 x hx)]
    unfold badT
    rw [isR_mem.2 (hA r (by simp))]
    cases p with
    | none => simp
    | some q => simp [hq q rfl r (by simp)]
theorem firstR_none (f : Rec → Bool) (l : List Rec) (i : Nat) (h : ∀ r ∈ l, f r = false) : firstR f i l = -1 := by
  induction l generalizing i with
  | nil => rfl
  | cons r t ih =>
    unfold firstR
    rw [h r (by simp), if_neg (by decide)]
    exact ih _ (fun q hq => h q (List.mem_cons_of_mem _ hq))
theorem firstR_some (f : Rec → Bool) (l : List Rec) (i : Nat) (h : ∃ r ∈ l, f r = true) : 0 ≤ firstR f i l := by
  induction l generalizing i with
  | nil => obtain ⟨r, hr, _⟩ := h; cases hr
  | cons r t ih =>
    unfold firstR
    split
    · omega
    · rename_i hf
      obtain ⟨q, hq, h1⟩ := h
      rcases List.mem_cons.1 hq with rfl | hq
      · exact absurd h1 hf
      · exact ih _ ⟨q, hq, h1⟩
theorem tree_all {A : List Rec} (h : GoodA A) : treeL true 100 100 100 (treeN A 5) A = -1 := by
  have h1 : scanT 100 A none 0 (treeN A 5) = -1 := scanT_ok _ _ _ _ _ (fun r hr => (treeN_in hr).1) (treeN_asc A 5 (by omega)) (fun q e => by cases e)
  have h2 : firstR (badO 100 100 100 (treeN A 5) A) 0 A = -1 := firstR_none _ _ _ fun x hx => by
    rw [badO_eq]
    unfold badD
    cases hd : x.del with
    | true => simp
    | false =>
      obtain ⟨c, c1, c2, ck⟩ := h.key x hx
      rcases best_cases A x.key with ⟨_, e⟩ | ⟨e1, e2⟩
      · exact absurd rfl (e x hx)
      · have hle := best_last h.asc x.key x hx rfl
        cases hb : (bestA A x.key).del with
        | true =>
          have hne : x.lsn ≠ (bestA A x.key).lsn := fun e => by
            have := asc_eq h.asc hx e1 e
            rw [this, hb] at hd; cases hd
          have : (A.any fun o => o.del && decide (o.key = x.key) && decide (x.lsn < o.lsn)) = true := List.any_eq_true.2 ⟨_, e1, by rw [hb, e2]; simp; omega⟩
          rw [this]; simp
        | false =>
          have hm : bestA A x.key ∈ treeN A 5 := (treeN_mem A 5 _).2 ⟨c, c1, by omega, by rw [ck], (h.pos _ e1).1, hb⟩
          have : ((treeN A 5).any fun o => decide (o.key = x.key) && decide (x.lsn ≤ o.lsn)) = true := List.any_eq_true.2 ⟨_, hm, by rw [e2]; simp [hle]⟩
          rw [this]; simp
  unfold treeL
  rw [h1, h2]
  rfl
/-- Where a record is not there, something is told. -/
theorem tree_gone {A : List Rec} (h : GoodA A) (k : Nat) (hk : k < (treeN A 5).length) : 0 ≤ treeL true 100 100 100 ((treeN A 5).take k ++ (treeN A 5).drop (k + 1)) A := by
  obtain ⟨N, hN⟩ : ∃ N, treeN A 5 = N := ⟨_, rfl⟩
  have hasc := treeN_asc A 5 (by omega)
  have hin : ∀ r ∈ N, _ := fun r hr => treeN_in (A := A) (m := 5) (r := r) (by rw [hN]; exact hr)
  rw [hN] at hk hasc ⊢
  have hsub : (N.take k ++ N.drop (k + 1)).Sublist N := by
    conv => rhs; rw [← List.take_append_drop k N, List.drop_eq_getElem_cons hk]
    exact (List.Sublist.refl _).append (List.sublist_cons_self _ _)
  have h1 : scanT 100 A none 0 (N.take k ++ N.drop (k + 1)) = -1 := scanT_ok _ _ _ _ _ (fun r hr => (hin r (hsub.subset hr)).1) (hasc.sublist hsub) (fun q e => by cases e)
  have hx : N[k] ∈ N := List.getElem_mem hk
  obtain ⟨x, hxe⟩ : ∃ x, N[k] = x := ⟨_, rfl⟩
  rw [hxe] at hx
  obtain ⟨i1, i2, c, c1, c2, c3, i3⟩ := hin x hx
  have h2 : 0 ≤ firstR (badO 100 100 100 (N.take k ++ N.drop (k + 1)) A) 0 A := firstR_some _ _ _ ⟨x, i1, by
    rw [badO_eq]
    unfold badD
    have e1 : ((N.take k ++ N.drop (k + 1)).any fun o => decide (o.key = x.key) && decide (x.lsn ≤ o.lsn)) = false := by
      rw [List.any_eq_false]
      intro o ho hc
      rw [Bool.and_eq_true] at hc
      have hkey := of_decide_eq_true hc.1
      have hsp : N.take k ++ x :: N.drop (k + 1) = N := by rw [← hxe, ← List.drop_eq_getElem_cons hk, List.take_append_drop]
      rw [← hsp] at hasc
      obtain ⟨p1, p2, p3⟩ := List.pairwise_append.1 hasc
      rcases List.mem_append.1 ho with ho | ho
      · have := p3 o ho x (by simp)
        rw [hkey] at this
        exact List.lt_irrefl _ this
      · have := (List.pairwise_cons.1 p2).1 o ho
        rw [hkey] at this
        exact List.lt_irrefl _ this
    have e2 : (A.any fun o => o.del && decide (o.key = x.key) && decide (x.lsn < o.lsn)) = false := by
      rw [List.any_eq_false]
      intro o ho hc
      rw [Bool.and_eq_true, Bool.and_eq_true] at hc
      have h3 := best_last h.asc x.key o ho (of_decide_eq_true hc.1.2)
      rw [← i3] at h3
      have := of_decide_eq_true hc.2
      omega
    have := (h.pos x i1).2
    rw [e1, e2, i2]
    simp
    omega⟩
  unfold treeL
  rw [h1, if_pos rfl, if_neg (by decide)]
  split <;> omega
/-- Where a record has another value, it is told. -/
theorem tree_spoilt {A : List Rec} (h : GoodA A) (k : Nat) (x : Rec) (hx : (treeN A 5)[k]? = some x) : treeL true 100 100 100 ((treeN A 5).set k { x with val := x.val ++ [120] }) A = k := by
  have hasc := treeN_asc A 5 (by omega)
  have hin : ∀ r ∈ treeN A 5, _ := fun r hr => treeN_in (A := A) (m := 5) (r := r) hr
  generalize treeN A 5 = N at *
  have h1 : ∀ (N : List Rec) (p : Option Rec) (i k : Nat), N[k]? = some x → (∀ r ∈ N, r ∈ A) → N.Pairwise (fun a b => a.key < b.key) → (∀ q, p = some q → ∀ r ∈ N, q.key < r.key) → scanT 100 A p i (N.set k { x with val := x.val ++ [120] }) = ((i + k : Nat) : Int) := by
    intro N
    induction N with
    | nil => intro _ _ _ h; simp at h
    | cons r t ih =>
      intro p i k hk hA hp hq
      obtain ⟨p1, p2⟩ := List.pairwise_cons.1 hp
      cases k with
      | zero =>
        simp only [List.getElem?_cons_zero, Option.some.injEq] at hk
        subst hk
        rw [List.set_cons_zero]
        unfold scanT
        rw [if_pos]
        · rfl
        · unfold badT
          have hr := hA r (by simp)
          have : isR A { r with val := r.val ++ [120] } = false := by
            cases hc : isR A { r with val := r.val ++ [120] } with
            | false => rfl
            | true =>
              have hm := isR_mem.1 hc
              have e := asc_eq h.asc hm hr rfl
              have := congrArg (fun r : Rec => r.val.length) e
              simp at this
          rw [this]
          have := (h.pos r hr).2
          simp
          omega
      | succ k =>
        simp only [List.getElem?_cons_succ] at hk
        rw [List.set_cons_succ]
        unfold scanT
        rw [if_neg, ih (some r) (i + 1) k hk (fun x hx => hA x (List.mem_cons_of_mem _ hx)) p2 (fun q e x hx => by cases e; exact p1 x hx)]
        · congr 1; omega
        · unfold badT
          rw [isR_mem.2 (hA r (by simp))]
          cases p with
          | none => simp
          | some q => simp [hq q rfl r (by simp)]
  have h2 := h1 N none 0 k hx (fun r hr => (hin r hr).1) hasc (fun q e => by cases e)
  unfold treeL
  rw [h2, if_pos rfl, if_pos (by omega)]
  simp
end Go.Proofs.YtecknikehieioaaGreat

/-! ### SortK -/
namespace Go.Proofs.YtecknikehieioaaGreat
set_option linter.unusedVariables false
set_option linter.unusedSimpArgs false
open Go.RowKit Go.Sort Go.Proofs

section
variable {α : Type} [Inhabited α]
theorem flatK_toList (enc : α → List Value) (k : Nat) (hk : ∀ x, (enc x).length = k) (hpos : 0 < k) (d : Array α) : (flatK enc k d).toList = d.toList.flatMap enc := by
  have key : ∀ (l : List α) (f : Nat → α), (∀ i, i < l.length → f i = l[i]!) → (List.range (l.length * k)).map (fun t => (enc (f (t / k)))[t % k]!) = l.flatMap enc := by
    intro l
    induction l with
    | nil => intro f _; simp
    | cons x t ih =>
      intro f hf
      have h0 : f 0 = x := by simpa using hf 0 (by simp)
      rw [List.length_cons, Nat.add_mul, Nat.one_mul, Nat.add_comm, List.range_add, List.map_append, List.flatMap_cons]
      congr 1
      · apply List.ext_getElem?
        intro i
        by_cases hi : i < k
        · rw [List.getElem?_map, List.getElem?_range hi]
          simp only [Option.map_some, Nat.div_eq_of_lt hi, Nat.mod_eq_of_lt hi, h0]
          rw [List.getElem!_eq_getElem?_getD, List.getElem?_eq_getElem (by rw [hk]; exact hi)]
          rfl
        · rw [List.getElem?_eq_none (by simp; omega), List.getElem?_eq_none (by rw [hk]; omega)]
      · rw [List.map_map, ← ih (fun i => f (i + 1)) (fun i hi => by simpa using hf (i + 1) (by simp; omega))]
        refine List.map_congr_left fun a _ => ?_
        show (enc (f ((k + a) / k)))[(k + a) % k]! = _
        rw [Nat.add_comm k a, Nat.add_div_right a hpos, Nat.add_mod_right]
  unfold flatK
  rw [Array.toList_map, Array.toList_range]
  have := key d.toList (fun i => d[i]!) (fun i hi => by rw [getElem!_pos d i (by simpa using hi), getElem!_pos d.toList i hi, Array.getElem_toList])
  simpa using this

theorem holdsK_of_blk (enc : α → List Value) (k : Nat) (hk : ∀ x, (enc x).length = k) (hpos : 0 < k) {w : World} {g : Nat} {T : TypeId} {rest : List Value} (d : Array α) (h : Blk w g (d.toList.flatMap enc ++ rest) T) : HoldsK enc k w g 0 d := by
  intro j hj
  refine ⟨?_, h.free _⟩
  rw [h.cell, Nat.zero_add]
  have e := flatK_toList enc k hk hpos d
  rw [← e, List.getElem?_append_left (by simpa using hj), Array.getElem?_toList, Array.getElem?_eq_getElem hj]
  rw [getElem!_pos (flatK enc k d) j hj]; rfl
theorem sortK_blk (enc : α → List Value) (k : Nat) (hk : ∀ x, (enc x).length = k) (hpos : 0 < k) {w : World} {g : Nat} {T : TypeId} {rest : List Value} (d d' : Array α) (hs : d'.size = d.size) (h : Blk w g (d.toList.flatMap enc ++ rest) T) (n : Nat) (os : Array Obj) :
    Blk (sortWorldK enc k w g 0 n d' os) g (d'.toList.flatMap enc ++ rest) T ∧ Mod [g] w (sortWorldK enc k w g 0 n d' os) := by
  have hg := h.lt
  constructor
  · unfold sortWorldK Blk
    rw [heap_grow_old _ _ (by rw [size_putRowK]; exact hg)]
    unfold Blk at h
    simp only [putRowK, putRow, mapBlock, Sort.ahead, Array.getElem?_modify, if_true, h, Option.map_some, onCells]
    congr 2
    apply Array.ext'
    have e := flatK_toList enc k hk hpos d'
    have e0 := flatK_toList enc k hk hpos d
    have l0 : (d.toList.flatMap enc).length = d.size * k := by rw [← e0, Array.length_toList, size_flatK]
    have l1 : (d'.toList.flatMap enc).length = d.size * k := by rw [← e, Array.length_toList, size_flatK, hs]
    apply List.ext_getElem?
    intro j
    rw [Array.getElem?_toList, Array.getElem?_toList]
    simp only [putCells, Array.getElem?_mapIdx, List.getElem?_toArray, Nat.zero_le, true_and, Nat.zero_add, Nat.sub_zero, size_flatK, hs, id]
    by_cases hj : j < d.size * k
    · rw [List.getElem?_append_left (by omega), List.getElem?_append_left (by omega), List.getElem?_eq_getElem (show j < (d.toList.flatMap enc).length by omega)]
      simp only [Option.map_some, if_pos hj]
      rw [← e, Array.getElem?_toList, Array.getElem?_eq_getElem (by rw [size_flatK, hs]; exact hj), getElem!_pos (flatK enc k d') j (by rw [size_flatK, hs]; exact hj)]
    · rw [List.getElem?_append_right (by omega), List.getElem?_append_right (by omega), l0, l1]
      simp only [if_neg hj]
      cases rest[j - d.size * k]? <;> rfl
  · refine ⟨rfl, rfl, rfl, ?_, fun b hb hn => ?_⟩
    · unfold sortWorldK; rw [size_grow, size_putRowK]; exact Nat.le_add_right _ _
    · unfold sortWorldK
      rw [heap_grow_old _ _ (by rw [size_putRowK]; exact hb)]
      have : g ≠ b := fun e => hn (by simp [e])
      simp [putRowK, putRow, mapBlock, Sort.ahead, Array.getElem?_modify, this]

theorem swp_list (L R : List α) (x y : α) (d : Array α) (h : d.toList = L ++ y :: x :: R) : (swp d (L.length + 1) L.length).toList = L ++ x :: y :: R := by
  have hsz : d.size = L.length + (R.length + 1 + 1) := by rw [← Array.length_toList, h]; simp
  have g1 : d[L.length]! = y := by
    rw [getElem!_pos d L.length (by omega), ← Array.getElem_toList]
    have : d.toList[L.length]? = some y := by rw [h]; simp
    exact (List.getElem?_eq_some_iff.1 this).2
  have g2 : d[L.length + 1]! = x := by
    rw [getElem!_pos d (L.length + 1) (by omega), ← Array.getElem_toList]
    have : d.toList[L.length + 1]? = some x := by rw [h, List.getElem?_append_right (by omega), Nat.add_sub_cancel_left]; rfl
    exact (List.getElem?_eq_some_iff.1 this).2
  unfold swp
  rw [g1, g2, Array.toList_setIfInBounds, Array.toList_setIfInBounds, h]
  rw [List.set_append_right _ _ (by omega), Nat.add_sub_cancel_left, List.set_append_right _ _ (by omega), Nat.sub_self]
  rfl
theorem insInner_list (lt : α → α → Bool) : ∀ (Q : List α) (x : α) (R : List α) (d : Array α), d.toList = Q.reverse ++ x :: R → (insInner lt 0 Q.length d).toList = (insRev lt x Q).reverse ++ R := by
  intro Q
  induction Q with
  | nil => intro x R d h; simpa [insInner, insRev] using h
  | cons y t ih =>
    intro x R d h
    have hd : d.toList = t.reverse ++ y :: x :: R := by rw [h]; simp
    have hsz : d.size = t.length + (R.length + 1 + 1) := by rw [← Array.length_toList, hd]; simp
    have g1 : d[t.length]! = y := by
      rw [getElem!_pos d t.length (by omega), ← Array.getElem_toList]
      have : d.toList[t.length]? = some y := by rw [hd]; simp
      exact (List.getElem?_eq_some_iff.1 this).2
    have g2 : d[t.length + 1]! = x := by
      rw [getElem!_pos d (t.length + 1) (by omega), ← Array.getElem_toList]
      have : d.toList[t.length + 1]? = some x := by rw [hd, List.getElem?_append_right (by simp), List.length_reverse, Nat.add_sub_cancel_left]; rfl
      exact (List.getElem?_eq_some_iff.1 this).2
    show (if (decide (t.length + 1 > 0) && lt d[t.length + 1]! d[t.length]!) = true then insInner lt 0 t.length (swp d (t.length + 1) t.length) else d).toList = _
    rw [g1, g2]
    unfold insRev
    by_cases hl : lt x y = true
    · rw [if_pos (by simp [hl]), if_pos hl]
      have hs := swp_list t.reverse R x y d hd
      rw [List.length_reverse] at hs
      rw [ih x (y :: R) _ hs]
      simp
    · rw [if_neg (by simp [hl]), if_neg hl, h]
      simp
theorem insOuter_list (lt : α → α → Bool) : ∀ (D : List α) (Q : List α) (d : Array α), d.toList = Q.reverse ++ D → (insOuter lt 0 d.size Q.length d).toList = (D.foldl (fun R x => insRev lt x R) Q).reverse := by
  intro D
  induction D with
  | nil =>
    intro Q d h
    have : d.size = Q.length := by rw [← Array.length_toList, h]; simp
    unfold insOuter
    rw [if_neg (by omega), h]; simp
  | cons x t ih =>
    intro Q d h
    have hsz : d.size = Q.length + (t.length + 1) := by rw [← Array.length_toList, h]; simp
    have hi := insInner_list lt Q x t d h
    have hsi : (insInner lt 0 Q.length d).size = d.size := by rw [← Array.length_toList, hi]; simp [insRev_length]; omega
    unfold insOuter
    rw [if_pos (by omega)]
    have := ih (insRev lt x Q) _ hi
    rw [insRev_length, hsi] at this
    rw [List.foldl_cons]
    exact this
theorem insertionSort_list (lt : α → α → Bool) (d : Array α) : (insertionSort lt d 0 d.size).toList = isort lt d.toList := by
  unfold insertionSort isort
  cases hd : d.toList with
  | nil =>
    have : d.size = 0 := by rw [← Array.length_toList, hd]; rfl
    unfold insOuter
    rw [if_neg (by omega), hd]; rfl
  | cons x t =>
    have := insOuter_list lt t [x] d (by rw [hd]; rfl)
    rw [show [x].length = 0 + 1 from rfl] at this
    rw [this]; rfl
end
theorem isort_map {α β : Type} (f : β → α) (lt : α → α → Bool) (l : List β) : isort lt (l.map f) = (isort (fun x y => lt (f x) (f y)) l).map f := by
  have h1 : ∀ (x : β) (Q : List β), insRev lt (f x) (Q.map f) = (insRev (fun x y => lt (f x) (f y)) x Q).map f := by
    intro x Q
    induction Q with
    | nil => rfl
    | cons y t ih =>
      unfold insRev
      rw [List.map_cons]
      dsimp only
      split
      · rw [List.map_cons, ih]
      · rfl
  have h2 : ∀ (l Q : List β), (l.map f).foldl (fun R x => insRev lt x R) (Q.map f) = (l.foldl (fun R x => insRev (fun x y => lt (f x) (f y)) x R) Q).map f := by
    intro l
    induction l with
    | nil => intro Q; rfl
    | cons x t ih => intro Q; rw [List.map_cons, List.foldl_cons, List.foldl_cons, h1, ih]
  unfold isort
  have := h2 l []
  rw [List.map_nil] at this
  rw [this, List.map_reverse]
end Go.Proofs.YtecknikehieioaaGreat

/-! ### LookR -/
namespace Go.Proofs.YtecknikehieioaaGreat
set_option linter.unusedVariables false
set_option linter.unusedSimpArgs false
open Go.RowKit Go.Maps
section
variable {α : Type} (key : α → Int)
def ltK (x y : α) : Bool := decide (key x < key y)
theorem insRevK_desc (x : α) (R : List α) (h : R.Pairwise fun a b => key b ≤ key a) : (insRev (ltK key) x R).Pairwise fun a b => key b ≤ key a := by
  induction R with
  | nil => simp [insRev]
  | cons y t ih =>
    obtain ⟨h1, h2⟩ := List.pairwise_cons.1 h
    unfold insRev
    by_cases hl : key x < key y
    · rw [if_pos (by simp [ltK, hl])]
      refine List.pairwise_cons.2 ⟨fun b hb => ?_, ih h2⟩
      rcases List.mem_cons.1 ((insRev_perm _ x t).mem_iff.1 hb) with rfl | hb
      · omega
      · exact h1 b hb
    · rw [if_neg (by simp [ltK, hl])]
      refine List.pairwise_cons.2 ⟨fun b hb => ?_, h⟩
      rcases List.mem_cons.1 hb with rfl | hb
      · omega
      · have := h1 b hb; omega
theorem isortK_sorted (d : List α) : (isort (ltK key) d).Pairwise fun a b => key a ≤ key b := by
  unfold isort
  rw [List.pairwise_reverse]
  have : ∀ (d R : List α), R.Pairwise (fun a b => key b ≤ key a) → (d.foldl (fun R x => insRev (ltK key) x R) R).Pairwise (fun a b => key b ≤ key a) := by
    intro d
    induction d with
    | nil => intro R h; exact h
    | cons x t ih => intro R h; rw [List.foldl_cons]; exact ih _ (insRevK_desc key x R h)
  exact this d [] List.Pairwise.nil
theorem sorted_unique {L L' : List α} (h : L.Pairwise fun a b => key a < key b) (h' : L'.Pairwise fun a b => key a ≤ key b) (hp : L'.Perm L) : L' = L := by
  induction L generalizing L' with
  | nil => exact hp.eq_nil
  | cons a t ih =>
    obtain ⟨h1, h2⟩ := List.pairwise_cons.1 h
    cases L' with
    | nil => have := hp.length_eq; simp at this
    | cons b t' =>
      obtain ⟨h3, h4⟩ := List.pairwise_cons.1 h'
      have e : b = a := by
        have a1 := hp.mem_iff.1 (List.mem_cons_self (a := b) (l := t'))
        have a2 := hp.mem_iff.2 (List.mem_cons_self (a := a) (l := t))
        rcases List.mem_cons.1 a1 with e | a1
        · exact e
        · rcases List.mem_cons.1 a2 with e | a2
          · exact e.symm
          · have := h1 b a1; have := h3 a a2; omega
      subst e
      rw [ih h2 h4 (List.perm_cons b |>.1 hp)]
theorem isort_unique {L d : List α} (h : L.Pairwise fun a b => key a < key b) (hp : d.Perm L) : isort (ltK key) d = L :=
  sorted_unique key h (isortK_sorted key d) ((isort_perm _ d).trans hp)
end
theorem inds_map (p : MZ → Bool) (z : List MZ) : ((List.range z.length).filter fun i => match z[i]? with | some q => p q | none => false).map (fun i => z[i]?) = (z.filter p).map some := by
  induction z with
  | nil => rfl
  | cons q t ih =>
    rw [List.length_cons, List.range_succ_eq_map, List.filter_cons]
    have e1 : ((List.map Nat.succ (List.range t.length)).filter fun i => match (q :: t)[i]? with | some q => p q | none => false) = ((List.range t.length).filter fun i => match t[i]? with | some q => p q | none => false).map Nat.succ := by
      rw [List.filter_map]
      congr 1
    have e2 : (((List.range t.length).filter fun i => match t[i]? with | some q => p q | none => false).map Nat.succ).map (fun i => (q :: t)[i]?) = (t.filter p).map some := by
      rw [List.map_map, ← ih]
      rfl
    rw [List.filter_cons]
    simp only [List.getElem?_cons_zero]
    by_cases hp : p q = true
    · rw [if_pos hp, if_pos hp, e1, List.map_cons, e2]; rfl
    · rw [if_neg hp, if_neg hp, e1, e2]
def nK (q : MZ) : Int := q.1.n
theorem calls_map (ts : Nat) (z : List MZ) : (callsL ts z).map (fun i => z[i]?) = (isort (ltK nK) (z.filter fun q => okC ts q.1)).map some := by
  let nO : Option MZ → Int := fun o => match o with | some q => q.1.n | none => 0
  have h1 := isort_map (fun i => z[i]?) (fun a b => decide (nO a < nO b)) (indsL ts z)
  have e1 : (fun x y : Nat => decide (nO z[x]? < nO z[y]?)) = fun x y => decide (nAt z x < nAt z y) := by
    funext x y
    have : ∀ x : Nat, nO z[x]? = nAt z x := fun x => by unfold nAt; cases z[x]? <;> rfl
    rw [this, this]
  rw [e1] at h1
  have h2 : (indsL ts z).map (fun i => z[i]?) = (z.filter fun q => okC ts q.1).map some := inds_map (fun q => okC ts q.1) z
  rw [h2, isort_map some] at h1
  unfold callsL
  rw [← h1]
  rfl
theorem inds_length (ts : Nat) (z : List MZ) : (indsL ts z).length = (z.filter fun q => okC ts q.1).length := by
  have := congrArg List.length (inds_map (fun q => okC ts q.1) z)
  rw [List.length_map, List.length_map] at this
  exact this
/-- Calls, run one behind the other, as long as they are right. -/
def runZ : List KV → List Rec → List MZ → Bool × List KV × List Rec
  | M, W, [] => (true, M, W)
  | M, W, q :: t => if rightB M q then runZ (rightM M q) (rightW W q) t else (false, M, W)
theorem runC_all {z : List MZ} {M M' : List KV} {W W' : List Rec} {is : List Nat} {g : List MZ} (h : is.map (fun i => z[i]?) = g.map some) (hr : runZ M W g = (true, M', W')) : runC z M W is = (none, M', W') := by
  induction is generalizing g M W with
  | nil =>
    cases g with
    | nil => unfold runZ at hr; simp only [Prod.mk.injEq, true_and] at hr; obtain ⟨rfl, rfl⟩ := hr; rfl
    | cons q t => simp at h
  | cons i t ih =>
    cases g with
    | nil => simp at h
    | cons q g =>
      simp only [List.map_cons, List.cons.injEq] at h
      unfold runZ at hr
      unfold runC
      rw [h.1]
      cases hb : rightB M q with
      | true => rw [if_pos hb] at hr; simp only [hb, if_true]; exact ih h.2 hr
      | false => rw [if_neg (by simp [hb])] at hr; cases hr
theorem filter_all {p : MZ → Bool} {l : List MZ} (h : ∀ q ∈ l, p q = true) : l.filter p = l := List.filter_eq_self.2 h
theorem filter_none {β : Type} {p : β → Bool} {l : List β} (h : ∀ q ∈ l, p q = false) : l.filter p = [] := List.filter_eq_nil_iff.2 fun q hq => by simp [h q hq]
theorem entsOf_eq (ez : List EZ) (hts : ∀ q ∈ ez, q.1.ts = q.2.ts) (ts : Nat) : entsOf ez ts = (ez.map (·.2)).filter fun x => decide (x.ts = ts) := by
  unfold entsOf ofZ
  rw [List.filter_map]
  congr 1
  refine List.filter_congr fun q hq => ?_
  simp only [Function.comp_apply, hts q hq]
theorem serialL_cons (z : List MZ) (ez : List EZ) (M : List KV) (ts : Nat) (t : List Nat) : serialL z ez M (ts :: t) = match runC z M [] (callsL ts z) with
    | (some i, _, _) => (i : Int)
    | (none, M2, W2) => if endedB W2 (entsOf ez ts) then serialL z ez M2 t else firstAt (askC ts) 0 z := rfl
theorem comm_mem (tss : List Nat) (z : List MZ) (x : Nat) : x ∈ commL tss z ↔ ∃ q ∈ z, okM tss q.1 = true ∧ q.1.ts = x := by
  have : ∀ (z : List MZ) (L : List Nat), x ∈ z.foldl (fun L q => if okM tss q.1 then insA q.1.ts L else L) L ↔ x ∈ L ∨ ∃ q ∈ z, okM tss q.1 = true ∧ q.1.ts = x := by
    intro z
    induction z with
    | nil => intro L; simp
    | cons q t ih =>
      intro L
      rw [List.foldl_cons, ih]
      cases h : okM tss q.1 with
      | true =>
        simp only [if_true, insA_mem, List.mem_cons, exists_eq_or_imp, h, true_and]
        constructor
        · rintro ((h | h) | h)
          · exact .inr (.inl h.symm)
          · exact .inl h
          · exact .inr (.inr h)
        · rintro (h | h | h)
          · exact .inl (.inr h)
          · exact .inl (.inl h.symm)
          · exact .inr h
      | false => simp [h]
  unfold commL
  rw [this]
  simp
/-! Histories in which one transaction runs behind the other -/
structure Wr where
  key : Nat
  val : Nat
  del : Bool
  lost : Bool
def kTxt (x : Wr) : Txt := [UInt8.ofNat (97 + x.key % 5)]
def vTxt (x : Wr) : Txt := if x.del then [] else [UInt8.ofNat (48 + x.val % 10)]
def beginH (i : Nat) : Md := ⟨i + 1, 0, 0, 0, [], [], [], true, i + 1, 0, 0, false, [], none, 0, 0, 4 * i, 4 * i⟩
def writeH (i : Nat) (x : Wr) : Md := ⟨i + 1, 1, if x.del then 4 else 3, i + 1, kTxt x, [], vTxt x, true, i + 1, 1, 0, false, [], none, 0, 0, 0, 0⟩
def comH (i : Nat) (x : Wr) : Md := ⟨i + 1, 2, 5, i + 1, [], [], [], !x.lost, if x.lost then 0 else i + 1, if x.lost then 0 else 2, 0, false, [], none, 0, 0, 4 * i + 2, 4 * i + 3⟩
def grpH (i : Nat) (x : Wr) : List MZ := [(beginH i, []), (writeH i x, []), (comH i x, [])]
def recH (n : Nat) (x : Wr) : Rec := ⟨kTxt x, n + 1, x.del, vTxt x⟩
def entH (i n : Nat) (x : Wr) : List Entry := if x.lost then [] else [⟨i + 1, n + 1, [recH n x]⟩]
inductive HW : List Wr → List MZ → List Entry → Prop
  | nil : HW [] [] []
  | snoc {l : List Wr} {Z : List MZ} {L : List Entry} (x : Wr) : HW l Z L → HW (l ++ [x]) (Z ++ grpH l.length x) (L ++ entH l.length L.length x)
theorem HW.len {l : List Wr} {Z : List MZ} {L : List Entry} (h : HW l Z L) : Z.length = 3 * l.length ∧ L.length ≤ l.length := by
  induction h with
  | nil => exact ⟨rfl, Nat.le_refl _⟩
  | snoc x h ih =>
    simp only [List.length_append, List.length_singleton]
    unfold grpH entH
    refine ⟨by simp; omega, ?_⟩
    split <;> simp <;> omega
theorem HW.mem {l : List Wr} {Z : List MZ} {L : List Entry} (h : HW l Z L) (q : MZ) : q ∈ Z ↔ ∃ i x, l[i]? = some x ∧ q ∈ grpH i x := by
  induction h with
  | nil => simp
  | @snoc l Z L x h ih =>
    rw [List.mem_append, ih]
    constructor
    · rintro (⟨i, y, hi, hq⟩ | hq)
      · exact ⟨i, y, by rw [List.getElem?_append_left (List.getElem?_eq_some_iff.1 hi).1]; exact hi, hq⟩
      · exact ⟨l.length, x, by simp, hq⟩
    · rintro ⟨i, y, hi, hq⟩
      by_cases hl : i < l.length
      · rw [List.getElem?_append_left hl] at hi
        exact .inl ⟨i, y, hi, hq⟩
      · have hi2 := (List.getElem?_eq_some_iff.1 hi).1
        rw [List.length_append, List.length_singleton] at hi2
        have e : i = l.length := by omega
        subst e
        simp only [List.getElem?_append_right (Nat.le_refl _), Nat.sub_self, List.getElem?_cons_zero, Option.some.injEq] at hi
        subst hi
        exact .inr hq
/-- An entry of the log. -/
theorem HW.ent {l : List Wr} {Z : List MZ} {L : List Entry} (h : HW l Z L) (n : Nat) (e : Entry) (he : L[n]? = some e) : ∃ i x, l[i]? = some x ∧ x.lost = false ∧ e = ⟨i + 1, n + 1, [recH n x]⟩ := by
  induction h generalizing n with
  | nil => simp at he
  | @snoc l Z L x h ih =>
    by_cases hl : n < L.length
    · rw [List.getElem?_append_left hl] at he
      obtain ⟨i, y, hi, h1, h2⟩ := ih n he
      exact ⟨i, y, by rw [List.getElem?_append_left (List.getElem?_eq_some_iff.1 hi).1]; exact hi, h1, h2⟩
    · rw [List.getElem?_append_right (by omega)] at he
      unfold entH at he
      cases hx : x.lost with
      | true => rw [hx] at he; simp at he
      | false =>
        rw [hx] at he
        have h0 := (List.getElem?_eq_some_iff.1 he).1
        simp at h0
        have e1 : n = L.length := by omega
        subst e1
        simp at he
        exact ⟨l.length, x, by simp, hx, he.symm⟩
/-- Who is not lost has an entry. -/
theorem HW.has {l : List Wr} {Z : List MZ} {L : List Entry} (h : HW l Z L) (i : Nat) (x : Wr) (hi : l[i]? = some x) (hx : x.lost = false) : ∃ (n : Nat) (e : Entry), L[n]? = some e ∧ e = ⟨i + 1, n + 1, [recH n x]⟩ := by
  induction h generalizing i with
  | nil => simp at hi
  | @snoc l Z L y h ih =>
    by_cases hl : i < l.length
    · rw [List.getElem?_append_left hl] at hi
      obtain ⟨n, e, h1, h2⟩ := ih i hi
      exact ⟨n, e, by rw [List.getElem?_append_left (List.getElem?_eq_some_iff.1 h1).1]; exact h1, h2⟩
    · have hi2 := (List.getElem?_eq_some_iff.1 hi).1
      rw [List.length_append, List.length_singleton] at hi2
      have e : i = l.length := by omega
      subst e
      simp only [List.getElem?_append_right (Nat.le_refl _), Nat.sub_self, List.getElem?_cons_zero, Option.some.injEq] at hi
      subst hi
      refine ⟨L.length, _, ?_, rfl⟩
      unfold entH
      rw [hx]
      simp
theorem HW.ts {l : List Wr} {Z : List MZ} {L : List Entry} (h : HW l Z L) : L.Pairwise (fun a b => a.ts < b.ts) ∧ ∀ e ∈ L, 1 ≤ e.ts ∧ e.ts ≤ l.length := by
  induction h with
  | nil => exact ⟨List.Pairwise.nil, by simp⟩
  | @snoc l Z L x h ih =>
    refine ⟨List.pairwise_append.2 ⟨ih.1, ?_, fun a ha b hb => ?_⟩, fun e he => ?_⟩
    · unfold entH; split <;> simp
    · have := (ih.2 a ha).2
      unfold entH at hb
      split at hb
      · cases hb
      · simp only [List.mem_singleton] at hb; subst hb; show a.ts < l.length + 1; omega
    · rw [List.length_append, List.length_singleton]
      rcases List.mem_append.1 he with he | he
      · have := ih.2 e he; omega
      · unfold entH at he
        split at he
        · cases he
        · simp only [List.mem_singleton] at he; subst he; show 1 ≤ l.length + 1 ∧ _; simp
theorem HW.good {l : List Wr} {Z : List MZ} {L : List Entry} (h : HW l Z L) (hl : l.length ≤ 100) : GoodA (opsOf L) := by
  have hp : ∀ {l : List Wr} {Z : List MZ} {L : List Entry}, HW l Z L → (opsOf L).Pairwise (fun a b => a.lsn < b.lsn) ∧ ∀ r ∈ opsOf L, ∃ n x, n < L.length ∧ r = recH n x := by
    intro l Z L h
    induction h with
    | nil => exact ⟨List.Pairwise.nil, by intro r hr; cases hr⟩
    | @snoc l Z L x h ih =>
      have e : opsOf (L ++ entH l.length L.length x) = opsOf L ++ (if x.lost then [] else [recH L.length x]) := by
        unfold opsOf entH
        rw [List.flatMap_append]
        split <;> simp
      have hlen : (L ++ entH l.length L.length x).length = L.length + (if x.lost then 0 else 1) := by
        rw [List.length_append]; unfold entH; split <;> simp
      rw [e, hlen]
      refine ⟨List.pairwise_append.2 ⟨ih.1, by split <;> simp, fun a ha b hb => ?_⟩, fun r hr => ?_⟩
      · obtain ⟨n, y, h1, rfl⟩ := ih.2 a ha
        split at hb
        · cases hb
        · simp only [List.mem_singleton] at hb; subst hb; show n + 1 < L.length + 1; omega
      · rcases List.mem_append.1 hr with hr | hr
        · obtain ⟨n, y, h1, h2⟩ := ih.2 r hr
          exact ⟨n, y, by omega, h2⟩
        · split at hr
          · cases hr
          · rename_i hx
            simp only [List.mem_singleton] at hr
            exact ⟨L.length, x, by rw [if_neg hx]; omega, hr⟩
  obtain ⟨h1, h2⟩ := hp h
  have hL := h.len.2
  refine ⟨h1, fun r hr => ?_, fun r hr => ?_, fun r hr hd => ?_⟩
  · obtain ⟨n, x, hn, rfl⟩ := h2 r hr
    show 1 ≤ n + 1 ∧ n + 1 ≤ 100
    omega
  · obtain ⟨n, x, hn, rfl⟩ := h2 r hr
    exact ⟨97 + x.key % 5, by omega, by omega, rfl⟩
  · obtain ⟨n, x, hn, rfl⟩ := h2 r hr
    show (vTxt x).length = 1
    unfold vTxt
    rw [show x.del = false from hd]
    rfl
theorem firstAt_none (f : Md → Bool) (z : List MZ) (i : Nat) (h : ∀ q ∈ z, f q.1 = false) : firstAt f i z = -1 := by
  induction z generalizing i with
  | nil => rfl
  | cons q t ih =>
    unfold firstAt
    rw [h q (by simp), if_neg (by decide)]
    exact ih _ (fun q hq => h q (List.mem_cons_of_mem _ hq))
theorem firstAt_some (f : Md → Bool) (z : List MZ) (i : Nat) (h : ∃ q ∈ z, f q.1 = true) : ∃ (k : Nat) (q : MZ), firstAt f i z = ((i + k : Nat) : Int) ∧ z[k]? = some q ∧ f q.1 = true := by
  induction z generalizing i with
  | nil => obtain ⟨q, hq, _⟩ := h; cases hq
  | cons p t ih =>
    unfold firstAt
    cases hf : f p.1 with
    | true => exact ⟨0, p, by simp, rfl, hf⟩
    | false =>
      obtain ⟨q, hq, h1⟩ := h
      rcases List.mem_cons.1 hq with rfl | hq
      · rw [hf] at h1; cases h1
      · obtain ⟨k, q', h2, h3, h4⟩ := ih (i + 1) ⟨q, hq, h1⟩
        exact ⟨k + 1, q', by rw [if_neg (by decide), h2]; congr 1; omega, h3, h4⟩
/-- A commit that is acknowledged. -/
theorem HW.com {l : List Wr} {Z : List MZ} {L : List Entry} (h : HW l Z L) (q : MZ) (hq : q ∈ Z) (hk : q.1.kind = 5) (hd : q.1.dn = true) : ∃ i x, l[i]? = some x ∧ x.lost = false ∧ q = (comH i x, []) := by
  obtain ⟨i, x, hi, hm⟩ := (h.mem q).1 hq
  unfold grpH at hm
  simp only [List.mem_cons, List.not_mem_nil, or_false] at hm
  rcases hm with rfl | rfl | rfl
  · exact absurd hk (by show ¬ (0 : Int) = 5; decide)
  · refine absurd hk ?_
    show ¬ (if x.del then (4 : Int) else 3) = 5
    split <;> decide
  · refine ⟨i, x, hi, ?_, rfl⟩
    have : (!x.lost) = true := hd
    cases hx : x.lost with
    | true => rw [hx] at this; cases this
    | false => rfl
theorem entB_mem {L : List Entry} {ts : Nat} : entB L ts = true ↔ ∃ e ∈ L, e.ts = ts := by
  unfold entB
  rw [List.any_eq_true]
  constructor
  · rintro ⟨e, he, h⟩; exact ⟨e, he, of_decide_eq_true h⟩
  · rintro ⟨e, he, h⟩; exact ⟨e, he, decide_eq_true h⟩
theorem HW.asked {l : List Wr} {Z : List MZ} {L : List Entry} (h : HW l Z L) (i : Nat) (x : Wr) (hi : l[i]? = some x) : askedB Z (i + 1) = true ∧ wroteB Z (i + 1) = true := by
  constructor
  · refine List.any_eq_true.2 ⟨(comH i x, []), (h.mem _).2 ⟨i, x, hi, by simp [grpH]⟩, ?_⟩
    unfold askC
    simp [comH]
  · refine List.any_eq_true.2 ⟨(writeH i x, []), (h.mem _).2 ⟨i, x, hi, by simp [grpH]⟩, ?_⟩
    unfold wroteK
    cases hd : x.del <;> simp [writeH, hd]
theorem HW.kept_none {l : List Wr} {Z : List MZ} {L : List Entry} (h : HW l Z L) : firstAt (keptC Z L) 0 Z = -1 := firstAt_none _ _ _ fun q hq => by
  unfold keptC
  by_cases hk : q.1.kind = 5
  · cases hd : q.1.dn with
    | false => simp
    | true =>
      obtain ⟨i, x, hi, hx, rfl⟩ := h.com q hq hk hd
      obtain ⟨n, e, h1, h2⟩ := h.has i x hi hx
      have : entB L (i + 1) = true := entB_mem.2 ⟨e, List.mem_of_getElem? h1, by rw [h2]⟩
      rw [show (comH i x, ([] : List KV)).1.ts = i + 1 from rfl, this]
      simp
  · rw [decide_eq_false hk]; rfl
theorem HW.scan_none {l : List Wr} {Z : List MZ} {L : List Entry} (h : HW l Z L) (hl : l.length ≤ 100) : scanK Z [] 1 0 L = -1 := by
  have : ∀ (m n : Nat), m + n = L.length → scanK Z (L.take n) (n + 1) n (L.drop n) = -1 := by
    intro m
    induction m with
    | zero =>
      intro n hn
      rw [List.drop_eq_nil_of_le (by omega)]; rfl
    | succ m ih =>
      intro n hn
      have hx : n < L.length := by omega
      obtain ⟨i, x, hi, hlx, he⟩ := h.ent n L[n] (List.getElem?_eq_getElem hx)
      rw [scanK_step Z L (n + 1) n L[n] (List.getElem?_eq_getElem hx), if_neg, he]
      · have := ih (n + 1) (by omega)
        have hll := h.len.2
        rw [show nextK (n + 1) (⟨i + 1, n + 1, [recH n x]⟩ : Entry) = n + 1 + 1 from by
          show (n + 1 + 1) % 18446744073709551616 = _
          omega]
        exact this
      · unfold badE
        rw [he]
        have h1 : askedB Z (i + 1) = true := (h.asked i x hi).1
        have h2 : entB (L.take n) (i + 1) = false := by
          cases hc : entB (L.take n) (i + 1) with
          | false => rfl
          | true =>
            obtain ⟨e, h3, h4⟩ := entB_mem.1 hc
            obtain ⟨j, hj, rfl⟩ := List.getElem_of_mem h3
            rw [List.length_take] at hj
            rw [List.getElem_take] at h4
            have := (List.pairwise_iff_getElem.1 h.ts.1) j n (by omega) hx (by omega)
            rw [he] at this
            have h5 : L[j].ts < i + 1 := this
            omega
        show ¬ (!askedB Z (i + 1) || (entB (L.take n) (i + 1) || !decide (n + 1 = n + 1))) = true
        rw [h1, h2]
        simp
  exact this L.length 0 (by omega)
theorem HW.kept {l : List Wr} {Z : List MZ} {L : List Entry} (h : HW l Z L) (hl : l.length ≤ 100) : keptL Z L = -1 := by
  unfold keptL
  rw [h.kept_none, h.scan_none hl]
  rfl
/-- Where an entry is left out, the commit that lacks it is told. -/
theorem HW.kept_fewer {l : List Wr} {Z : List MZ} {L : List Entry} (h : HW l Z L) (k : Nat) (e : Entry) (he : L[k]? = some e) : ∃ (n : Nat) (q : MZ), keptL Z (L.take k ++ L.drop (k + 1)) = n ∧ Z[n]? = some q ∧ q.1.ts = e.ts ∧ q.1.kind = 5 := by
  obtain ⟨hk, hke⟩ := List.getElem?_eq_some_iff.1 he
  obtain ⟨i, x, hi, hx, hex⟩ := h.ent k e he
  have hsp : L.take k ++ e :: L.drop (k + 1) = L := by rw [← hke, ← List.drop_eq_getElem_cons hk, List.take_append_drop]
  have hno : entB (L.take k ++ L.drop (k + 1)) e.ts = false := by
    cases hc : entB (L.take k ++ L.drop (k + 1)) e.ts with
    | false => rfl
    | true =>
      obtain ⟨o, ho, h1⟩ := entB_mem.1 hc
      have hasc := h.ts.1
      rw [← hsp] at hasc
      obtain ⟨p1, p2, p3⟩ := List.pairwise_append.1 hasc
      rcases List.mem_append.1 ho with ho | ho
      · have := p3 o ho e (by simp); omega
      · have := (List.pairwise_cons.1 p2).1 o ho; omega
  have hets : e.ts = i + 1 := by rw [hex]
  obtain ⟨n, q, h1, h2, h3⟩ := firstAt_some (keptC Z (L.take k ++ L.drop (k + 1))) Z 0 ⟨(comH i x, []), (h.mem _).2 ⟨i, x, hi, by simp [grpH]⟩, by
    unfold keptC
    rw [show (comH i x, ([] : List KV)).1.ts = i + 1 from rfl, (h.asked i x hi).2, ← hets, hno]
    simp [comH, hx]⟩
  rw [Nat.zero_add] at h1
  refine ⟨n, q, ?_, h2, ?_, ?_⟩
  · unfold keptL
    rw [h1, if_pos (by omega)]
  · unfold keptC at h3
    simp only [Bool.and_eq_true, decide_eq_true_eq, Bool.not_eq_true'] at h3
    obtain ⟨a1, a2, a3, a4, a5⟩ := h3
    obtain ⟨j, y, hj, hy, rfl⟩ := h.com q (List.mem_of_getElem? h2) a1 a2
    obtain ⟨m, o, o1, o2⟩ := h.has j y hj hy
    have hoL : o ∈ L := List.mem_of_getElem? o1
    rw [← hsp] at hoL
    show j + 1 = e.ts
    rcases List.mem_append.1 hoL with ho | ho
    · have : entB (L.take k ++ L.drop (k + 1)) (j + 1) = true := entB_mem.2 ⟨o, List.mem_append_left _ ho, by rw [o2]⟩
      rw [show (comH j y, ([] : List KV)).1.ts = j + 1 from rfl, this] at a5; cases a5
    · rcases List.mem_cons.1 ho with ho | ho
      · rw [← ho, o2]
      · have : entB (L.take k ++ L.drop (k + 1)) (j + 1) = true := entB_mem.2 ⟨o, List.mem_append_right _ ho, by rw [o2]⟩
        rw [show (comH j y, ([] : List KV)).1.ts = j + 1 from rfl, this] at a5; cases a5
  · unfold keptC at h3
    simp only [Bool.and_eq_true, decide_eq_true_eq] at h3
    exact h3.1
/-- Its begins are in order. -/
theorem HW.order {l : List Wr} {Z : List MZ} {L : List Entry} (h : HW l Z L) : orderL Z = -1 := firstAt_none _ _ _ fun b hb => by
  unfold orderC
  by_cases hk : b.1.kind = 0
  · obtain ⟨i, x, hi, hm⟩ := (h.mem b).1 hb
    have hbe : b = (beginH i, []) := by
      unfold grpH at hm
      simp only [List.mem_cons, List.not_mem_nil, or_false] at hm
      rcases hm with rfl | rfl | rfl
      · rfl
      · refine absurd hk ?_
        show ¬ (if x.del then (4 : Int) else 3) = 0
        split <;> decide
      · exact absurd hk (by show ¬ (5 : Int) = 0; decide)
    subst hbe
    have : (Z.any fun q => belowC (beginH i) q.1) = false := by
      rw [List.any_eq_false]
      intro q hq hc
      unfold belowC ackM at hc
      simp only [Bool.and_eq_true, decide_eq_true_eq] at hc
      obtain ⟨⟨a1, a2, a3⟩, a4, a5⟩ := hc
      obtain ⟨j, y, hj, hy, rfl⟩ := h.com q hq a1 a2
      have b4 : (4 * (j : Int) + 3) ≤ 4 * (i : Int) := a4
      have b5 : i + 1 ≤ j + 1 := a5
      omega
    rw [this]; simp
  · rw [decide_eq_false hk]; rfl
/-- The calls of one transaction that were answered. -/
theorem HW.group {l : List Wr} {Z : List MZ} {L : List Entry} (h : HW l Z L) (i : Nat) (x : Wr) (hi : l[i]? = some x) (hx : x.lost = false) : (Z.filter fun q => okC (i + 1) q.1) = grpH i x := by
  induction h generalizing i with
  | nil => simp at hi
  | @snoc l Z L y h ih =>
    rw [List.filter_append]
    by_cases hl : i < l.length
    · rw [List.getElem?_append_left hl] at hi
      rw [ih i hi, filter_none (l := grpH l.length y), List.append_nil]
      intro q hq
      unfold grpH at hq
      simp only [List.mem_cons, List.not_mem_nil, or_false] at hq
      unfold okC
      rw [decide_eq_false]
      · rfl
      · rcases hq with rfl | rfl | rfl <;> (show ¬ l.length + 1 = i + 1; omega)
    · have hi2 := (List.getElem?_eq_some_iff.1 hi).1
      rw [List.length_append, List.length_singleton] at hi2
      have e : i = l.length := by omega
      subst e
      simp only [List.getElem?_append_right (Nat.le_refl _), Nat.sub_self, List.getElem?_cons_zero, Option.some.injEq] at hi
      subst hi
      rw [filter_none (l := Z), filter_all (l := grpH l.length y), List.nil_append]
      · intro q hq
        unfold grpH at hq
        simp only [List.mem_cons, List.not_mem_nil, or_false] at hq
        rcases hq with rfl | rfl | rfl <;> simp [okC, beginH, writeH, comH, hx]
      · intro q hq
        obtain ⟨j, z, hj, hm⟩ := (h.mem q).1 hq
        have hjl := (List.getElem?_eq_some_iff.1 hj).1
        unfold grpH at hm
        simp only [List.mem_cons, List.not_mem_nil, or_false] at hm
        unfold okC
        rw [decide_eq_false]
        · rfl
        · rcases hm with rfl | rfl | rfl <;> (show ¬ j + 1 = l.length + 1; omega)
theorem HW.few {l : List Wr} {Z : List MZ} {L : List Entry} (h : HW l Z L) (ts : Nat) : (Z.filter fun q => okC ts q.1).length ≤ 3 := by
  induction h with
  | nil => simp
  | @snoc l Z L y h ih =>
    rw [List.filter_append, List.length_append]
    by_cases ht : ts = l.length + 1
    · rw [filter_none (l := Z)]
      · have := List.length_filter_le (fun q : MZ => okC ts q.1) (grpH l.length y)
        have e : (grpH l.length y).length = 3 := rfl
        simp only [List.length_nil]; omega
      · intro q hq
        obtain ⟨j, z, hj, hm⟩ := (h.mem q).1 hq
        have hjl := (List.getElem?_eq_some_iff.1 hj).1
        unfold grpH at hm
        simp only [List.mem_cons, List.not_mem_nil, or_false] at hm
        unfold okC
        rw [decide_eq_false]
        · rfl
        · rcases hm with rfl | rfl | rfl <;> (show ¬ j + 1 = ts; omega)
    · rw [filter_none (l := grpH l.length y)]
      · simpa using ih
      · intro q hq
        unfold grpH at hq
        simp only [List.mem_cons, List.not_mem_nil, or_false] at hq
        unfold okC
        rw [decide_eq_false]
        · rfl
        · rcases hq with rfl | rfl | rfl <;> (show ¬ l.length + 1 = ts; omega)
/-- What one transaction of a history wrote. -/
def wrH (x : Wr) : List Rec := [⟨kTxt x, 0, x.del, vTxt x⟩]
theorem runZ_grp (i : Nat) (x : Wr) (M : List KV) : ∃ M', runZ M [] (grpH i x) = (true, M', wrH x) := by
  unfold grpH
  simp only [runZ]
  have e1 : rightB M (beginH i, []) = true := rfl
  have e2 : rightM M (beginH i, []) = M := rfl
  have e3 : rightW [] (beginH i, []) = [] := rfl
  have e4 : rightB M (writeH i x, []) = true := by unfold rightB; cases h : x.del <;> simp [writeH, h]
  have e5 : rightW [] (writeH i x, []) = wrH x := by unfold rightW wrH vTxt; cases h : x.del <;> simp [writeH, h, vTxt, setR]
  rw [e1, e2, e3, e4, e5]
  have e6 : ∀ M, rightB M (comH i x, []) = true := fun _ => rfl
  have e7 : ∀ W, rightW W (comH i x, []) = W := fun _ => rfl
  simp only [e6, e7, if_true]
  exact ⟨_, rfl⟩
theorem grp_asc (i : Nat) (x : Wr) : (grpH i x).Pairwise fun a b => nK a < nK b := by
  have n0 : nK (beginH i, ([] : List KV)) = 0 := rfl
  have n1 : nK (writeH i x, ([] : List KV)) = 1 := rfl
  have n2 : nK (comH i x, ([] : List KV)) = 2 := rfl
  unfold grpH
  refine List.pairwise_cons.2 ⟨fun b hb => ?_, List.pairwise_cons.2 ⟨fun b hb => ?_, List.pairwise_singleton _ _⟩⟩
  · simp only [List.mem_cons, List.not_mem_nil, or_false] at hb
    rcases hb with rfl | rfl
    · rw [n0, n1]; decide
    · rw [n0, n2]; decide
  · simp only [List.mem_cons, List.not_mem_nil, or_false] at hb
    subst hb
    rw [n1, n2]; decide
theorem HW.runs {l : List Wr} {Z : List MZ} {L : List Entry} (h : HW l Z L) (i : Nat) (x : Wr) (hi : l[i]? = some x) (hx : x.lost = false) (M : List KV) : ∃ M', runC Z M [] (callsL (i + 1) Z) = (none, M', wrH x) := by
  obtain ⟨M', hr⟩ := runZ_grp i x M
  refine ⟨M', runC_all (g := grpH i x) ?_ hr⟩
  rw [calls_map, isort_unique nK (grp_asc i x) (List.Perm.of_eq (h.group i x hi hx))]
theorem HW.comm {l : List Wr} {Z : List MZ} {L : List Entry} (h : HW l Z L) (tss : List Nat) (htss : ∀ ts ∈ tss, entB L ts = true) (ts : Nat) : ts ∈ commL tss Z ↔ ∃ i x, l[i]? = some x ∧ x.lost = false ∧ ts = i + 1 := by
  rw [comm_mem]
  constructor
  · rintro ⟨q, hq, hok, rfl⟩
    unfold okM ackM at hok
    simp only [Bool.or_eq_true, Bool.and_eq_true, decide_eq_true_eq] at hok
    rcases hok with ⟨a1, a2, a3⟩ | ⟨a1, a2⟩
    · obtain ⟨i, x, hi, hx, rfl⟩ := h.com q hq a1 a2
      exact ⟨i, x, hi, hx, rfl⟩
    · obtain ⟨e, he, h1⟩ := entB_mem.1 (htss _ a2)
      obtain ⟨n, hn, rfl⟩ := List.getElem_of_mem he
      obtain ⟨i, x, hi, hx, h2⟩ := h.ent n _ (List.getElem?_eq_getElem hn)
      exact ⟨i, x, hi, hx, by rw [← h1, h2]⟩
  · rintro ⟨i, x, hi, hx, rfl⟩
    refine ⟨(comH i x, []), (h.mem _).2 ⟨i, x, hi, by simp [grpH]⟩, ?_, rfl⟩
    unfold okM ackM
    simp [comH, hx]
/-- All is serial. -/
theorem HW.serial {l : List Wr} {Z : List MZ} {L : List Entry} (h : HW l Z L) (ez : List EZ) (hts : ∀ q ∈ ez, q.1.ts = q.2.ts) (hz : ez.map (·.2) = L) (T : List Nat) (hT : ∀ ts ∈ T, ∃ i x, l[i]? = some x ∧ x.lost = false ∧ ts = i + 1) (M : List KV) : serialL Z ez M T = -1 := by
  induction T generalizing M with
  | nil => rfl
  | cons ts t ih =>
    obtain ⟨i, x, hi, hx, rfl⟩ := hT ts (by simp)
    obtain ⟨M', hr⟩ := h.runs i x hi hx M
    rw [serialL_cons, hr]
    show (if endedB (wrH x) (entsOf ez (i + 1)) then serialL Z ez M' t else _) = _
    have he : entsOf ez (i + 1) = L.filter fun x => decide (x.ts = i + 1) := by rw [entsOf_eq ez hts, hz]
    obtain ⟨n, e, h1, h2⟩ := h.has i x hi hx
    have hf : (L.filter fun x => decide (x.ts = i + 1)) = [e] := by
      obtain ⟨hn, hne⟩ := List.getElem?_eq_some_iff.1 h1
      have hsp : L.take n ++ e :: L.drop (n + 1) = L := by rw [← hne, ← List.drop_eq_getElem_cons hn, List.take_append_drop]
      have hasc := h.ts.1
      rw [← hsp] at hasc ⊢
      obtain ⟨p1, p2, p3⟩ := List.pairwise_append.1 hasc
      have hets : e.ts = i + 1 := by rw [h2]
      rw [List.filter_append, List.filter_cons, filter_none (l := L.take n), filter_none (l := L.drop (n + 1)), if_pos (decide_eq_true hets), List.nil_append]
      · intro o ho
        have := (List.pairwise_cons.1 p2).1 o ho
        exact decide_eq_false (by omega)
      · intro o ho
        have := p3 o ho e (by simp)
        exact decide_eq_false (by omega)
    rw [he, hf, h2]
    have hend : endedB (wrH x) [(⟨i + 1, n + 1, [recH n x]⟩ : Entry)] = true := by
      unfold endedB wrH
      simp [okOps, okOp, findR, recH]
    rw [if_pos hend]
    exact ih (fun ts hts => hT ts (List.mem_cons_of_mem _ hts)) M'
/-- Where an entry is left out, some call is told. -/
theorem serial_told (z : List MZ) (ez : List EZ) (T : List Nat) (hT : ∀ ts ∈ T, ∃ q ∈ z, askC ts q.1 = true) (ts : Nat) (hts : ts ∈ T) (hbad : ∀ M M' W, runC z M [] (callsL ts z) = (none, M', W) → endedB W (entsOf ez ts) = false) (M : List KV) : 0 ≤ serialL z ez M T := by
  induction T generalizing M with
  | nil => cases hts
  | cons u t ih =>
    rw [serialL_cons]
    rcases hr : runC z M [] (callsL u z) with ⟨o, M', W⟩
    cases o with
    | some i => show (0 : Int) ≤ (i : Int); omega
    | none =>
      show 0 ≤ if endedB W (entsOf ez u) then serialL z ez M' t else firstAt (askC u) 0 z
      by_cases he : endedB W (entsOf ez u) = true
      · rw [if_pos he]
        rcases List.mem_cons.1 hts with rfl | hm
        · rw [hbad M M' W hr] at he; cases he
        · exact ih (fun ts h => hT ts (List.mem_cons_of_mem _ h)) hm M'
      · rw [if_neg he]
        obtain ⟨q, hq, h1⟩ := hT u (by simp)
        obtain ⟨k, _, h2, _⟩ := firstAt_some (askC u) z 0 ⟨q, hq, h1⟩
        rw [h2]; omega
theorem HW.serial_fewer {l : List Wr} {Z : List MZ} {L : List Entry} (h : HW l Z L) (k : Nat) (e : Entry) (he : L[k]? = some e) (ez : List EZ) (hts : ∀ q ∈ ez, q.1.ts = q.2.ts) (hz : ez.map (·.2) = L.take k ++ L.drop (k + 1)) (T : List Nat) (hT : ∀ ts, ts ∈ T ↔ ∃ i x, l[i]? = some x ∧ x.lost = false ∧ ts = i + 1) : 0 ≤ serialL Z ez [] T := by
  obtain ⟨i, x, hi, hx, hex⟩ := h.ent k e he
  have hets : e.ts = i + 1 := by rw [hex]
  refine serial_told Z ez T (fun ts hm => ?_) (i + 1) ((hT _).2 ⟨i, x, hi, hx, rfl⟩) (fun M M' W hr => ?_) []
  · obtain ⟨j, y, hj, hy, rfl⟩ := (hT ts).1 hm
    exact ⟨(comH j y, []), (h.mem _).2 ⟨j, y, hj, by simp [grpH]⟩, by simp [askC, comH]⟩
  · obtain ⟨M2, hr2⟩ := h.runs i x hi hx M
    rw [hr2] at hr
    simp only [Prod.mk.injEq, true_and] at hr
    obtain ⟨_, rfl⟩ := hr
    have hno : entsOf ez (i + 1) = [] := by
      rw [entsOf_eq ez hts, hz]
      refine filter_none fun o ho => ?_
      obtain ⟨hk, hke⟩ := List.getElem?_eq_some_iff.1 he
      have hsp : L.take k ++ e :: L.drop (k + 1) = L := by rw [← hke, ← List.drop_eq_getElem_cons hk, List.take_append_drop]
      have hasc := h.ts.1
      rw [← hsp] at hasc
      obtain ⟨p1, p2, p3⟩ := List.pairwise_append.1 hasc
      rcases List.mem_append.1 ho with ho | ho
      · have := p3 o ho e (by simp); exact decide_eq_false (by omega)
      · have := (List.pairwise_cons.1 p2).1 o ho; exact decide_eq_false (by omega)
    rw [hno]
    rfl
end Go.Proofs.YtecknikehieioaaGreat
