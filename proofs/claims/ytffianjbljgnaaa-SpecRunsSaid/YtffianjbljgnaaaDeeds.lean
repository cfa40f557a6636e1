/-
  Deeds of transactions as they lie in memory, and what they come to. No condition.
-/
import Derived.Test.YtffianjbljgnaaaRunMem
import Derived.Test.YtffianjbljgnaaaWork27a
namespace Go.Proofs.Ytffianjbljgnaaa
set_option linter.unusedVariables false
set_option linter.unusedSimpArgs false
open Go.RowKit Go.Maps

structure Deed where
  kind : Nat
  key : Nat
  hi : Nat
  val : Nat
  deriving Inhabited
def Deed.ok (d : Deed) : Prop := d.kind < 256 ∧ d.key < 256 ∧ d.hi < 256 ∧ d.val < 256
def deedCells (d : Deed) : List Value := [.int .u8 (d.kind : Nat), .int .u8 (d.key : Nat), .int .u8 (d.hi : Nat), .int .u8 (d.val : Nat)]
def deedsCells (l : List Deed) : List Value := l.flatMap deedCells
theorem deeds_length (l : List Deed) : (deedsCells l).length = l.length * 4 := by
  induction l with
  | nil => rfl
  | cons e t ih => show (deedCells e ++ deedsCells t).length = _; rw [List.length_append, ih, List.length_cons]; show 4 + _ = _; omega
theorem deeds_get (l : List Deed) (i : Nat) (d : Deed) (h : l[i]? = some d) (k : Nat) (hk : k < 4) : (deedsCells l)[i * 4 + k]? = (deedCells d)[k]? := by
  induction l generalizing i with
  | nil => simp at h
  | cons q qs ih =>
    cases i with
    | zero =>
      cases h
      show (deedCells d ++ deedsCells qs)[0 * 4 + k]? = _
      rw [Nat.zero_mul, Nat.zero_add, List.getElem?_append_left (by show k < 4; exact hk)]
    | succ i =>
      have := ih i (by simpa using h)
      show (deedCells q ++ deedsCells qs)[(i + 1) * 4 + k]? = _
      rw [List.getElem?_append_right (by show 4 ≤ _; omega), ← this]
      show (deedsCells qs)[(i + 1) * 4 + k - 4]? = _
      rw [show (i + 1) * 4 + k - 4 = i * 4 + k by omega]
/-- Where a transaction's deeds lie. -/
structure Hd where
  a : Option Addr
  n : Nat
  c : Nat
  deriving Inhabited
abbrev DZ := Hd × List Deed
def hdV (q : DZ) : Value := .slice q.1.a q.1.n q.1.c
structure DeedsIs (w : World) (q : DZ) : Prop where
  n : q.1.n = q.2.length
  rows : RowsAt w q.1.a q.1.n q.1.c 4 (deedsCells q.2)
  ok : ∀ d ∈ q.2, d.ok
theorem DeedsIs.on {w w' : World} {q : DZ} (h : DeedsIs w q) (hb : Below w.heap.size w w') : DeedsIs w' q := ⟨h.n, h.rows.on hb, h.ok⟩
structure DeedsAt (w : World) (a : Option Addr) (n c : Nat) (z : List DZ) : Prop where
  len : z.length = n
  rows : RowsAt w a n c 1 (z.map hdV)
  each : ∀ q ∈ z, DeedsIs w q
theorem DeedsAt.on {w w' : World} {a : Option Addr} {n c : Nat} {z : List DZ} (h : DeedsAt w a n c z) (hb : Below w.heap.size w w') : DeedsAt w' a n c z := ⟨h.len, h.rows.on hb, fun q hq => (h.each q hq).on hb⟩
theorem DeedsAt.row {w : World} {a : Option Addr} {n c : Nat} {z : List DZ} (h : DeedsAt w a n c z) {i : Nat} (hi : i < n) :
    ∃ (q : DZ) (g o : Nat), z[i]? = some q ∧ q ∈ z ∧ a = some ⟨g, o, none⟩ ∧ g < w.heap.size ∧ w.cell? ⟨g, o + i, none⟩ = some (.slice q.1.a q.1.n q.1.c) := by
  have hl : i < z.length := by rw [h.len]; exact hi
  obtain ⟨g, o, e, hg, hc⟩ := h.rows.at_ (by omega)
  exact ⟨z[i], g, o, List.getElem?_eq_getElem hl, List.getElem_mem hl, e, hg, hc i _ (by rw [List.getElem?_map, List.getElem?_eq_getElem hl]; rfl)⟩
theorem DeedsIs.row {w : World} {q : DZ} (h : DeedsIs w q) {i : Nat} (hi : i < q.1.n) :
    ∃ (d : Deed) (g o : Nat), q.2[i]? = some d ∧ d.ok ∧ q.1.a = some ⟨g, o, none⟩ ∧ g < w.heap.size ∧ w.cell? ⟨g, o + i * 4, none⟩ = some (.int .u8 (d.kind : Nat)) ∧ w.cell? ⟨g, o + i * 4 + 1, none⟩ = some (.int .u8 (d.key : Nat)) ∧ w.cell? ⟨g, o + i * 4 + 2, none⟩ = some (.int .u8 (d.hi : Nat)) ∧ w.cell? ⟨g, o + i * 4 + 3, none⟩ = some (.int .u8 (d.val : Nat)) := by
  have hl : i < q.2.length := by have := h.n; omega
  obtain ⟨g, o, e, hg, hc⟩ := h.rows.at_ (by omega)
  have hz := List.getElem?_eq_getElem hl
  have key : ∀ k v, k < 4 → (deedCells q.2[i])[k]? = some v → w.cell? ⟨g, o + i * 4 + k, none⟩ = some v := fun k v hk hv => by
    rw [Nat.add_assoc]
    exact hc _ _ (by rw [deeds_get _ _ _ hz k hk]; exact hv)
  exact ⟨q.2[i], g, o, hz, h.ok _ (List.getElem_mem hl), e, hg, key 0 _ (by omega) rfl, key 1 _ (by omega) rfl, key 2 _ (by omega) rfl, key 3 _ (by omega) rfl⟩
def letter (b k : Nat) : Txt := [UInt8.ofNat (b + k)]
theorem letter_cells (b k : Nat) (h : b + k < 256) : (letter b k).map bv = [.int .u8 ((b : Int) + (k : Int))] := by
  show [bv (UInt8.ofNat (b + k))] = _
  unfold bv
  rw [UInt8.toNat_ofNat_of_lt' h]
  push_cast
  rfl
/-- A deed's call: M: the map ahead of it; ln: how many were made ahead. -/
def dKey (d : Deed) : Txt := letter 97 (d.key % 6)
def dHi (d : Deed) : Txt := letter 97 (d.hi % 7)
def dVal (d : Deed) : Txt := letter 48 (d.val % 10)
/-- What a transaction's record and map are behind a call that is right. -/
theorem rightM_keys {M : List KV} (h : ∀ p ∈ M, p.1.length ≤ 1) (q : MZ) (hq : q.1.key.length ≤ 1) : ∀ p ∈ rightM M q, p.1.length ≤ 1 := by
  have happ : ∀ r : Rec, r.key.length ≤ 1 → ∀ p ∈ app M r, p.1.length ≤ 1 := fun r hr p hp => by
    unfold app at hp
    split at hp
    · exact h p (List.mem_filter.1 hp).1
    · rcases put_mem _ _ _ _ hp with rfl | hp
      · exact hr
      · exact h p hp
  unfold rightM
  split
  · exact happ _ hq
  · split
    · exact happ _ hq
    · exact h
/-- A transaction that is under way: its entry (eb) and what it wrote. -/
structure TxAt (B : Nat) (w : World) (l : List (Option Nat)) (eb ts : Nat) (a : Option Addr) (c : Nat) (W : List Rec) : Prop where
  len : l.length = 5
  l3 : l[3]? = some (some eb)
  l4 : l[4]? = some (Value.slice a W.length c).ownBlock
  blk : Blk w eb [.int .u64 (ts : Nat), .int .u64 (ts : Nat), .slice a W.length c] 40
  ops : w.ownsRow B 58 4 (.slice a W.length c) W.length (recsCells W)
  ok : ∀ r ∈ W, r.ok
/-- A transaction's calls so far. -/
structure SoFar (ts k : Nat) (M0 : List KV) (g : List MZ) (M : List KV) (W : List Rec) : Prop where
  len : g.length = k
  each : ∀ q ∈ g, q.1.ts = ts ∧ q.1.dn = true ∧ q.1.err = 0
  asc : g.Pairwise fun a b => nK a < nK b
  top : ∀ q ∈ g, nK q ≤ k
  run : runZ M0 [] g = (true, M, W)
  few : W.length ≤ k
section
variable {B : Nat} {w w' : World} {mb : Nat} {v4 v5 : Value} {l : List (Option Nat)} {C : List Nat} {X : List MZ} {Z : List EZ} {M : List KV} {eb ts : Nat} {a : Option Addr} {c : Nat} {W : List Rec}
/-- Other blocks are changed. -/
theorem TxAt.mod (h : TxAt B w l eb ts a c W) (hot : Hot B w l C) {S : List Nat} (hm : Mod S w w') (hS : ∀ x ∈ S, w.heap.size ≤ x ∨ ∃ i : Nat, i < 3 ∧ l[i]? = some (some x)) : TxAt B w' l eb ts a c W := by
  have hne : ∀ x ∈ S, ∀ i : Nat, 3 ≤ i → l[i]? ≠ some (some x) := fun x hx i hi hl => by
    rcases hS x hx with h1 | ⟨j, hj, h1⟩
    · have := (hot.lt i x hl).2; omega
    · exact hot.ok i j x (by omega) hl h1
  exact ⟨h.len, h.l3, h.l4, h.blk.mod hm (fun hx => hne eb hx 3 (by omega) h.l3), ownsRow_mod h.ops hm (fun x hx e => hne x hx 4 (by omega) (by rw [h.l4, e])), h.ok⟩
theorem TxAt.on (h : TxAt B w l eb ts a c W) (hb : Below w.heap.size w w') : TxAt B w' l eb ts a c W :=
  ⟨h.len, h.l3, h.l4, h.blk.on hb, ownsRow_mod h.ops (Mod.of_below (S := []) hb) (by simp), h.ok⟩
/-- What was written is another one: last's end, and the store of it. -/
theorem TxAt.wrote (h : TxAt B w l eb ts a c W) (hR : RunAt B w mb v4 v5 l C X Z M) {W' : List Rec} {v' : Value} (hown : w'.ownsRow B 58 4 v' W'.length (recsCells W')) (hm : Mod (Value.slice a W.length c).ownBlock.toList w w') (hb : ∀ x, v'.ownBlock = some x → (Value.slice a W.length c).ownBlock = some x ∨ w.heap.size ≤ x) (hok : ∀ r ∈ W', r.ok) :
    ∃ a' c', v' = .slice a' W'.length c' ∧ TxAt B (w'.setCell ⟨eb, 2, none⟩ v') (l.set 4 v'.ownBlock) eb ts a' c' W' ∧ RunAt B (w'.setCell ⟨eb, 2, none⟩ v') mb v4 v5 (l.set 4 v'.ownBlock) C X Z M ∧ w'.cell? ⟨eb, 2, none⟩ = some (.slice a W.length c) ∧ w'.frozen? ⟨eb, 2, none⟩ = false := by
  obtain ⟨a', c', rfl⟩ := own_slice hown
  have hvlt : ∀ x, (Value.slice a' W'.length c').ownBlock = some x → x < w'.heap.size := fun x hx => (hown.lt x hx).2
  have hl5 := h.len
  have hot' := hR.hot
  have ebn : ∀ x ∈ (Value.slice a W.length c).ownBlock.toList, x ≠ eb := fun x hx e => by
    subst e
    exact hot'.ok 3 4 x (by omega) h.l3 (by rw [h.l4]; simpa using hx)
  have hR1 : RunAt B w' mb v4 v5 (l.set 4 (Value.slice a' W'.length c').ownBlock) C X Z M := hR.grow hm 4 (by omega) (fun x hx => by rw [h.l4]; simpa using hx) _ (fun x hx => by
    rcases hb x hx with h1 | h1
    · left; rw [h.l4, h1]
    · exact .inr ⟨h1, hvlt x hx⟩)
  have hB1 := h.blk.mod hm (fun hx => ebn eb hx rfl)
  have hm2 : Mod [eb] w' (w'.setCell ⟨eb, 2, none⟩ (.slice a' W'.length c')) := (Mod.refl _ _).setCell _ _ (.inl (by simp))
  have l3' : (l.set 4 (Value.slice a' W'.length c').ownBlock)[3]? = some (some eb) := by rw [List.getElem?_set_ne (by omega)]; exact h.l3
  have l4' : (l.set 4 (Value.slice a' W'.length c').ownBlock)[4]? = some (Value.slice a' W'.length c').ownBlock := by rw [List.getElem?_set_self (by omega)]
  refine ⟨a', c', rfl, ⟨by simp [hl5], l3', l4', ?_, ?_, hok⟩, hR1.mod hm2 (fun x hx => .inr ⟨3, by omega, by simp at hx; subst hx; exact l3'⟩), ?_, hB1.free 2⟩
  · exact hB1.set 2 _
  · exact ownsRow_mod hown hm2 (fun x hx e => by
      simp at hx; subst hx
      exact hR1.hot.ok 3 4 x (by omega) l3' (by rw [l4', e]))
  · rw [hB1.cell]; rfl
/-- A call that is over: q; its block xb; what it made of the map and of what was written. -/
def CallDone (B : Nat) (w0 wx : World) (xb mb : Nat) (v4 v5 : Value) (C : List Nat) (X : List MZ) (Z : List EZ) (M : List KV) (W : List Rec) (eb ts : Nat) (n : Int) (key : Txt) : Prop :=
  ∃ (q : MZ) (l' : List (Option Nat)) (a' : Option Addr) (c' : Nat), Blk wx xb (mdCells q.1) 37 ∧ CallIs B wx q ∧ RunAt B wx mb v4 v5 l' C X Z (rightM M q) ∧ TxAt B wx l' eb ts a' c' (rightW W q) ∧ rightB M q = true ∧
    q.1.ts = ts ∧ q.1.n = n ∧ q.1.dn = true ∧ q.1.err = 0 ∧ q.1.key = key ∧ (∀ x, (prV q.1).ownBlock = some x → (∀ i : Nat, l'[i]? ≠ some (some x)) ∧ x < wx.heap.size ∧ x ∉ C) ∧ Below B w0 wx
end
end Go.Proofs.Ytffianjbljgnaaa
