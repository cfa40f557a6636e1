/-
  What a run of transactions has in memory: its map, its rows, and that they lie apart. No condition.
-/
import Derived.Test.YtffianjbljgnaaaLast
import Derived.Test.YtffianjbljgnaaaRunP
import Derived.Test.YtffianjbljgnaaaCutE
namespace Go.Proofs.Ytffianjbljgnaaa
set_option linter.unusedVariables false
set_option linter.unusedSimpArgs false
open Go.RowKit Go.Maps

/-- Block b is a map of pairs that holds M. -/
structure PMapAt (w : World) (b : Nat) (M : List KV) : Prop where
  asc : Asc M
  keys : ∀ p ∈ M, p.1.length ≤ maxLen
  vals : ∀ p ∈ M, p.2.length ≤ 1000
  map : VMap textKey w b M.length (fun x => (look M x).map fun v => pairV (x, v))
theorem PMapAt.on {w w' : World} {b : Nat} {M : List KV} (h : PMapAt w b M) (hb : Below w.heap.size w w') : PMapAt w' b M := ⟨h.asc, h.keys, h.vals, h.map.on hb⟩
theorem PMapAt.mod {S : List Nat} {w w' : World} {b : Nat} {M : List KV} (h : PMapAt w b M) (hm : Mod S w w') (hn : b ∉ S) : PMapAt w' b M := ⟨h.asc, h.keys, h.vals, h.map.mod hm hn⟩
theorem PMapAt.made (w : World) : PMapAt (w.alloc (.map #[] 0)) w.heap.size [] := ⟨List.Pairwise.nil, by simp, by simp, (VMap.made textKey w).congr (fun x => rfl)⟩
theorem PMapAt.lt {w : World} {b : Nat} {M : List KV} (h : PMapAt w b M) : b < w.heap.size := h.map.lt
theorem PMapAt.puts {w : World} {b : Nat} {M : List KV} (h : PMapAt w b M) (hM : M.length ≤ 1000000) (k v : Txt) (hk : k.length ≤ maxLen) (hv : v.length ≤ 1000) :
    ∃ w', (Instr.mapUpdate 63 (.map (some b)) (.string ⟨k.toArray⟩) (.agg #[.string ⟨k.toArray⟩, .string ⟨v.toArray⟩])).run Try.prog w = .ok () w' ∧ PMapAt w' b (put M k v) ∧ Mod [b] w w' := by
  obtain ⟨w', hr, hm, hmod⟩ := h.map.store (e := 47) Try.underlying63 (by unfold maxLen; omega) k hk (.agg #[.string ⟨k.toArray⟩, .string ⟨v.toArray⟩])
  refine ⟨w', hr, ⟨put_asc h.asc k v, fun p hp => ?_, fun p hp => ?_, ?_⟩, hmod⟩
  · rcases put_mem M k v p hp with rfl | hp
    · exact hk
    · exact h.keys p hp
  · rcases put_mem M k v p hp with rfl | hp
    · exact hv
    · exact h.vals p hp
  · have e : (if ((look M k).map fun v => pairV (k, v)).isSome then M.length else M.length + 1) = (put M k v).length := by rw [put_length h.asc]; simp
    rw [e] at hm
    exact hm.congr fun x => by
      show _ = (look (put M k v) x).map _
      rw [put_lookup]
      split
      · rename_i e; subst e; rfl
      · rfl
theorem PMapAt.drops {w : World} {b : Nat} {M : List KV} (h : PMapAt w b M) (k : Txt) (hk : k.length ≤ maxLen) (ty : TypeId) :
    ∃ w', (Builtin.delete_ #[63, 9] ty #[.map (some b), .string ⟨k.toArray⟩]).run Try.prog w = .ok (.tuple #[]) w' ∧ PMapAt w' b (drop M k) ∧ Mod [b] w w' := by
  obtain ⟨w', hr, hm, hmod⟩ := h.map.drop (e := 47) Try.underlying63 k hk ty
  refine ⟨w', hr, ⟨drop_asc h.asc k, fun p hp => h.keys p (List.mem_filter.1 hp).1, fun p hp => h.vals p (List.mem_filter.1 hp).1, ?_⟩, hmod⟩
  have e : (if ((look M k).map fun v => pairV (k, v)).isSome then M.length - 1 else M.length) = (drop M k).length := by rw [drop_length h.asc]; simp
  rw [e] at hm
  exact hm.congr fun x => by
    show _ = (look (drop M k) x).map _
    rw [drop_lookup]
    split <;> rfl
theorem PMapAt.val {w : World} {b : Nat} {M : List KV} (h : PMapAt w b M) (k : Txt) : ((look M k).getD []).length ≤ 1000 := by
  have h2 := h.vals
  clear h
  induction M with
  | nil => exact Nat.zero_le _
  | cons p t ih =>
    unfold look
    split
    · exact h2 p (by simp)
    · exact ih (fun q hq => h2 q (List.mem_cons_of_mem _ hq))
/-- The pair that a lookup gives: the second of it is the value. -/
theorem PMapAt.looks {w : World} {b : Nat} {M : List KV} (h : PMapAt w b M) (k : Txt) (hk : k.length ≤ maxLen) :
    ∃ k', (Instr.lookup 63 (.map (some b)) (.string ⟨k.toArray⟩) true).run Try.prog w = .ok (.tuple #[.agg #[.string ⟨List.toArray k'⟩, .string ⟨((look M k).getD []).toArray⟩], .bool (look M k).isSome]) w := by
  have := h.map.look_ok (e := 47) (z := pairV ([], [])) Try.underlying63 (by kernel_rfl) k hk
  rw [show (textKey.val k) = .string ⟨k.toArray⟩ from rfl] at this
  cases hl : look M k with
  | none => exact ⟨[], by rw [this, hl]; rfl⟩
  | some v => exact ⟨k, by rw [this, hl]; rfl⟩

/-- Blocks that are worked on (l, apart from one another), and such as are left alone (C). -/
structure Hot (B : Nat) (w : World) (l : List (Option Nat)) (C : List Nat) : Prop where
  ok : ∀ (i j x : Nat), i ≠ j → l[i]? = some (some x) → l[j]? ≠ some (some x)
  lt : ∀ (i x : Nat), l[i]? = some (some x) → B ≤ x ∧ x < w.heap.size
  cold : ∀ c ∈ C, (∀ i : Nat, l[i]? ≠ some (some c)) ∧ c < w.heap.size
theorem Hot.size {B : Nat} {w w' : World} {l : List (Option Nat)} {C : List Nat} (h : Hot B w l C) (hs : w.heap.size ≤ w'.heap.size) : Hot B w' l C :=
  ⟨h.ok, fun i x hx => ⟨(h.lt i x hx).1, Nat.lt_of_lt_of_le (h.lt i x hx).2 hs⟩, fun c hc => ⟨(h.cold c hc).1, Nat.lt_of_lt_of_le (h.cold c hc).2 hs⟩⟩
/-- A block grows into another one. -/
theorem Hot.grow {B : Nat} {w w' : World} {l : List (Option Nat)} {C : List Nat} (h : Hot B w l C) (hs : w.heap.size ≤ w'.heap.size) (k : Nat) (o : Option Nat) (ho : ∀ x, o = some x → l[k]? = some (some x) ∨ (w.heap.size ≤ x ∧ x < w'.heap.size)) (hB : B ≤ w.heap.size) : Hot B w' (l.set k o) C := by
  have key : ∀ (i x : Nat), (l.set k o)[i]? = some (some x) → (l[i]? = some (some x)) ∨ (i = k ∧ w.heap.size ≤ x ∧ x < w'.heap.size) := fun i x hx => by
    by_cases hik : i = k
    · subst hik
      by_cases hl : i < l.length
      · rw [List.getElem?_set_self hl] at hx
        rcases ho x (Option.some.inj hx) with h1 | h1
        · exact .inl h1
        · exact .inr ⟨rfl, h1⟩
      · rw [List.set_eq_of_length_le (by omega)] at hx
        exact .inl hx
    · rw [List.getElem?_set_ne (Ne.symm hik)] at hx
      exact .inl hx
  refine ⟨fun i j x hij hi hj => ?_, fun i x hx => ?_, fun c hc => ⟨fun i hi => ?_, Nat.lt_of_lt_of_le (h.cold c hc).2 hs⟩⟩
  · rcases key i x hi with h1 | ⟨rfl, h1⟩ <;> rcases key j x hj with h2 | ⟨rfl, h2⟩
    · exact h.ok i j x hij h1 h2
    · have := (h.lt i x h1).2; omega
    · have := (h.lt j x h2).2; omega
    · exact hij rfl
  · rcases key i x hx with h1 | ⟨rfl, h1⟩
    · have := h.lt i x h1; omega
    · omega
  · rcases key i c hi with h1 | ⟨rfl, h1⟩
    · exact (h.cold c hc).1 i h1
    · have := (h.cold c hc).2; omega
/-- New blocks are worked on. -/
theorem Hot.more {B : Nat} {w w' : World} {l : List (Option Nat)} {C : List Nat} (h : Hot B w l C) (hs : w.heap.size ≤ w'.heap.size) (o : Option Nat) (ho : ∀ x, o = some x → w.heap.size ≤ x ∧ x < w'.heap.size) (hB : B ≤ w.heap.size) : Hot B w' (l ++ [o]) C := by
  have key : ∀ (i x : Nat), (l ++ [o])[i]? = some (some x) → (l[i]? = some (some x)) ∨ (i = l.length ∧ w.heap.size ≤ x ∧ x < w'.heap.size) := fun i x hx => by
    by_cases hl : i < l.length
    · rw [List.getElem?_append_left hl] at hx; exact .inl hx
    · rw [List.getElem?_append_right (by omega)] at hx
      by_cases h0 : i - l.length = 0
      · rw [h0] at hx; simp at hx; exact .inr ⟨by omega, ho x hx⟩
      · have : [o][i - l.length]? = none := by rw [List.getElem?_eq_none]; simp; omega
        rw [this] at hx; cases hx
  refine ⟨fun i j x hij hi hj => ?_, fun i x hx => ?_, fun c hc => ⟨fun i hi => ?_, Nat.lt_of_lt_of_le (h.cold c hc).2 hs⟩⟩
  · rcases key i x hi with h1 | ⟨rfl, h1⟩ <;> rcases key j x hj with h2 | ⟨rfl, h2⟩
    · exact h.ok i j x hij h1 h2
    · have := (h.lt i x h1).2; omega
    · have := (h.lt j x h2).2; omega
    · exact hij rfl
  · rcases key i x hx with h1 | ⟨rfl, h1⟩
    · have := h.lt i x h1; omega
    · omega
  · rcases key i c hi with h1 | ⟨rfl, h1⟩
    · exact (h.cold c hc).1 i h1
    · have := (h.cold c hc).2; omega
/-- What is not worked on any more is left alone from now on. -/
theorem Hot.less {B : Nat} {w : World} {l : List (Option Nat)} {C D : List Nat} (h : Hot B w l C) (n : Nat) (hD : ∀ c ∈ D, (∃ i : Nat, n ≤ i ∧ l[i]? = some (some c)) ∨ c ∈ C) : Hot B w (l.take n) D := by
  have key : ∀ (i x : Nat), (l.take n)[i]? = some (some x) → l[i]? = some (some x) ∧ i < n := fun i x hx => by
    rw [List.getElem?_take] at hx
    split at hx
    · exact ⟨hx, by assumption⟩
    · cases hx
  refine ⟨fun i j x hij hi hj => h.ok i j x hij (key i x hi).1 (key j x hj).1, fun i x hx => h.lt i x (key i x hx).1, fun c hc => ?_⟩
  rcases hD c hc with ⟨i, hi, hl⟩ | hc
  · exact ⟨fun j hj => h.ok i j c (by have := (key j c hj).2; omega) hl (key j c hj).1, (h.lt i c hl).2⟩
  · exact ⟨fun j hj => (h.cold c hc).1 j (key j c hj).1, (h.cold c hc).2⟩
theorem Hot.addCold {B : Nat} {w w' : World} {l : List (Option Nat)} {C : List Nat} (h : Hot B w l C) (hs : w.heap.size ≤ w'.heap.size) (D : List Nat) (hD : ∀ c ∈ D, w.heap.size ≤ c ∧ c < w'.heap.size) : Hot B w' l (D ++ C) :=
  ⟨h.ok, fun i x hx => ⟨(h.lt i x hx).1, Nat.lt_of_lt_of_le (h.lt i x hx).2 hs⟩, fun c hc => by
    rcases List.mem_append.1 hc with hc | hc
    · exact ⟨fun i hi => by have := (h.lt i c hi).2; have := hD c hc; omega, (hD c hc).2⟩
    · exact ⟨(h.cold c hc).1, Nat.lt_of_lt_of_le (h.cold c hc).2 hs⟩⟩
abbrev prV (m : Md) : Value := .slice m.pa m.pn m.pc
theorem mds_one (l : List Md) : ∀ u ∈ mdsCells l, u.oneCell' = true := by
  intro u hu
  unfold mdsCells at hu
  obtain ⟨r, _, hr⟩ := List.mem_flatMap.1 hu
  simp only [mdCells, List.mem_cons, List.not_mem_nil, or_false] at hr
  rcases hr with rfl | rfl | rfl | rfl | rfl | rfl | rfl | rfl | rfl | rfl | rfl | rfl | rfl | rfl | rfl | rfl <;> rfl
/-- A call's pairs: a row of its own. -/
structure CallIs (B : Nat) (w : World) (q : MZ) : Prop where
  n : q.1.pn = q.2.length
  own : w.ownsRow B 47 2 (prV q.1) q.1.pn (pairsCells q.2)
  ts : q.1.ts < 18446744073709551616
  key : q.1.key.length ≤ maxLen
  kind : 0 ≤ q.1.kind ∧ q.1.kind ≤ 10
  small : q.1.pn ≤ 1000
  oval : q.1.oval.length ≤ 1000
theorem CallIs.mod {B : Nat} {S : List Nat} {w w' : World} {q : MZ} (h : CallIs B w q) (hm : Mod S w w') (hS : ∀ x ∈ S, (prV q.1).ownBlock ≠ some x) : CallIs B w' q := ⟨h.n, ownsRow_mod h.own hm hS, h.ts, h.key, h.kind, h.small, h.oval⟩
theorem CallIs.is {B : Nat} {w : World} {q : MZ} (h : CallIs B w q) : MdIs w q := ⟨h.n, (own_rows h.own).1, h.ts, h.key⟩
/-- A run: its map (mb), the rows of calls (v4) and entries (v5). The first three blocks of l are theirs. -/
structure RunAt (B : Nat) (w : World) (mb : Nat) (v4 v5 : Value) (l : List (Option Nat)) (C : List Nat) (X : List MZ) (Z : List EZ) (M : List KV) : Prop where
  hot : Hot B w l C
  l0 : l[0]? = some (some mb)
  l1 : l[1]? = some v4.ownBlock
  l2 : l[2]? = some v5.ownBlock
  map : PMapAt w mb M
  made : w.ownsRow B 37 16 v4 X.length (mdsCells (X.map (·.1)))
  ents : w.ownsRow B 40 3 v5 Z.length (entsCells (Z.map (·.1)))
  eachX : ∀ q ∈ X, CallIs B w q
  eachZ : ∀ q ∈ Z, EntIs w q.1 q.2
  coldX : ∀ q ∈ X, ∀ x, (prV q.1).ownBlock = some x → x ∈ C
  coldZ : ∀ q ∈ Z, ∀ g o, q.1.a = some ⟨g, o, none⟩ → g ∈ C
  apart : X.Pairwise fun p q => ∀ x, (prV p.1).ownBlock = some x → (prV q.1).ownBlock ≠ some x
  sep : ∀ q ∈ X, ∀ p ∈ Z, ∀ g o, p.1.a = some ⟨g, o, none⟩ → (prV q.1).ownBlock ≠ some g
  big : B ≤ w.heap.size
section
variable {B : Nat} {w w' : World} {mb : Nat} {v4 v5 : Value} {l : List (Option Nat)} {C : List Nat} {X : List MZ} {Z : List EZ} {M : List KV}
/-- Blocks behind the first three, or new ones, are changed. -/
theorem RunAt.mod (h : RunAt B w mb v4 v5 l C X Z M) {S : List Nat} (hm : Mod S w w') (hS : ∀ x ∈ S, w.heap.size ≤ x ∨ ∃ i : Nat, 3 ≤ i ∧ l[i]? = some (some x)) : RunAt B w' mb v4 v5 l C X Z M := by
  have hne : ∀ x ∈ S, ∀ i : Nat, i < 3 → l[i]? ≠ some (some x) := fun x hx i hi hl => by
    rcases hS x hx with h1 | ⟨j, hj, h1⟩
    · have := (h.hot.lt i x hl).2; omega
    · exact h.hot.ok i j x (by omega) hl h1
  have hc : ∀ x ∈ S, x ∉ C := fun x hx hC => by
    rcases hS x hx with h1 | ⟨j, _, h1⟩
    · have := (h.hot.cold x hC).2; omega
    · exact (h.hot.cold x hC).1 j h1
  refine ⟨h.hot.size hm.size, h.l0, h.l1, h.l2, h.map.mod hm (fun hx => hne mb hx 0 (by omega) h.l0), ownsRow_mod h.made hm (fun x hx e => hne x hx 1 (by omega) (by rw [h.l1, e])), ownsRow_mod h.ents hm (fun x hx e => hne x hx 2 (by omega) (by rw [h.l2, e])),
    fun q hq => (h.eachX q hq).mod hm (fun x hx e => hc x hx (h.coldX q hq x e)), fun q hq => (h.eachZ q hq).mod hm (fun g o e hx => hc g hx (h.coldZ q hq g o e)), h.coldX, h.coldZ, h.apart, h.sep, Nat.le_trans h.big hm.size⟩
theorem RunAt.on (h : RunAt B w mb v4 v5 l C X Z M) (hb : Below w.heap.size w w') : RunAt B w' mb v4 v5 l C X Z M := h.mod (S := []) (Mod.of_below hb) (by simp)
/-- A new block is worked on. -/
theorem RunAt.more (h : RunAt B w mb v4 v5 l C X Z M) (hb : Below w.heap.size w w') (o : Option Nat) (ho : ∀ x, o = some x → w.heap.size ≤ x ∧ x < w'.heap.size) : RunAt B w' mb v4 v5 (l ++ [o]) C X Z M := by
  have g : ∀ i v, l[i]? = some v → (l ++ [o])[i]? = some v := fun i v hi => by rw [List.getElem?_append_left (List.getElem?_eq_some_iff.1 hi).1]; exact hi
  have h2 := h.on hb
  exact ⟨h.hot.more hb.size o ho h.big, g 0 _ h.l0, g 1 _ h.l1, g 2 _ h.l2, h2.map, h2.made, h2.ents, h2.eachX, h2.eachZ, h.coldX, h.coldZ, h.apart, h.sep, h2.big⟩
/-- A block behind the first three grows into another one. -/
theorem RunAt.grow (h : RunAt B w mb v4 v5 l C X Z M) {S : List Nat} (hm : Mod S w w') (k : Nat) (hk : 3 ≤ k) (hS : ∀ x ∈ S, l[k]? = some (some x)) (o : Option Nat) (ho : ∀ x, o = some x → l[k]? = some (some x) ∨ (w.heap.size ≤ x ∧ x < w'.heap.size)) : RunAt B w' mb v4 v5 (l.set k o) C X Z M := by
  have h2 := h.mod hm (fun x hx => .inr ⟨k, hk, hS x hx⟩)
  exact ⟨h.hot.grow hm.size k o ho h.big, by rw [List.getElem?_set_ne (by omega)]; exact h.l0, by rw [List.getElem?_set_ne (by omega)]; exact h.l1, by rw [List.getElem?_set_ne (by omega)]; exact h.l2, h2.map, h2.made, h2.ents, h2.eachX, h2.eachZ, h.coldX, h.coldZ, h.apart, h.sep, h2.big⟩
/-- The map is changed. -/
theorem RunAt.mapped (h : RunAt B w mb v4 v5 l C X Z M) {M' : List KV} (hm : Mod [mb] w w') (hM : PMapAt w' mb M') : RunAt B w' mb v4 v5 l C X Z M' := by
  have hc : ∀ x ∈ C, x ≠ mb := fun x hx e => (h.hot.cold x hx).1 0 (by rw [h.l0, e])
  refine ⟨h.hot.size hm.size, h.l0, h.l1, h.l2, hM, ownsRow_mod h.made hm (fun x hx e => by simp at hx; subst hx; exact h.hot.ok 0 1 _ (by omega) h.l0 (by rw [h.l1, e])), ownsRow_mod h.ents hm (fun x hx e => by simp at hx; subst hx; exact h.hot.ok 0 2 _ (by omega) h.l0 (by rw [h.l2, e])),
    fun q hq => (h.eachX q hq).mod hm (fun x hx e => hc x (h.coldX q hq x e) (by simpa using hx)), fun q hq => (h.eachZ q hq).mod hm (fun g o e hx => hc g (h.coldZ q hq g o e) (by simpa using hx)), h.coldX, h.coldZ, h.apart, h.sep, Nat.le_trans h.big hm.size⟩
theorem bytes_made : (Try.prog.info? 37).map (fun i => (i.zero, i.size, i.bytes)) = some (some (.agg #[.int .u64 0, .int .i64 0, .int .i64 0, .int .u64 0, .string ⟨#[]⟩, .string ⟨#[]⟩, .string ⟨#[]⟩, .bool false, .int .u64 0, .int .i64 0, .int .i64 0, .bool false, .string ⟨#[]⟩, .slice none 0 0, .int .i64 0, .int .i64 0]), 16, 176) := by kernel_rfl
/-- A call is listed: it was built since the world w0, and so were its pairs. -/
theorem RunAt.listed (h : RunAt B w mb v4 v5 l C X Z M) (hX : X.length ≤ 100000) (q : MZ) (hq : CallIs B w q) (D : List Nat) (hD : ∀ x, (prV q.1).ownBlock = some x → x ∈ D) (hDl : ∀ x ∈ D, (∀ i : Nat, l[i]? ≠ some (some x)) ∧ x < w.heap.size ∧ x ∉ C) (ty : TypeId) :
    ∃ v' w', (Builtin.append_ #[24, 24] ty #[v4, .slice (some ⟨w.heap.size, 0, none⟩) 1 1]).run Try.prog (w.alloc (.cells (mdsCells [q.1]).toArray 37)) = .ok v' w' ∧
      RunAt B w' mb v' v5 (l.set 1 v'.ownBlock) (D ++ C) (X ++ [q]) Z M ∧ Mod v4.ownBlock.toList w w' ∧ (∀ x, v'.ownBlock = some x → v4.ownBlock = some x ∨ w.heap.size ≤ x) := by
  have hbn := (Below.refl w.heap.size w).alloc (Nat.le_refl _) (.cells (mdsCells [q.1]).toArray 37)
  have hN : Blk (w.alloc (.cells (mdsCells [q.1]).toArray 37)) w.heap.size (mdsCells [q.1]) 37 := Blk.new w _ _
  obtain ⟨v', w', hrun, hown', hmod, hblk⟩ := own_append 24 37 ty _ 16 176 Try.underlying24 bytes_made rfl (by decide) (by decide) (h.made.alloc (.cells (mdsCells [q.1]).toArray 37))
    (by omega) (by have := h.big; simp; omega) ⟨w.heap.size, 0, none⟩ 1 1 (mdsCells [q.1]) (by omega) (by omega) rfl
    (fun k u hk => by rw [addr_add', Nat.zero_add, hN.cell]; exact hk) (mds_one _)
  have hm : Mod v4.ownBlock.toList w w' := (Mod.of_below hbn).trans hmod
  have hbl : ∀ x, v'.ownBlock = some x → v4.ownBlock = some x ∨ w.heap.size ≤ x := fun x hx => by
    rcases hblk x hx with h1 | h1
    · exact .inl h1
    · right; simp at h1; omega
  have hcold : ∀ x ∈ v4.ownBlock.toList, x ∉ C := fun x hx hC => (h.hot.cold x hC).1 1 (by rw [h.l1]; simpa using hx)
  have hcoldD : ∀ x ∈ v4.ownBlock.toList, x ∉ D := fun x hx hC => (hDl x hC).1 1 (by rw [h.l1]; simpa using hx)
  have hvlt : ∀ x, v'.ownBlock = some x → x < w'.heap.size := fun x hx => (hown'.lt x hx).2
  have hot1 : Hot B w' (l.set 1 v'.ownBlock) C := h.hot.grow hm.size 1 _ (fun x hx => by
    rcases hbl x hx with h1 | h1
    · left; rw [h.l1, h1]
    · exact .inr ⟨h1, hvlt x hx⟩) h.big
  have hot2 : Hot B w' (l.set 1 v'.ownBlock) (D ++ C) := ⟨hot1.ok, hot1.lt, fun c hc => by
    rcases List.mem_append.1 hc with hc | hc
    · refine ⟨fun i hi => ?_, Nat.lt_of_lt_of_le (hDl c hc).2.1 hm.size⟩
      by_cases hi1 : i = 1
      · subst hi1
        have hl : 1 < l.length := (List.getElem?_eq_some_iff.1 h.l1).1
        rw [List.getElem?_set_self hl] at hi
        rcases hbl c (Option.some.inj hi) with h1 | h1
        · exact (hDl c hc).1 1 (by rw [h.l1, h1])
        · have := (hDl c hc).2.1; omega
      · rw [List.getElem?_set_ne (Ne.symm hi1)] at hi
        exact (hDl c hc).1 i hi
    · exact hot1.cold c hc⟩
  have hl1 : 1 < l.length := (List.getElem?_eq_some_iff.1 h.l1).1
  refine ⟨v', w', hrun, ⟨hot2, by rw [List.getElem?_set_ne (by omega)]; exact h.l0, by rw [List.getElem?_set_self hl1], by rw [List.getElem?_set_ne (by omega)]; exact h.l2, h.map.mod hm (fun hx => h.hot.ok 0 1 mb (by omega) h.l0 (by rw [h.l1]; simpa using hx)), ?_, ownsRow_mod h.ents hm (fun x hx e => h.hot.ok 2 1 x (by omega) (by rw [h.l2, e]) (by rw [h.l1]; simpa using hx)), ?_, fun p hp => (h.eachZ p hp).mod hm (fun g o e hx => hcold g hx (h.coldZ p hp g o e)), ?_, fun p hp g o e => List.mem_append_right _ (h.coldZ p hp g o e), ?_, ?_, Nat.le_trans h.big hm.size⟩, hm, hbl⟩
  · rw [List.length_append, List.map_append, mds_append]; exact hown'
  · intro p hp
    rcases List.mem_append.1 hp with hp | hp
    · exact (h.eachX p hp).mod hm (fun x hx e => hcold x hx (h.coldX p hp x e))
    · simp only [List.mem_singleton] at hp; subst hp
      exact hq.mod hm (fun x hx e => hcoldD x hx (hD x e))
  · intro p hp x hx
    rcases List.mem_append.1 hp with hp | hp
    · exact List.mem_append_right _ (h.coldX p hp x hx)
    · simp only [List.mem_singleton] at hp; subst hp
      exact List.mem_append_left _ (hD x hx)
  · refine List.pairwise_append.2 ⟨h.apart, by simp, fun p hp r hr x hx hy => ?_⟩
    simp only [List.mem_singleton] at hr; subst hr
    exact (hDl x (hD x hy)).2.2 (h.coldX p hp x hx)
  · intro r hr p hp g o e hx
    rcases List.mem_append.1 hr with hr | hr
    · exact h.sep r hr p hp g o e hx
    · simp only [List.mem_singleton] at hr; subst hr
      exact (hDl g (hD g hx)).2.2 (h.coldZ p hp g o e)
/-- An entry is listed. -/
theorem RunAt.logged (h : RunAt B w mb v4 v5 l C X Z M) (hZ : Z.length ≤ 100000) (q : EZ) (hq : EntIs w q.1 q.2) (D : List Nat) (hD : ∀ g o, q.1.a = some ⟨g, o, none⟩ → g ∈ D) (hDl : ∀ x ∈ D, (∀ i : Nat, i < 3 → l[i]? ≠ some (some x)) ∧ x < w.heap.size) (hDC : ∀ g o, q.1.a = some ⟨g, o, none⟩ → g ∉ C) (ty : TypeId) :
    ∃ v' w', (Builtin.append_ #[25, 25] ty #[v5, .slice (some ⟨w.heap.size, 0, none⟩) 1 1]).run Try.prog (w.alloc (.cells (entCells q.1).toArray 40)) = .ok v' w' ∧
      RunAt B w' mb v4 v' ((l.take 3).set 2 v'.ownBlock) (D ++ C) X (Z ++ [q]) M ∧ Mod v5.ownBlock.toList w w' := by
  have hbn := (Below.refl w.heap.size w).alloc (Nat.le_refl _) (.cells (entCells q.1).toArray 40)
  have hN : Blk (w.alloc (.cells (entCells q.1).toArray 40)) w.heap.size (entCells q.1) 40 := Blk.new w _ _
  obtain ⟨v', w', hrun, hown', hmod, hblk⟩ := own_append 25 40 ty _ 3 40 Try.underlying25 info_entry rfl (by decide) (by decide) (h.ents.alloc (.cells (entCells q.1).toArray 40))
    (by omega) (by have := h.big; simp; omega) ⟨w.heap.size, 0, none⟩ 1 1 (entsCells [q.1]) (by omega) (by omega) rfl
    (fun k u hk => by rw [addr_add', Nat.zero_add, hN.cell]; simpa [entsCells] using hk) (ents_one _)
  have hm : Mod v5.ownBlock.toList w w' := (Mod.of_below hbn).trans hmod
  have hbl : ∀ x, v'.ownBlock = some x → v5.ownBlock = some x ∨ w.heap.size ≤ x := fun x hx => by
    rcases hblk x hx with h1 | h1
    · exact .inl h1
    · right; simp at h1; omega
  have h3 : 2 < l.length := (List.getElem?_eq_some_iff.1 h.l2).1
  have hl3 : 2 < (l.take 3).length := by rw [List.length_take]; omega
  have gt : ∀ i, i < 3 → (l.take 3)[i]? = l[i]? := fun i hi => by rw [List.getElem?_take, if_pos hi]
  have hcold : ∀ x ∈ v5.ownBlock.toList, x ∉ C := fun x hx hC => (h.hot.cold x hC).1 2 (by rw [h.l2]; simpa using hx)
  have hcoldD : ∀ x ∈ v5.ownBlock.toList, x ∉ D := fun x hx hC => (hDl x hC).1 2 (by omega) (by rw [h.l2]; simpa using hx)
  have hvlt : ∀ x, v'.ownBlock = some x → x < w'.heap.size := fun x hx => (hown'.lt x hx).2
  have hot0 : Hot B w (l.take 3) (D ++ C) := by
    have hh := h.hot.less (D := C) 3 (fun c hc => .inr hc)
    refine ⟨hh.ok, hh.lt, fun c hc => ?_⟩
    rcases List.mem_append.1 hc with hc | hc
    · refine ⟨fun i hi => ?_, (hDl c hc).2⟩
      rw [List.getElem?_take] at hi
      split at hi
      · rename_i h3; exact (hDl c hc).1 i h3 hi
      · cases hi
    · exact hh.cold c hc
  have hot2 : Hot B w' ((l.take 3).set 2 v'.ownBlock) (D ++ C) := hot0.grow hm.size 2 _ (fun x hx => by
    rcases hbl x hx with h1 | h1
    · left; rw [gt 2 (by omega), h.l2, h1]
    · exact .inr ⟨h1, hvlt x hx⟩) h.big
  refine ⟨v', w', hrun, ⟨hot2, by rw [List.getElem?_set_ne (by omega), gt 0 (by omega)]; exact h.l0, by rw [List.getElem?_set_ne (by omega), gt 1 (by omega)]; exact h.l1, by rw [List.getElem?_set_self hl3], h.map.mod hm (fun hx => h.hot.ok 0 2 mb (by omega) h.l0 (by rw [h.l2]; simpa using hx)), ownsRow_mod h.made hm (fun x hx e => h.hot.ok 1 2 x (by omega) (by rw [h.l1, e]) (by rw [h.l2]; simpa using hx)), ?_, fun p hp => (h.eachX p hp).mod hm (fun x hx e => hcold x hx (h.coldX p hp x e)), ?_, fun p hp x hx => List.mem_append_right _ (h.coldX p hp x hx), ?_, h.apart, ?_, Nat.le_trans h.big hm.size⟩, hm⟩
  · rw [List.length_append, List.map_append, ents_append]; exact hown'
  · intro p hp
    rcases List.mem_append.1 hp with hp | hp
    · exact (h.eachZ p hp).mod hm (fun g o e hx => hcold g hx (h.coldZ p hp g o e))
    · simp only [List.mem_singleton] at hp; subst hp
      exact hq.mod hm (fun g o e hx => hcoldD g hx (hD g o e))
  · intro p hp g o e
    rcases List.mem_append.1 hp with hp | hp
    · exact List.mem_append_right _ (h.coldZ p hp g o e)
    · simp only [List.mem_singleton] at hp; subst hp
      exact List.mem_append_left _ (hD g o e)
  · intro r hr p hp g o e hx
    rcases List.mem_append.1 hp with hp | hp
    · exact h.sep r hr p hp g o e hx
    · simp only [List.mem_singleton] at hp; subst hp
      exact hDC g o e (h.coldX r hr g hx)
/-- Only the first three blocks are worked on any more. -/
theorem RunAt.less (h : RunAt B w mb v4 v5 l C X Z M) : RunAt B w mb v4 v5 (l.take 3) C X Z M :=
  ⟨h.hot.less 3 (fun c hc => .inr hc), by rw [List.getElem?_take, if_pos (by omega)]; exact h.l0, by rw [List.getElem?_take, if_pos (by omega)]; exact h.l1, by rw [List.getElem?_take, if_pos (by omega)]; exact h.l2, h.map, h.made, h.ents, h.eachX, h.eachZ, h.coldX, h.coldZ, h.apart, h.sep, h.big⟩
theorem RunAt.madeAt (h : RunAt B w mb v4 v5 l C X Z M) : ∃ a c, v4 = .slice a X.length c ∧ MadeAt w a X.length c X := by
  obtain ⟨a, c, rfl⟩ := own_slice h.made
  exact ⟨a, c, rfl, rfl, (own_rows h.made).1, fun q hq => (h.eachX q hq).is⟩
theorem RunAt.entsAt (h : RunAt B w mb v4 v5 l C X Z M) : ∃ a c, v5 = .slice a Z.length c ∧ EntsAt w a Z.length c Z := by
  obtain ⟨a, c, rfl⟩ := own_slice h.ents
  exact ⟨a, c, rfl, rfl, (own_rows h.ents).1, h.eachZ⟩
end
end Go.Proofs.Ytffianjbljgnaaa
