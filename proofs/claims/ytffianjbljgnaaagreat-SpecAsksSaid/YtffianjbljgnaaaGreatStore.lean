/-
  A store: a map of texts, as a list of pairs whose keys rise; what an operation makes of it. No condition.
-/
import Derived.Test.YtffianjbljgnaaaGreatApp
import Derived.Test.YtffianjbljgnaaaGreatLay
namespace Go.Proofs.YtffianjbljgnaaaGreat
set_option linter.unusedVariables false
set_option linter.unusedSimpArgs false
open Go.RowKit Go.Maps

abbrev Txt := List UInt8
abbrev KV := Txt × Txt
def str (l : Txt) : Value := .string ⟨l.toArray⟩
def Asc (M : List KV) : Prop := M.Pairwise fun a b => a.1 < b.1
def put : List KV → Txt → Txt → List KV
  | [], k, v => [(k, v)]
  | p :: t, k, v => if p.1 < k then p :: put t k v else if p.1 = k then (k, v) :: t else (k, v) :: p :: t
def drop (M : List KV) (k : Txt) : List KV := M.filter fun p => decide (p.1 ≠ k)
def look : List KV → Txt → Option Txt
  | [], _ => none
  | p :: t, k => if k = p.1 then some p.2 else look t k

theorem txt_lt_irrefl (a : Txt) : ¬ a < a := List.lt_irrefl a
theorem txt_lt_trans {a b c : Txt} (h : a < b) (k : b < c) : a < c := List.lt_trans h k
theorem txt_lt_of {a b : Txt} (h1 : ¬ a < b) (h2 : ¬ a = b) : b < a := by
  refine Classical.byContradiction fun h3 => h2 (List.le_antisymm (List.not_lt.1 h3) (List.not_lt.1 h1))
theorem txt_ne {a b : Txt} (h : a < b) : a ≠ b := fun e => txt_lt_irrefl a (by rw [← e] at h; exact h)

theorem put_lookup (M : List KV) (k v x : Txt) : look (put M k v) x = if x = k then some v else look M x := by
  induction M with
  | nil => rfl
  | cons p t ih =>
    unfold put
    split
    · rename_i hlt
      unfold look
      rw [ih]
      by_cases hx : x = p.1
      · subst hx
        rw [if_pos rfl, if_neg (txt_ne hlt), if_pos rfl]
      · rw [if_neg hx, if_neg hx]
    · split
      · rename_i h1 h2
        subst h2
        show (if x = p.1 then some v else look t x) = if x = p.1 then some v else if x = p.1 then some p.2 else look t x
        by_cases hx : x = p.1
        · rw [if_pos hx, if_pos hx]
        · rw [if_neg hx, if_neg hx, if_neg hx]
      · rfl
theorem put_mem (M : List KV) (k v : Txt) (q : KV) (h : q ∈ put M k v) : q = (k, v) ∨ q ∈ M := by
  induction M with
  | nil => simpa [put] using h
  | cons p t ih =>
    unfold put at h
    split at h
    · rcases List.mem_cons.1 h with rfl | h
      · exact .inr (by simp)
      · exact (ih h).imp id (fun h => List.mem_cons_of_mem _ h)
    · split at h
      · rcases List.mem_cons.1 h with rfl | h
        · exact .inl rfl
        · exact .inr (List.mem_cons_of_mem _ h)
      · rcases List.mem_cons.1 h with rfl | h
        · exact .inl rfl
        · exact .inr h
theorem put_asc {M : List KV} (h : Asc M) (k v : Txt) : Asc (put M k v) := by
  induction M with
  | nil => exact List.pairwise_singleton _ _
  | cons p t ih =>
    obtain ⟨h1, h2⟩ := List.pairwise_cons.1 h
    unfold put
    split
    · rename_i hlt
      refine List.pairwise_cons.2 ⟨fun q hq => ?_, ih h2⟩
      rcases put_mem t k v q hq with rfl | hq
      · exact hlt
      · exact h1 q hq
    · split
      · rename_i _ he
        exact List.pairwise_cons.2 ⟨fun q hq => he ▸ h1 q hq, h2⟩
      · rename_i hn he
        have hk : k < p.1 := txt_lt_of hn he
        refine List.pairwise_cons.2 ⟨fun q hq => ?_, h⟩
        rcases List.mem_cons.1 hq with rfl | hq
        · exact hk
        · exact txt_lt_trans hk (h1 q hq)
theorem lookup_none_of {M : List KV} {k : Txt} (h : ∀ p ∈ M, p.1 ≠ k) : look M k = none := by
  induction M with
  | nil => rfl
  | cons p t ih =>
    unfold look
    rw [if_neg (fun e => h p (by simp) e.symm), ih (fun q hq => h q (List.mem_cons_of_mem _ hq))]
theorem put_length {M : List KV} (h : Asc M) (k v : Txt) : (put M k v).length = if (look M k).isSome then M.length else M.length + 1 := by
  induction M with
  | nil => rfl
  | cons p t ih =>
    obtain ⟨h1, h2⟩ := List.pairwise_cons.1 h
    unfold put look
    split
    · rename_i hlt
      have hk : ¬ k = p.1 := fun e => txt_ne hlt e.symm
      rw [List.length_cons, ih h2, if_neg hk, List.length_cons]
      split <;> rfl
    · split
      · rename_i _ he
        rw [if_pos he.symm]; rfl
      · rename_i hn he
        have hk : k < p.1 := txt_lt_of hn he
        have e1 : ¬ k = p.1 := fun e => he e.symm
        have e2 : look t k = none := lookup_none_of fun q hq e => txt_lt_irrefl k (by have := txt_lt_trans hk (h1 q hq); rwa [e] at this)
        rw [if_neg e1, e2]; rfl
theorem drop_asc {M : List KV} (h : Asc M) (k : Txt) : Asc (drop M k) := List.Pairwise.filter _ h
theorem drop_lookup (M : List KV) (k x : Txt) : look (drop M k) x = if x = k then none else look M x := by
  induction M with
  | nil => simp [drop, look]
  | cons p t ih =>
    unfold drop at ih ⊢
    rw [List.filter_cons]
    by_cases hp : p.1 = k
    · rw [if_neg (by simp [hp]), ih]
      show _ = if x = k then none else if x = p.1 then some p.2 else look t x
      by_cases hx : x = k
      · rw [if_pos hx, if_pos hx]
      · rw [if_neg hx, if_neg hx, if_neg (by rw [hp]; exact hx)]
    · rw [if_pos (by simp [hp])]
      show (if x = p.1 then some p.2 else look _ x) = if x = k then none else if x = p.1 then some p.2 else look t x
      rw [ih]
      by_cases hx : x = p.1
      · rw [if_pos hx, if_neg (by rw [hx]; exact hp), if_pos hx]
      · rw [if_neg hx, if_neg hx]
theorem drop_length {M : List KV} (h : Asc M) (k : Txt) : (drop M k).length = if (look M k).isSome then M.length - 1 else M.length := by
  induction M with
  | nil => rfl
  | cons p t ih =>
    obtain ⟨h1, h2⟩ := List.pairwise_cons.1 h
    have ih := ih h2
    unfold drop at ih ⊢
    rw [List.filter_cons]
    unfold look
    by_cases hp : p.1 = k
    · have e2 : t.filter (fun p => decide (p.1 ≠ k)) = t := List.filter_eq_self.2 fun q hq => by
        have := txt_ne (h1 q hq)
        rw [hp] at this
        simp [Ne.symm this]
      rw [if_neg (by simp [hp]), e2, if_pos hp.symm]
      simp
    · have hk : ¬ k = p.1 := fun e => hp e.symm
      rw [if_pos (show decide (p.1 ≠ k) = true by simp [hp]), if_neg hk, List.length_cons, ih, List.length_cons]
      cases hl : look t k with
      | none => rfl
      | some z =>
        have : 0 < t.length := by
          cases t with
          | nil => cases hl
          | cons _ _ => simp
        show t.length - 1 + 1 = t.length + 1 - 1
        omega

structure Rec where
  key : Txt
  lsn : Nat
  del : Bool
  val : Txt
  deriving DecidableEq
def recCells (r : Rec) : List Value := [.string ⟨r.key.toArray⟩, .int .u64 (r.lsn : Nat), .bool r.del, .string ⟨r.val.toArray⟩]
def app (M : List KV) (r : Rec) : List KV := if r.del then drop M r.key else put M r.key r.val
theorem app_asc {M : List KV} (h : Asc M) (r : Rec) : Asc (app M r) := by
  unfold app
  split
  · exact drop_asc h _
  · exact put_asc h _ _
theorem app_length {M : List KV} (h : Asc M) (r : Rec) : (app M r).length ≤ M.length + 1 := by
  unfold app
  split
  · rw [drop_length h]; split <;> omega
  · rw [put_length h]; split <;> omega

/-- Block b is a store that holds M. -/
structure StoreAt (w : World) (b : Nat) (M : List KV) : Prop where
  asc : Asc M
  keys : ∀ p ∈ M, p.1.length ≤ maxLen
  map : VMap textKey w b M.length (fun x => (look M x).map str)
theorem StoreAt.on {w w' : World} {b : Nat} {M : List KV} (h : StoreAt w b M) (hb : Below w.heap.size w w') : StoreAt w' b M := ⟨h.asc, h.keys, h.map.on hb⟩
theorem StoreAt.mod {S : List Nat} {w w' : World} {b : Nat} {M : List KV} (h : StoreAt w b M) (hm : Mod S w w') (hn : b ∉ S) : StoreAt w' b M := ⟨h.asc, h.keys, h.map.mod hm hn⟩
theorem StoreAt.made (w : World) : StoreAt (w.alloc (.map #[] 0)) w.heap.size [] := ⟨List.Pairwise.nil, by simp, (VMap.made textKey w).congr (fun x => rfl)⟩
theorem StoreAt.lt {w : World} {b : Nat} {M : List KV} (h : StoreAt w b M) : b < w.heap.size := h.map.lt
theorem StoreAt.puts {w : World} {b : Nat} {M : List KV} (h : StoreAt w b M) (hM : M.length ≤ 1000000) (k v : Txt) (hk : k.length ≤ maxLen) :
    ∃ w', (Instr.mapUpdate 55 (.map (some b)) (.string ⟨k.toArray⟩) (.string ⟨v.toArray⟩)).run Tryz.prog w = .ok () w' ∧ StoreAt w' b (put M k v) ∧ Mod [b] w w' := by
  obtain ⟨w', hr, hm, hmod⟩ := h.map.store (e := 9) Tryz.underlying55 (by unfold maxLen; omega) k hk (.string ⟨v.toArray⟩)
  refine ⟨w', hr, ⟨put_asc h.asc k v, fun p hp => ?_, ?_⟩, hmod⟩
  · rcases put_mem M k v p hp with rfl | hp
    · exact hk
    · exact h.keys p hp
  · have e : (if ((look M k).map str).isSome then M.length else M.length + 1) = (put M k v).length := by rw [put_length h.asc]; simp
    rw [e] at hm
    exact hm.congr fun x => by
      show _ = (look (put M k v) x).map str
      rw [put_lookup]
      split <;> rfl
theorem StoreAt.drops {w : World} {b : Nat} {M : List KV} (h : StoreAt w b M) (k : Txt) (hk : k.length ≤ maxLen) (ty : TypeId) :
    ∃ w', (Builtin.delete_ #[55, 9] ty #[.map (some b), .string ⟨k.toArray⟩]).run Tryz.prog w = .ok (.tuple #[]) w' ∧ StoreAt w' b (drop M k) ∧ Mod [b] w w' := by
  obtain ⟨w', hr, hm, hmod⟩ := h.map.drop (e := 9) Tryz.underlying55 k hk ty
  refine ⟨w', hr, ⟨drop_asc h.asc k, fun p hp => h.keys p (List.mem_filter.1 hp).1, ?_⟩, hmod⟩
  have e : (if ((look M k).map str).isSome then M.length - 1 else M.length) = (drop M k).length := by rw [drop_length h.asc]; simp
  rw [e] at hm
  exact hm.congr fun x => by
    show _ = (look (drop M k) x).map str
    rw [drop_lookup]
    split <;> rfl
theorem StoreAt.looks {w : World} {b : Nat} {M : List KV} (h : StoreAt w b M) (k : Txt) (hk : k.length ≤ maxLen) :
    (Instr.lookup 55 (.map (some b)) (.string ⟨k.toArray⟩) false).run Tryz.prog w = .ok (str ((look M k).getD [])) w := by
  have := h.map.look_run (e := 9) Tryz.underlying55 (z := str []) (by kernel_rfl) k hk
  rw [show (textKey.val k) = .string ⟨k.toArray⟩ from rfl] at this
  rw [this]
  cases look M k <;> rfl
theorem StoreAt.looks_ok {w : World} {b : Nat} {M : List KV} (h : StoreAt w b M) (k : Txt) (hk : k.length ≤ maxLen) :
    (Instr.lookup 55 (.map (some b)) (.string ⟨k.toArray⟩) true).run Tryz.prog w = .ok (.tuple #[str ((look M k).getD []), .bool (look M k).isSome]) w := by
  have := h.map.look_ok (e := 9) Tryz.underlying55 (z := str []) (by kernel_rfl) k hk
  rw [show (textKey.val k) = .string ⟨k.toArray⟩ from rfl] at this
  rw [this]
  cases look M k <;> rfl
/-- What an operation on a store ends with. -/
def DoneS (b : Nat) (M' : List KV) (w : World) (e : Ending) (w' : World) : Prop := e = .returned (.tuple #[]) ∧ StoreAt w' b M' ∧ Mod [b] w w'
set_option maxHeartbeats 2000000 in
theorem do_any (w : World) (b : Nat) (M : List KV) (h : StoreAt w b M) (hM : M.length ≤ 1000000) (r : Rec) (hk : r.key.length ≤ maxLen) :
    Calls Tryz.prog 50 #[.map (some b), .agg #[.string ⟨r.key.toArray⟩, .int .u64 (r.lsn : Nat), .bool r.del, .string ⟨r.val.toArray⟩]] w (DoneS b (app M r) w) := by
  obtain ⟨k, l, d, v⟩ := r
  simp only at hk ⊢
  have hR : Blk (w.alloc (.cells #[.string ⟨k.toArray⟩, .int .u64 (l : Nat), .bool d, .string ⟨v.toArray⟩] 68)) w.heap.size [.string ⟨k.toArray⟩, .int .u64 (l : Nat), .bool d, .string ⟨v.toArray⟩] 68 := Blk.new _ _ _
  have hb := (Below.refl w.heap.size w).alloc (Nat.le_refl _) (.cells #[.string ⟨k.toArray⟩, .int .u64 (l : Nat), .bool d, .string ⟨v.toArray⟩] 68)
  have hS := h.on hb
  cases d with
  | true =>
    obtain ⟨w', hr, hs, hm⟩ := hS.drops k hk 0
    have HE := Lib.hid (show DoneS b (app M ⟨k, l, true, v⟩) w (.returned (.tuple #[])) w' from ⟨rfl, hs, (Mod.of_below hb).trans hm⟩)
    clear hs hm hS h
    go_enter Tryz.func50, Tryz.ntmps50
    go_wp2_with fail
    refine bodyPost_ret (results_none rfl _ _ _) rfl ?_
    exact HE.out
  | false =>
    obtain ⟨w', hr, hs, hm⟩ := hS.puts hM k v hk
    have HE := Lib.hid (show DoneS b (app M ⟨k, l, false, v⟩) w (.returned (.tuple #[])) w' from ⟨rfl, hs, (Mod.of_below hb).trans hm⟩)
    clear hs hm hS h
    go_enter Tryz.func50, Tryz.ntmps50
    go_wp2_with fail
    go_end0
    exact HE.out
end Go.Proofs.YtffianjbljgnaaaGreat
