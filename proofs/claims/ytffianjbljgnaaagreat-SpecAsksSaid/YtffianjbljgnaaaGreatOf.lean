/-
  Entries by their timestamps: a map of rows, each its own. No condition.
-/
import Derived.Test.YtffianjbljgnaaaGreatIndex
namespace Go.Proofs.YtffianjbljgnaaaGreat
set_option linter.unusedVariables false
set_option linter.unusedSimpArgs false
open Go.RowKit Go.Maps

def ofZ (z : List EZ) (ts : Nat) : List EZ := z.filter fun q => decide (q.1.ts = ts)
/-- The value under a key. -/
def ofV (F : Nat → Option Value) (ts : Nat) : Value := (F ts).getD (.slice none 0 0)
/-- Block ob is the map of z's entries, by their timestamps; the rows lie from block B on, each in a block of its own. -/
structure OfAt (w : World) (ob B : Nat) (z : List EZ) (F : Nat → Option Value) (n : Nat) : Prop where
  map : VMap numKey w ob n F
  cnt : n ≤ z.length
  row : ∀ ts, w.ownsRow B 36 3 (ofV F ts) (ofZ z ts).length (entsCells ((ofZ z ts).map (·.1)))
  apart : ∀ t t' x, t ≠ t' → (ofV F t).ownBlock = some x → (ofV F t').ownBlock ≠ some x
  obl : ob < B
theorem OfAt.on {w w' : World} {ob B n : Nat} {z : List EZ} {F : Nat → Option Value} (h : OfAt w ob B z F n) (hb : Below w.heap.size w w') : OfAt w' ob B z F n :=
  ⟨h.map.on hb, h.cnt, fun ts => ownsRow_mod (S := []) (h.row ts) (Mod.of_below hb) (by simp), h.apart, h.obl⟩
theorem OfAt.mod {S : List Nat} {w w' : World} {ob B n : Nat} {z : List EZ} {F : Nat → Option Value} (h : OfAt w ob B z F n) (hm : Mod S w w') (hS : ∀ x ∈ S, x ≠ ob ∧ x < B) : OfAt w' ob B z F n :=
  ⟨h.map.mod hm (fun hx => (hS _ hx).1 rfl), h.cnt, fun ts => ownsRow_mod (h.row ts) hm (fun s hs e => by have := ((h.row ts).lt s e).1; have := (hS s hs).2; omega), h.apart, h.obl⟩
theorem OfAt.made (w : World) : OfAt (w.alloc (.map #[] 0)) w.heap.size (w.heap.size + 1) [] (fun _ => none) 0 :=
  ⟨VMap.made numKey w, Nat.le_refl _, fun ts => ⟨rfl, .inl ⟨rfl, rfl⟩⟩, (fun t t' x _ h => by cases h), by omega⟩
theorem OfAt.look {w : World} {ob B n : Nat} {z : List EZ} {F : Nat → Option Value} (h : OfAt w ob B z F n) (ts : Nat) (hts : ts < 18446744073709551616) :
    (Instr.lookup 59 (.map (some ob)) (.int .u64 (ts : Nat)) false).run Tryz.prog w = .ok (ofV F ts) w := by
  have := h.map.look_run (e := 22) (z := .slice none 0 0) Tryz.underlying59 (by kernel_rfl) ts hts
  rw [show numKey.val ts = .int .u64 (ts : Nat) from rfl] at this
  exact this
theorem oper_append_run3 {P : Program} {w : World} {o : Oper} {a : Act} {K : Act → World → Prop} {Q : Exit → Act → World → Prop} (s x : Operand) (t : TypeId)
    (ho : o.op = .call { callee := .builtin .append, args := #[s, x], argTypes := #[t, t] }) (v xv v' : Value) (w' : World) (hs : a.eval s = v) (hx : a.eval x = xv)
    (hrun : (Builtin.append_ #[t, t] o.type #[v, xv]).run P w = .ok v' w') (h : K (a.put o.dst v') w') : Oper.wp P o a w K Q := by
  unfold Oper.wp
  simp [execOp, ho, resolve, invoke, builtin, hs, hx, hrun, Result.andThen]
  exact h
/-- An entry is put behind those of its timestamp. -/
theorem OfAt.put {w : World} {ob B n : Nat} {z : List EZ} {F : Nat → Option Value} (h : OfAt w ob B z F n) (hB : B ≤ w.heap.size) (hz : z.length ≤ 100000) (q : EZ) (hts : q.1.ts < 18446744073709551616) (ty : TypeId) (c : Array Value) (hc : c = #[.int .u64 (q.1.ts : Nat), .int .u64 (q.1.first : Nat), .slice q.1.a q.1.n q.1.c]) (m : Nat) (hm : m = w.heap.size) :
    ∃ v' w1 w2 F' n', (Builtin.append_ #[22, 22] ty #[ofV F q.1.ts, .slice (some ⟨m, 0, none⟩) 1 1]).run Tryz.prog (w.alloc (.cells c 36)) = .ok v' w1 ∧ Mod (ofV F q.1.ts).ownBlock.toList w w1 ∧
      (Instr.mapUpdate 59 (.map (some ob)) (.int .u64 (q.1.ts : Nat)) v').run Tryz.prog w1 = .ok () w2 ∧ OfAt w2 ob B (z ++ [q]) F' n' ∧ Mod (ob :: (ofV F q.1.ts).ownBlock.toList) w w2 := by
  subst hc hm
  have hbn := (Below.refl w.heap.size w).alloc (Nat.le_refl _) (.cells #[.int .u64 (q.1.ts : Nat), .int .u64 (q.1.first : Nat), .slice q.1.a q.1.n q.1.c] 36)
  have hfl : (ofZ z q.1.ts).length ≤ z.length := List.length_filter_le _ _
  obtain ⟨v', w1, hrun, hown, hmod, hblk⟩ := own_append 22 36 ty _ 3 40 Tryz.underlying22 info_entry rfl (by decide) (by decide) ((h.row q.1.ts).alloc (.cells #[.int .u64 (q.1.ts : Nat), .int .u64 (q.1.first : Nat), .slice q.1.a q.1.n q.1.c] 36))
    (by omega) (by simp; omega) ⟨w.heap.size, 0, none⟩ 1 1 (entCells q.1) (by omega) (by omega) rfl
    (fun k u hk => by rw [addr_add', Nat.zero_add, World.cell?_alloc_new]; simpa [entCells] using hk)
    (by intro u hu; simp only [entCells, List.mem_cons, List.not_mem_nil, or_false] at hu; rcases hu with rfl | rfl | rfl <;> rfl)
  have hm1 : Mod (ofV F q.1.ts).ownBlock.toList w w1 := (Mod.of_below hbn).trans hmod
  have hobn : ob ∉ (ofV F q.1.ts).ownBlock.toList := fun hx => by
    have := ((h.row q.1.ts).lt ob (by simpa using hx)).1
    have := h.obl
    omega
  obtain ⟨w2, hr2, hv2, hm2⟩ := (h.map.mod hm1 hobn).store (e := 22) Tryz.underlying59 (by have := h.cnt; unfold maxLen; omega) q.1.ts hts v'
  rw [show numKey.val q.1.ts = .int .u64 (q.1.ts : Nat) from rfl] at hr2
  have hfresh : ∀ x, v'.ownBlock = some x → (ofV F q.1.ts).ownBlock = some x ∨ w.heap.size ≤ x := fun x hx => (hblk x hx).imp id (fun h => by simp at h; omega)
  have hm12 : Mod (ob :: (ofV F q.1.ts).ownBlock.toList) w w2 := (hm1.mono (fun x hx => .inl (List.mem_cons_of_mem _ hx))).trans (hm2.mono (fun x hx => by simp at hx; left; simp [hx]))
  refine ⟨v', w1, w2, _, _, hrun, hm1, hr2, ⟨hv2, ?_, fun ts => ?_, fun t t' x hne hx => ?_, h.obl⟩, hm12⟩
  · rw [List.length_append]; have := h.cnt; split <;> simp <;> omega
  · by_cases hts2 : ts = q.1.ts
    · subst hts2
      have e1 : ofV (fun y => if y = q.1.ts then some v' else F y) q.1.ts = v' := by unfold ofV; simp
      have e2 : ofZ (z ++ [q]) q.1.ts = ofZ z q.1.ts ++ [q] := by unfold ofZ; rw [List.filter_append]; simp
      rw [e1, e2, List.length_append, List.map_append, ents_append]
      refine ownsRow_mod (S := [ob]) ?_ hm2 (fun s hs hx => ?_)
      · simpa [entsCells] using hown
      · rw [List.mem_singleton.1 hs] at hx
        have := (hown.lt ob hx).1
        have := h.obl
        omega
    · have e1 : ofV (fun y => if y = q.1.ts then some v' else F y) ts = ofV F ts := by unfold ofV; simp [hts2]
      have e2 : ofZ (z ++ [q]) ts = ofZ z ts := by
        unfold ofZ
        rw [List.filter_append]
        have : ¬ q.1.ts = ts := fun e => hts2 e.symm
        simp [this]
      rw [e1, e2]
      refine ownsRow_mod (h.row ts) hm12 (fun s hs hx => ?_)
      rcases List.mem_cons.1 hs with rfl | hs
      · have := ((h.row ts).lt s hx).1
        have := h.obl
        omega
      · exact h.apart _ _ s hts2 hx (by simpa using hs)
  · by_cases h1 : t = q.1.ts
    · subst h1
      rw [show ofV (fun y => if y = q.1.ts then some v' else F y) q.1.ts = v' by unfold ofV; simp] at hx
      rw [show ofV (fun y => if y = q.1.ts then some v' else F y) t' = ofV F t' by unfold ofV; simp [Ne.symm hne]]
      rcases hfresh x hx with h2 | h2
      · exact h.apart _ _ x hne h2
      · intro h3
        have := ((h.row t').lt x h3).2
        omega
    · rw [show ofV (fun y => if y = q.1.ts then some v' else F y) t = ofV F t by unfold ofV; simp [h1]] at hx
      by_cases h2 : t' = q.1.ts
      · subst h2
        rw [show ofV (fun y => if y = q.1.ts then some v' else F y) q.1.ts = v' by unfold ofV; simp]
        intro h3
        rcases hfresh x h3 with h4 | h4
        · exact h.apart _ _ x hne hx h4
        · have := ((h.row t).lt x hx).2
          omega
      · rw [show ofV (fun y => if y = q.1.ts then some v' else F y) t' = ofV F t' by unfold ofV; simp [h2]]
        exact h.apart _ _ x hne hx
end Go.Proofs.YtffianjbljgnaaaGreat
