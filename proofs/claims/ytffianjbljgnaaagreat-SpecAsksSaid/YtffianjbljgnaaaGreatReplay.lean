/-
  spec.replay in memory; what put does. No condition.
-/
import Derived.Test.YtffianjbljgnaaaGreatCalls
namespace Go.Proofs.YtffianjbljgnaaaGreat
set_option linter.unusedVariables false
set_option linter.unusedSimpArgs false
open Go.RowKit

def recV (r : Rec) : Value := .agg #[.string ⟨r.key.toArray⟩, .int .u64 (r.lsn : Nat), .bool r.del, .string ⟨r.val.toArray⟩]
def findR : List Rec → Txt → Option Rec
  | [], _ => none
  | r :: t, k => if k = r.key then some r else findR t k
def setR : List Rec → Rec → List Rec
  | [], r => [r]
  | q :: t, r => if q.key = r.key then r :: t else q :: setR t r
theorem setR_find (W : List Rec) (r : Rec) (k : Txt) : findR (setR W r) k = if k = r.key then some r else findR W k := by
  induction W with
  | nil => rfl
  | cons q t ih =>
    unfold setR
    split
    · rename_i h
      show (if k = r.key then some r else findR t k) = if k = r.key then some r else if k = q.key then some q else findR t k
      by_cases hk : k = r.key
      · rw [if_pos hk, if_pos hk]
      · rw [if_neg hk, if_neg hk, if_neg (by rw [h]; exact hk)]
    · rename_i h
      show (if k = q.key then some q else findR (setR t r) k) = if k = r.key then some r else if k = q.key then some q else findR t k
      rw [ih]
      by_cases hk : k = q.key
      · rw [if_pos hk, if_neg (by rw [hk]; exact h), if_pos hk]
      · rw [if_neg hk, if_neg hk]
theorem setR_length (W : List Rec) (r : Rec) : (setR W r).length = if (findR W r.key).isSome then W.length else W.length + 1 := by
  induction W with
  | nil => rfl
  | cons q t ih =>
    unfold setR findR
    by_cases h : q.key = r.key
    · rw [if_pos h, if_pos h.symm]; rfl
    · have h' : ¬ r.key = q.key := fun e => h e.symm
      rw [if_neg h, if_neg h', List.length_cons, ih, List.length_cons]
      split <;> rfl
theorem setR_mem (W : List Rec) (r q : Rec) (h : q ∈ setR W r) : q = r ∨ q ∈ W := by
  induction W with
  | nil => left; simpa [setR] using h
  | cons p t ih =>
    unfold setR at h
    split at h
    · rcases List.mem_cons.1 h with h | h
      · exact .inl h
      · exact .inr (List.mem_cons_of_mem _ h)
    · rcases List.mem_cons.1 h with h | h
      · exact .inr (by rw [h]; simp)
      · exact (ih h).imp id (fun h => List.mem_cons_of_mem _ h)
/-- Block b is a map that holds the records W, by their keys. -/
structure WroteAt (w : World) (b : Nat) (W : List Rec) : Prop where
  keys : ∀ r ∈ W, r.key.length ≤ maxLen
  map : VMap textKey w b W.length (fun x => (findR W x).map recV)
theorem WroteAt.on {w w' : World} {b : Nat} {W : List Rec} (h : WroteAt w b W) (hb : Below w.heap.size w w') : WroteAt w' b W := ⟨h.keys, h.map.on hb⟩
theorem WroteAt.mod {S : List Nat} {w w' : World} {b : Nat} {W : List Rec} (h : WroteAt w b W) (hm : Mod S w w') (hn : b ∉ S) : WroteAt w' b W := ⟨h.keys, h.map.mod hm hn⟩
theorem WroteAt.made (w : World) : WroteAt (w.alloc (.map #[] 0)) w.heap.size [] := ⟨by simp, (VMap.made textKey w).congr (fun x => rfl)⟩
theorem WroteAt.put {w : World} {b : Nat} {W : List Rec} (h : WroteAt w b W) (hW : W.length ≤ 1000000) (r : Rec) (hk : r.key.length ≤ maxLen) :
    ∃ w', (Instr.mapUpdate 56 (.map (some b)) (.string ⟨r.key.toArray⟩) (recV r)).run Tryz.prog w = .ok () w' ∧ WroteAt w' b (setR W r) ∧ Mod [b] w w' := by
  obtain ⟨w', hr, hm, hmod⟩ := h.map.store (e := 68) Tryz.underlying56 (by unfold maxLen; omega) r.key hk (recV r)
  refine ⟨w', hr, ⟨fun q hq => ?_, ?_⟩, hmod⟩
  · rcases setR_mem W r q hq with rfl | hq
    · exact hk
    · exact h.keys q hq
  · have e : (if ((findR W r.key).map recV).isSome then W.length else W.length + 1) = (setR W r).length := by rw [setR_length]; simp
    rw [e] at hm
    exact hm.congr fun x => by
      show _ = (findR (setR W r) x).map recV
      rw [setR_find]
      split <;> rfl
/-- Block rb is a replay: a store M, and what was written W. -/
structure RepAt (w : World) (rb sb wb : Nat) (M : List KV) (W : List Rec) : Prop where
  blk : Blk w rb [.map (some sb), .map (some wb)] 58
  store : StoreAt w sb M
  wrote : WroteAt w wb W
  n1 : rb ≠ sb
  n2 : rb ≠ wb
  n3 : sb ≠ wb
theorem RepAt.on {w w' : World} {rb sb wb : Nat} {M : List KV} {W : List Rec} (h : RepAt w rb sb wb M W) (hb : Below w.heap.size w w') : RepAt w' rb sb wb M W := ⟨h.blk.on hb, h.store.on hb, h.wrote.on hb, h.n1, h.n2, h.n3⟩
/-- What put ends with. -/
def RputEnd (rb sb wb : Nat) (M : List KV) (W : List Rec) (w : World) (e : Ending) (w' : World) : Prop := e = .returned (.bool true) ∧ RepAt w' rb sb wb M W ∧ Mod [sb, wb] w w'
set_option maxRecDepth 100000 in
set_option maxHeartbeats 4000000 in
theorem rput_any (w : World) (rb sb wb : Nat) (M : List KV) (W : List Rec) (h : RepAt w rb sb wb M W) (hM : M.length ≤ 1000000) (hW : W.length ≤ 1000000) (r : Rec) (hk : r.key.length ≤ maxLen) :
    Calls Tryz.prog 46 #[.pointer (some ⟨rb, 0, none⟩), .agg #[.string ⟨r.key.toArray⟩, .int .u64 (r.lsn : Nat), .bool r.del, .string ⟨r.val.toArray⟩]] w (RputEnd rb sb wb (app M r) (setR W r) w) := by
  have hBx : Blk (w.alloc (.cells #[.string ⟨r.key.toArray⟩, .int .u64 (r.lsn : Nat), .bool r.del, .string ⟨r.val.toArray⟩] 68)) w.heap.size (recCells r) 68 := Blk.new w (recCells r) _
  have hb0 := (Below.refl w.heap.size w).alloc (Nat.le_refl _) (.cells #[.string ⟨r.key.toArray⟩, .int .u64 (r.lsn : Nat), .bool r.del, .string ⟨r.val.toArray⟩] 68)
  have h0 := h.on hb0
  have n1 := h.n1
  have n2 := h.n2
  have n3 := h.n3
  have hsl := h.store.lt
  have hwl := h.wrote.map.lt
  have hrl := h.blk.lt
  clear h
  go_enter Tryz.func46, Tryz.ntmps46
  go_upto_region 1 with fail
  generalize hw1 : w.alloc (.cells #[.string ⟨r.key.toArray⟩, .int .u64 (r.lsn : Nat), .bool r.del, .string ⟨r.val.toArray⟩] 68) = w1 at *
  have hw1s : w1.heap.size = w.heap.size + 1 := by rw [← hw1]; simp
  clear hw1
  have HF := Lib.hid (show ∀ w', Below w1.heap.size w1 w' → (w'.cell? ⟨rb, 0, none⟩ = some (.map (some sb)) ∧ w'.cell? ⟨w.heap.size, 0, none⟩ = some (.string ⟨r.key.toArray⟩) ∧ w'.cell? ⟨w.heap.size, 1, none⟩ = some (.int .u64 (r.lsn : Nat)) ∧ w'.cell? ⟨w.heap.size, 2, none⟩ = some (.bool r.del) ∧ w'.cell? ⟨w.heap.size, 3, none⟩ = some (.string ⟨r.val.toArray⟩)) from
    fun w' hb => ⟨by rw [(h0.blk.on hb).cell]; rfl, by rw [(hBx.on hb).cell]; rfl, by rw [(hBx.on hb).cell]; rfl, by rw [(hBx.on hb).cell]; rfl, by rw [(hBx.on hb).cell]; rfl⟩)
  refine wp_region_settle_then 5 (Below w1.heap.size w1) (by kernel_rfl) (by kernel_rfl) (by kernel_rfl) (by kernel_rfl) (by kernel_rfl) (below_drew (Below.refl _ _)) ?_
  repeat (first
    | (refine settledL_not ?_ ?_
       · rfl
       simp only [Act.put, List.setIfInBounds_toArray, List.set_cons_zero, List.set_cons_succ])
    | (refine settledL_val (v := ?_) ?_ (fun w' hS => ?_) ?_
       rotate_left
       · rfl
       · obtain ⟨k0, k1, k2, k3, k4⟩ := HF.out w' hS
         go_simp
         with_reducible rfl
       simp only [Act.put, List.setIfInBounds_toArray, List.set_cons_zero, List.set_cons_succ]))
  refine settledL_end (fun w2 hS => ?_)
  have hD := do_any w2 sb M ((h0.on hS).store) hM r hk
  have hR2 := h0.on hS
  have hBx2 := hBx.on hS
  have hm2 := (Mod.of_below (S := [sb, wb]) hb0).thenBelow hS
  have hs2 := hS.size
  refine seq_step (by rfl) (fun K hK => ?_)
  go_simp
  refine hD.mono ?_
  rintro e w3 ⟨rfl, hS3, hm3⟩
  refine hK.out _ _ (seq_nil ?_)
  clear hK K HF hS hD
  have hW3 := hR2.wrote.mod hm3 (by simp; omega)
  have hB3 := hR2.blk.mod hm3 (by simp; omega)
  have hBx3 := hBx2.mod hm3 (by simp; omega)
  have hm3' := hm2.trans (hm3.mono (S' := [sb, wb]) (fun x hx => by simp at hx; left; simp [hx]))
  have hs3 := hm3.size
  clear hR2 hBx2 hm2 hm3 h0 hBx hb0
  have HF := Lib.hid (show ∀ w', Below w3.heap.size w3 w' → (w'.cell? ⟨rb, 1, none⟩ = some (.map (some wb)) ∧ w'.cell? ⟨w.heap.size, 0, none⟩ = some (.string ⟨r.key.toArray⟩) ∧ w'.cell? ⟨w.heap.size, 1, none⟩ = some (.int .u64 (r.lsn : Nat)) ∧ w'.cell? ⟨w.heap.size, 2, none⟩ = some (.bool r.del) ∧ w'.cell? ⟨w.heap.size, 3, none⟩ = some (.string ⟨r.val.toArray⟩)) from
    fun w' hb => ⟨by rw [(hB3.on hb).cell]; rfl, by rw [(hBx3.on hb).cell]; rfl, by rw [(hBx3.on hb).cell]; rfl, by rw [(hBx3.on hb).cell]; rfl, by rw [(hBx3.on hb).cell]; rfl⟩)
  go_upto_region 2 with fail
  refine wp_region_settle_then 7 (Below w3.heap.size w3) (by kernel_rfl) (by kernel_rfl) (by kernel_rfl) (by kernel_rfl) (by kernel_rfl) (below_drew (Below.refl _ _)) ?_
  repeat (first
    | (refine settledL_not ?_ ?_
       · rfl
       simp only [Act.put, List.setIfInBounds_toArray, List.set_cons_zero, List.set_cons_succ])
    | (refine settledL_val (v := ?_) ?_ (fun w' hS => ?_) ?_
       rotate_left
       · rfl
       · obtain ⟨k0, k1, k2, k3, k4⟩ := HF.out w' hS
         go_simp
         with_reducible rfl
       simp only [Act.put, List.setIfInBounds_toArray, List.set_cons_zero, List.set_cons_succ]))
  refine settledL_end (fun w4 hS => ?_)
  obtain ⟨w5, hrun, hW5, hm5⟩ := (hW3.on hS).put hW r hk
  rw [show recV r = .agg #[.string ⟨r.key.toArray⟩, .int .u64 (r.lsn : Nat), .bool r.del, .string ⟨r.val.toArray⟩] from rfl] at hrun
  have HE := Lib.hid (show RputEnd rb sb wb (app M r) (setR W r) w (.returned (.bool true)) w5 from
    ⟨rfl, ⟨(hB3.on hS).mod hm5 (by simp; omega), (hS3.on hS).mod hm5 (by simp; omega), hW5, n1, n2, n3⟩, (hm3'.thenBelow hS).trans (hm5.mono (fun x hx => by simp at hx; left; simp [hx]))⟩)
  refine seq_step (by rfl) (fun K hK => ?_)
  go_simp
  refine hK.out _ _ (seq_nil ?_)
  clear hK K HF hS hrun hW5 hm5 hW3 hB3 hS3 hBx3 hm3'
  go_wp2_with fail
  go_ret
  exact HE.out
end Go.Proofs.YtffianjbljgnaaaGreat
