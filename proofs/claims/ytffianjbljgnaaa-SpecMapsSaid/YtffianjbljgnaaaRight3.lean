/-
  Texts folded into one: Replay, Right, Right2, Right3.
-/
import Derived.Test.YtffianjbljgnaaaCalls
import Derived.Laws.StructEq
import Derived.Deep.RegionHeld3

/-! ### Replay -/
namespace Go.Proofs.Ytffianjbljgnaaa
set_option linter.unusedVariables false
set_option linter.unusedSimpArgs false
open Go.RowKit

def recV (r : Rec) : Value := .agg #[.string ⟨r.key.toArray⟩, .int .u64 (r.lsn : Nat), .bool r.del, .string ⟨r.val.toArray⟩]
def findR : List Rec → Txt → Option Rec
  | [], _ => none
  | r :: t, k => if k = r.key then some r else findR t k
def setR : List Rec → Rec → List Rec
  | [], r => [r]
  | q :: t, r => if q.key = r.key then r :: t else q :: setR t r
theorem setR_find (W : List Rec) (r : Rec) (k : Txt) : findR (setR W r) k = if k = r.key then some r else findR W k := by
  induction W with
  | nil => rfl
  | cons q t ih =>
    unfold setR
    split
    · rename_i h
      show (if k = r.key then some r else findR t k) = if k = r.key then some r else if k = q.key then some q else findR t k
      by_cases hk : k = r.key
      · rw [if_pos hk, if_pos hk]
      · rw [if_neg hk, if_neg hk, if_neg (by rw [h]; exact hk)]
    · rename_i h
      show (if k = q.key then some q else findR (setR t r) k) = if k = r.key then some r else if k = q.key then some q else findR t k
      rw [ih]
      by_cases hk : k = q.key
      · rw [if_pos hk, if_neg (by rw [hk]; exact h), if_pos hk]
      · rw [if_neg hk, if_neg hk]
theorem setR_length (W : List Rec) (r : Rec) : (setR W r).length = if (findR W r.key).isSome then W.length else W.length + 1 := by
  induction W with
  | nil => rfl
  | cons q t ih =>
    unfold setR findR
    by_cases h : q.key = r.key
    · rw [if_pos h, if_pos h.symm]; rfl
    · have h' : ¬ r.key = q.key := fun e => h e.symm
      rw [if_neg h, if_neg h', List.length_cons, ih, List.length_cons]
      split <;> rfl
theorem setR_mem (W : List Rec) (r q : Rec) (h : q ∈ setR W r) : q = r ∨ q ∈ W := by
  induction W with
  | nil => left; simpa [setR] using h
  | cons p t ih =>
    unfold setR at h
    split at h
    · rcases List.mem_cons.1 h with h | h
      · exact .inl h
      · exact .inr (List.mem_cons_of_mem _ h)
    · rcases List.mem_cons.1 h with h | h
      · exact .inr (by rw [h]; simp)
      · exact (ih h).imp id (fun h => List.mem_cons_of_mem _ h)
/-- Block b is a map that holds the records W, by their keys. -/
structure WroteAt (w : World) (b : Nat) (W : List Rec) : Prop where
  keys : ∀ r ∈ W, r.key.length ≤ maxLen
  map : VMap textKey w b W.length (fun x => (findR W x).map recV)
theorem WroteAt.on {w w' : World} {b : Nat} {W : List Rec} (h : WroteAt w b W) (hb : Below w.heap.size w w') : WroteAt w' b W := ⟨h.keys, h.map.on hb⟩
theorem WroteAt.mod {S : List Nat} {w w' : World} {b : Nat} {W : List Rec} (h : WroteAt w b W) (hm : Mod S w w') (hn : b ∉ S) : WroteAt w' b W := ⟨h.keys, h.map.mod hm hn⟩
theorem WroteAt.made (w : World) : WroteAt (w.alloc (.map #[] 0)) w.heap.size [] := ⟨by simp, (VMap.made textKey w).congr (fun x => rfl)⟩
theorem WroteAt.put {w : World} {b : Nat} {W : List Rec} (h : WroteAt w b W) (hW : W.length ≤ 1000000) (r : Rec) (hk : r.key.length ≤ maxLen) :
    ∃ w', (Instr.mapUpdate 73 (.map (some b)) (.string ⟨r.key.toArray⟩) (recV r)).run Try.prog w = .ok () w' ∧ WroteAt w' b (setR W r) ∧ Mod [b] w w' := by
  obtain ⟨w', hr, hm, hmod⟩ := h.map.store (e := 58) Try.underlying73 (by unfold maxLen; omega) r.key hk (recV r)
  refine ⟨w', hr, ⟨fun q hq => ?_, ?_⟩, hmod⟩
  · rcases setR_mem W r q hq with rfl | hq
    · exact hk
    · exact h.keys q hq
  · have e : (if ((findR W r.key).map recV).isSome then W.length else W.length + 1) = (setR W r).length := by rw [setR_length]; simp
    rw [e] at hm
    exact hm.congr fun x => by
      show _ = (findR (setR W r) x).map recV
      rw [setR_find]
      split <;> rfl
/-- Block rb is a replay: a store M, and what was written W. -/
structure RepAt (w : World) (rb sb wb : Nat) (M : List KV) (W : List Rec) : Prop where
  blk : Blk w rb [.map (some sb), .map (some wb)] 75
  store : StoreAt w sb M
  wrote : WroteAt w wb W
  n1 : rb ≠ sb
  n2 : rb ≠ wb
  n3 : sb ≠ wb
theorem RepAt.on {w w' : World} {rb sb wb : Nat} {M : List KV} {W : List Rec} (h : RepAt w rb sb wb M W) (hb : Below w.heap.size w w') : RepAt w' rb sb wb M W := ⟨h.blk.on hb, h.store.on hb, h.wrote.on hb, h.n1, h.n2, h.n3⟩
/-- What put ends with. -/
def RputEnd (rb sb wb : Nat) (M : List KV) (W : List Rec) (w : World) (e : Ending) (w' : World) : Prop := e = .returned (.bool true) ∧ RepAt w' rb sb wb M W ∧ Mod [sb, wb] w w'
set_option maxRecDepth 100000 in
set_option maxHeartbeats 4000000 in
theorem rput_any (w : World) (rb sb wb : Nat) (M : List KV) (W : List Rec) (h : RepAt w rb sb wb M W) (hM : M.length ≤ 1000000) (hW : W.length ≤ 1000000) (r : Rec) (hk : r.key.length ≤ maxLen) :
    Calls Try.prog 51 #[.pointer (some ⟨rb, 0, none⟩), .agg #[.string ⟨r.key.toArray⟩, .int .u64 (r.lsn : Nat), .bool r.del, .string ⟨r.val.toArray⟩]] w (RputEnd rb sb wb (app M r) (setR W r) w) := by
  have hBx : Blk (w.alloc (.cells #[.string ⟨r.key.toArray⟩, .int .u64 (r.lsn : Nat), .bool r.del, .string ⟨r.val.toArray⟩] 58)) w.heap.size (recCells r) 58 := Blk.new w (recCells r) _
  have hb0 := (Below.refl w.heap.size w).alloc (Nat.le_refl _) (.cells #[.string ⟨r.key.toArray⟩, .int .u64 (r.lsn : Nat), .bool r.del, .string ⟨r.val.toArray⟩] 58)
  have h0 := h.on hb0
  have n1 := h.n1
  have n2 := h.n2
  have n3 := h.n3
  have hsl := h.store.lt
  have hwl := h.wrote.map.lt
  have hrl := h.blk.lt
  clear h
  go_enter Try.func51, Try.ntmps51
  go_upto_region 1 with fail
  generalize hw1 : w.alloc (.cells #[.string ⟨r.key.toArray⟩, .int .u64 (r.lsn : Nat), .bool r.del, .string ⟨r.val.toArray⟩] 58) = w1 at *
  have hw1s : w1.heap.size = w.heap.size + 1 := by rw [← hw1]; simp
  clear hw1
  have HF := Lib.hid (show ∀ w', Below w1.heap.size w1 w' → (w'.cell? ⟨rb, 0, none⟩ = some (.map (some sb)) ∧ w'.cell? ⟨w.heap.size, 0, none⟩ = some (.string ⟨r.key.toArray⟩) ∧ w'.cell? ⟨w.heap.size, 1, none⟩ = some (.int .u64 (r.lsn : Nat)) ∧ w'.cell? ⟨w.heap.size, 2, none⟩ = some (.bool r.del) ∧ w'.cell? ⟨w.heap.size, 3, none⟩ = some (.string ⟨r.val.toArray⟩)) from
    fun w' hb => ⟨by rw [(h0.blk.on hb).cell]; rfl, by rw [(hBx.on hb).cell]; rfl, by rw [(hBx.on hb).cell]; rfl, by rw [(hBx.on hb).cell]; rfl, by rw [(hBx.on hb).cell]; rfl⟩)
  refine wp_region_settle_then 5 (Below w1.heap.size w1) (by kernel_rfl) (by kernel_rfl) (by kernel_rfl) (by kernel_rfl) (by kernel_rfl) (below_drew (Below.refl _ _)) ?_
  repeat (first
    | (refine settledL_not ?_ ?_
       · rfl
       simp only [Act.put, List.setIfInBounds_toArray, List.set_cons_zero, List.set_cons_succ])
    | (refine settledL_val (v := ?_) ?_ (fun w' hS => ?_) ?_
       rotate_left
       · rfl
       · obtain ⟨k0, k1, k2, k3, k4⟩ := HF.out w' hS
         go_simp
         with_reducible rfl
       simp only [Act.put, List.setIfInBounds_toArray, List.set_cons_zero, List.set_cons_succ]))
  refine settledL_end (fun w2 hS => ?_)
  have hD := do_any w2 sb M ((h0.on hS).store) hM r hk
  have hR2 := h0.on hS
  have hBx2 := hBx.on hS
  have hm2 := (Mod.of_below (S := [sb, wb]) hb0).thenBelow hS
  have hs2 := hS.size
  refine seq_step (by rfl) (fun K hK => ?_)
  go_simp
  refine hD.mono ?_
  rintro e w3 ⟨rfl, hS3, hm3⟩
  refine hK.out _ _ (seq_nil ?_)
  clear hK K HF hS hD
  have hW3 := hR2.wrote.mod hm3 (by simp; omega)
  have hB3 := hR2.blk.mod hm3 (by simp; omega)
  have hBx3 := hBx2.mod hm3 (by simp; omega)
  have hm3' := hm2.trans (hm3.mono (S' := [sb, wb]) (fun x hx => by simp at hx; left; simp [hx]))
  have hs3 := hm3.size
  clear hR2 hBx2 hm2 hm3 h0 hBx hb0
  have HF := Lib.hid (show ∀ w', Below w3.heap.size w3 w' → (w'.cell? ⟨rb, 1, none⟩ = some (.map (some wb)) ∧ w'.cell? ⟨w.heap.size, 0, none⟩ = some (.string ⟨r.key.toArray⟩) ∧ w'.cell? ⟨w.heap.size, 1, none⟩ = some (.int .u64 (r.lsn : Nat)) ∧ w'.cell? ⟨w.heap.size, 2, none⟩ = some (.bool r.del) ∧ w'.cell? ⟨w.heap.size, 3, none⟩ = some (.string ⟨r.val.toArray⟩)) from
    fun w' hb => ⟨by rw [(hB3.on hb).cell]; rfl, by rw [(hBx3.on hb).cell]; rfl, by rw [(hBx3.on hb).cell]; rfl, by rw [(hBx3.on hb).cell]; rfl, by rw [(hBx3.on hb).cell]; rfl⟩)
  go_upto_region 2 with fail
  refine wp_region_settle_then 7 (Below w3.heap.size w3) (by kernel_rfl) (by kernel_rfl) (by kernel_rfl) (by kernel_rfl) (by kernel_rfl) (below_drew (Below.refl _ _)) ?_
  repeat (first
    | (refine settledL_not ?_ ?_
       · rfl
       simp only [Act.put, List.setIfInBounds_toArray, List.set_cons_zero, List.set_cons_succ])
    | (refine settledL_val (v := ?_) ?_ (fun w' hS => ?_) ?_
       rotate_left
       · rfl
       · obtain ⟨k0, k1, k2, k3, k4⟩ := HF.out w' hS
         go_simp
         with_reducible rfl
       simp only [Act.put, List.setIfInBounds_toArray, List.set_cons_zero, List.set_cons_succ]))
  refine settledL_end (fun w4 hS => ?_)
  obtain ⟨w5, hrun, hW5, hm5⟩ := (hW3.on hS).put hW r hk
  rw [show recV r = .agg #[.string ⟨r.key.toArray⟩, .int .u64 (r.lsn : Nat), .bool r.del, .string ⟨r.val.toArray⟩] from rfl] at hrun
  have HE := Lib.hid (show RputEnd rb sb wb (app M r) (setR W r) w (.returned (.bool true)) w5 from
    ⟨rfl, ⟨(hB3.on hS).mod hm5 (by simp; omega), (hS3.on hS).mod hm5 (by simp; omega), hW5, n1, n2, n3⟩, (hm3'.thenBelow hS).trans (hm5.mono (fun x hx => by simp at hx; left; simp [hx]))⟩)
  refine seq_step (by rfl) (fun K hK => ?_)
  go_simp
  refine hK.out _ _ (seq_nil ?_)
  clear hK K HF hS hrun hW5 hm5 hW3 hB3 hS3 hBx3 hm3'
  go_wp2_with fail
  go_ret
  exact HE.out
end Go.Proofs.Ytffianjbljgnaaa

/-! ### Right -/
namespace Go.Proofs.Ytffianjbljgnaaa
set_option linter.unusedVariables false
set_option linter.unusedSimpArgs false
open Go.RowKit

theorem bytes_beq (a b : Txt) : (ByteArray.mk a.toArray == ByteArray.mk b.toArray) = decide (a = b) := by
  show (a.toArray == b.toArray) = decide (a = b)
  by_cases h : a = b
  · subst h; simp
  · simp [h]
theorem bytes_bne (a b : Txt) : (ByteArray.mk a.toArray != ByteArray.mk b.toArray) = !decide (a = b) := by
  show (!(ByteArray.mk a.toArray == ByteArray.mk b.toArray)) = _
  rw [bytes_beq]
/-- Where a replay's question finds its replay, its call and its answer. -/
structure AskAt (w : World) (px cx ox rb : Nat) (m : Md) : Prop where
  p : w.cell? ⟨px, 0, none⟩ = some (.pointer (some ⟨rb, 0, none⟩))
  pl : px < w.heap.size
  c : Blk w cx (callCells m) 31
  o : Blk w ox (outCells m) 35
theorem AskAt.on {w w' : World} {px cx ox rb : Nat} {m : Md} (h : AskAt w px cx ox rb m) (hb : Below w.heap.size w w') : AskAt w' px cx ox rb m :=
  ⟨(hb.cell (p := ⟨px, 0, none⟩) h.pl).trans h.p, Nat.lt_of_lt_of_le h.pl hb.size, h.c.on hb, h.o.on hb⟩
def readB (M : List KV) (m : Md) : Bool := decide (m.found = (look M m.key).isSome) && decide (m.oval = (look M m.key).getD [])
set_option maxRecDepth 100000 in
set_option maxHeartbeats 2000000 in
theorem right1_any (w : World) (px cx ox rb sb wb : Nat) (m : Md) (M : List KV) (W : List Rec) (h : AskAt w px cx ox rb m) (hR : RepAt w rb sb wb M W) (hk : m.key.length ≤ maxLen) :
    Calls Try.prog 47 #[.pointer (some ⟨px, 0, none⟩), .pointer (some ⟨cx, 0, none⟩), .pointer (some ⟨ox, 0, none⟩)] w fun e w' => e = .returned (.bool (readB M m)) ∧ Below w.heap.size w w' := by
  have HF := Lib.hid (show ∀ w', Below w.heap.size w w' → (w'.cell? ⟨px, 0, none⟩ = some (.pointer (some ⟨rb, 0, none⟩)) ∧ w'.cell? ⟨rb, 0, none⟩ = some (.map (some sb)) ∧ w'.cell? ⟨cx, 2, none⟩ = some (.string ⟨m.key.toArray⟩) ∧ w'.cell? ⟨ox, 3, none⟩ = some (.bool m.found) ∧ w'.cell? ⟨ox, 4, none⟩ = some (.string ⟨m.oval.toArray⟩) ∧
      (Instr.lookup 72 (.map (some sb)) (.string ⟨m.key.toArray⟩) true).run Try.prog w' = .ok (.tuple #[.string ⟨((look M m.key).getD []).toArray⟩, .bool (look M m.key).isSome]) w') from
    fun w' hb => ⟨(h.on hb).p, by rw [(hR.blk.on hb).cell]; rfl, by rw [(h.c.on hb).cell]; rfl, by rw [(h.o.on hb).cell]; rfl, by rw [(h.o.on hb).cell]; rfl, (hR.store.on hb).looks_ok m.key hk⟩)
  have HV := Lib.hid (show readB M m = (decide (m.found = (look M m.key).isSome) && decide (m.oval = (look M m.key).getD [])) from rfl)
  clear h hR
  generalize (look M m.key).isSome = is at HF HV
  generalize (look M m.key).getD [] = v at HF HV
  go_enter Try.func47, Try.ntmps47
  go_upto_region 1 with fail
  refine wp_region_settle (Below w.heap.size w) (by kernel_rfl) (by kernel_rfl) (by kernel_rfl) (below_drew (Below.refl _ _)) ?_
  repeat (first
    | (refine settled_not ?_ ?_
       · rfl
       simp only [Act.put, List.setIfInBounds_toArray, List.set_cons_zero, List.set_cons_succ])
    | (refine settled_val (v := ?_) ?_ (fun w' hS => ?_) ?_
       rotate_left
       · rfl
       · obtain ⟨k0, k1, k2, k3, k4, k5⟩ := HF.out w' hS
         go_simp
         with_reducible rfl
       simp only [Act.put, List.setIfInBounds_toArray, List.set_cons_zero, List.set_cons_succ]))
  refine settled_nil (fun w2 hS => ?_)
  obtain ⟨k0, k1, k2, k3, k4, k5⟩ := HF.out w2 hS
  have HB := Lib.hid hS
  clear hS k0 k1 k2 k5
  by_cases h1 : m.found = is
  · have e1 : (m.found == is) = true := by simp [h1]
    by_cases h2 : m.oval = v
    · have e2 : ((⟨m.oval.toArray⟩ : ByteArray) == ⟨v.toArray⟩) = true := by rw [bytes_beq]; simp [h2]
      have HE := Lib.hid (show readB M m = true by rw [HV.out, decide_eq_true h1, decide_eq_true h2]; rfl)
      have H2 := Lib.hid h2
      clear h1 h2
      go_wp2_with fail
      go_ret
      exact ⟨by rw [HE.out]; simp [H2.out], HB.out⟩
    · have e2 : ((⟨m.oval.toArray⟩ : ByteArray) == ⟨v.toArray⟩) = false := by rw [bytes_beq]; simp [h2]
      have HE := Lib.hid (show readB M m = false by rw [HV.out, decide_eq_false h2]; simp)
      have H2 := Lib.hid h2
      clear h1 h2
      go_wp2_with fail
      go_ret
      exact ⟨by rw [HE.out]; simp [H2.out], HB.out⟩
  · have e1 : (m.found == is) = false := by simp [h1]
    have HE := Lib.hid (show readB M m = false by rw [HV.out, decide_eq_false h1]; rfl)
    clear h1
    go_wp2_with fail
    go_ret
    exact ⟨by rw [HE.out]; simp [e1], HB.out⟩
/-- What a question that writes ends with. -/
def AskEnd (rb sb wb : Nat) (M : List KV) (W : List Rec) (w : World) (e : Ending) (w' : World) : Prop := e = .returned (.bool true) ∧ RepAt w' rb sb wb M W ∧ Mod [sb, wb] w w'
set_option maxRecDepth 100000 in
set_option maxHeartbeats 2000000 in
theorem right3_any (w : World) (px cx ox rb sb wb : Nat) (m : Md) (M : List KV) (W : List Rec) (h : AskAt w px cx ox rb m) (hR : RepAt w rb sb wb M W) (hM : M.length ≤ 1000000) (hW : W.length ≤ 1000000) (hk : m.key.length ≤ maxLen) :
    Calls Try.prog 50 #[.pointer (some ⟨px, 0, none⟩), .pointer (some ⟨cx, 0, none⟩)] w (AskEnd rb sb wb (app M ⟨m.key, 0, false, m.val⟩) (setR W ⟨m.key, 0, false, m.val⟩) w) := by
  have HP := Lib.hid (rput_any w rb sb wb M W hR hM hW ⟨m.key, 0, false, m.val⟩ hk)
  obtain ⟨k0, _, hc, _⟩ := h
  have k1 : w.cell? ⟨cx, 2, none⟩ = some (.string ⟨m.key.toArray⟩) := by rw [hc.cell]; rfl
  have k2 : w.cell? ⟨cx, 4, none⟩ = some (.string ⟨m.val.toArray⟩) := by rw [hc.cell]; rfl
  clear hR hc
  go_enter Try.func50, Try.ntmps50
  go_wp2_with fail
  refine HP.out.mono ?_
  rintro e w1 ⟨rfl, hR1, hm⟩
  have HE := Lib.hid (show AskEnd rb sb wb (app M ⟨m.key, 0, false, m.val⟩) (setR W ⟨m.key, 0, false, m.val⟩) w (.returned (.bool true)) w1 from ⟨rfl, hR1, hm⟩)
  clear hR1 hm
  go_wp2_with fail
  go_ret
  exact HE.out
set_option maxRecDepth 100000 in
set_option maxHeartbeats 2000000 in
theorem right4_any (w : World) (px cx ox rb sb wb : Nat) (m : Md) (M : List KV) (W : List Rec) (h : AskAt w px cx ox rb m) (hR : RepAt w rb sb wb M W) (hM : M.length ≤ 1000000) (hW : W.length ≤ 1000000) (hk : m.key.length ≤ maxLen) :
    Calls Try.prog 52 #[.pointer (some ⟨px, 0, none⟩), .pointer (some ⟨cx, 0, none⟩)] w (AskEnd rb sb wb (app M ⟨m.key, 0, true, []⟩) (setR W ⟨m.key, 0, true, []⟩) w) := by
  have HP := Lib.hid (rput_any w rb sb wb M W hR hM hW ⟨m.key, 0, true, []⟩ hk)
  obtain ⟨k0, _, hc, _⟩ := h
  have k1 : w.cell? ⟨cx, 2, none⟩ = some (.string ⟨m.key.toArray⟩) := by rw [hc.cell]; rfl
  clear hR hc
  go_enter Try.func52, Try.ntmps52
  go_wp2_with fail
  refine HP.out.mono ?_
  rintro e w1 ⟨rfl, hR1, hm⟩
  have HE := Lib.hid (show AskEnd rb sb wb (app M ⟨m.key, 0, true, []⟩) (setR W ⟨m.key, 0, true, []⟩) w (.returned (.bool true)) w1 from ⟨rfl, hR1, hm⟩)
  clear hR1 hm
  go_wp2_with fail
  go_ret
  exact HE.out
theorem pairs_get (l : List KV) (i : Nat) (p : KV) (h : l[i]? = some p) : (pairsCells l)[i * 2]? = some (.string ⟨p.1.toArray⟩) ∧ (pairsCells l)[i * 2 + 1]? = some (.string ⟨p.2.toArray⟩) := by
  induction l generalizing i with
  | nil => simp at h
  | cons q qs ih =>
    cases i with
    | zero => cases h; exact ⟨rfl, rfl⟩
    | succ i =>
      have := ih i (by simpa using h)
      have e0 : ∀ j, (pairsCells (q :: qs))[j + 2]? = (pairsCells qs)[j]? := fun j => by
        show (pairCells q ++ pairsCells qs)[j + 2]? = _
        rw [List.getElem?_append_right (by show 2 ≤ _; omega)]; show (pairsCells qs)[j + 2 - 2]? = _; rw [Nat.add_sub_cancel]
      refine ⟨?_, ?_⟩
      · rw [show (i + 1) * 2 = i * 2 + 2 by omega, e0]; exact this.1
      · rw [show (i + 1) * 2 + 1 = i * 2 + 1 + 2 by omega, e0]; exact this.2
theorem pairs_row {w : World} {a : Option Addr} {n c : Nat} {l : List KV} (h : RowsAt w a n c 2 (pairsCells l)) (hl : n = l.length) {i : Nat} (hi : i < n) :
    ∃ (p : KV) (g o : Nat), l[i]? = some p ∧ p ∈ l ∧ a = some ⟨g, o, none⟩ ∧ g < w.heap.size ∧ w.cell? ⟨g, o + i * 2, none⟩ = some (.string ⟨p.1.toArray⟩) ∧ w.cell? ⟨g, o + i * 2 + 1, none⟩ = some (.string ⟨p.2.toArray⟩) := by
  obtain ⟨g, o, e, hg, hc⟩ := h.at_ (by omega)
  have hx : i < l.length := by omega
  obtain ⟨h0, h1⟩ := pairs_get l i l[i] (List.getElem?_eq_getElem hx)
  have c0 := hc _ _ h0
  have c1 := hc _ _ h1
  rw [← Nat.add_assoc] at c1
  exact ⟨l[i], g, o, List.getElem?_eq_getElem hx, List.getElem_mem hx, e, hg, c0, c1⟩
theorem bytes_tl (a b : Txt) : (ByteArray.toList ⟨a.toArray⟩ == ByteArray.toList ⟨b.toArray⟩) = (a == b) := by
  rw [← beq_toListBytes]
  show (a.toArray == b.toArray) = (a == b)
  simp
def pairV (p : KV) : Value := .agg #[.string ⟨p.1.toArray⟩, .string ⟨p.2.toArray⟩]
set_option maxHeartbeats 1000000 in
theorem run_neq_pair (x y : KV) (w : World) : (binOp .neq 47 (pairV x) (pairV y)).run Try.prog w = .ok (.bool (decide (x ≠ y))) w := by
  have u1 := Try.underlying9
  have hS : Try.prog.underlying 47 = some (.struct (Try.prog.fieldsOf 47)) := by kernel_rfl
  have hp : Try.prog.stoodInHeld 47 = false := by kernel_rfl
  unfold pairV
  rw [run_neq_struct, show (10000 : Nat) = 9999 + 1 from rfl, run_equalIn_agg w 9999 47 _ _ hS hp]
  simp only [Program.fieldsOf, Try.underlying47]
  have a1 := Try.isAgg9
  have z1 := Try.sizeOf9
  have bb := bytes_tl
  go_simp
  obtain ⟨xk, xv⟩ := x
  obtain ⟨yk, yv⟩ := y
  simp only [Prod.mk.injEq]
  by_cases h1 : xk = yk <;> by_cases h4 : xv = yv <;> simp [h1, h4]
set_option maxRecDepth 100000 in
set_option maxHeartbeats 4000000 in
theorem equalP_any (w : World) (a1 a2 : Option Addr) (n1 c1 n2 c2 : Nat) (P Q : List KV) (h1 : RowsAt w a1 n1 c1 2 (pairsCells P)) (h2 : RowsAt w a2 n2 c2 2 (pairsCells Q)) (e1 : n1 = P.length) (e2 : n2 = Q.length) (hn : n1 ≤ 9223372036854775807) :
    Calls Try.prog 49 #[.slice a1 n1 c1, .slice a2 n2 c2] w fun e w' => e = .returned (.bool (decide (P = Q))) ∧ Below w.heap.size w w' := by
  have H1 := Lib.hid h1
  have H2 := Lib.hid h2
  have E1 := Lib.hid e1
  have E2 := Lib.hid e2
  clear h1 h2 e1 e2
  by_cases hl : n1 = n2
  · subst hl
    have hne : (n1 != n1) = false := by simp
    go_enter Try.func49, Try.ntmps49
    go_wp2_with fail
    go_loopw [5, 13] (fun _ s13 wr => ∃ i : Nat, i ≤ n1 ∧ s13 = .int .i64 i ∧ P.take i = Q.take i ∧ Below w.heap.size w wr) (fun _ s13 _ => n1 - (intOf s13).toNat)
    case atStart => exact ⟨0, by omega, rfl, rfl, Below.refl _ _⟩
    case round =>
      obtain ⟨i, hi, rfl, heq, hb⟩ := hrel
      have HEq := Lib.hid heq
      clear heq
      by_cases hlt : i < n1
      · have hil : (i : Int) < (n1 : Int) := by omega
        obtain ⟨p, g, o, hp, _, rfl, hg, c0, c1'⟩ := pairs_row (H1.out.on hb) E1.out hlt
        obtain ⟨q, g', o', hq, _, rfl, hg', d0, d1⟩ := pairs_row (H2.out.on hb) E2.out hlt
        have HF := Lib.hid (show ∀ w', Below wr.heap.size wr w' → (w'.cell? ⟨g, o + i * 2, none⟩ = some (.string ⟨p.1.toArray⟩) ∧ w'.cell? ⟨g, o + i * 2 + 1, none⟩ = some (.string ⟨p.2.toArray⟩) ∧ w'.cell? ⟨g', o' + i * 2, none⟩ = some (.string ⟨q.1.toArray⟩) ∧ w'.cell? ⟨g', o' + i * 2 + 1, none⟩ = some (.string ⟨q.2.toArray⟩)) from
          fun w' h => ⟨(h.cell (p := ⟨g, o + i * 2, none⟩) hg).trans c0, (h.cell (p := ⟨g, o + i * 2 + 1, none⟩) hg).trans c1', (h.cell (p := ⟨g', o' + i * 2, none⟩) hg').trans d0, (h.cell (p := ⟨g', o' + i * 2 + 1, none⟩) hg').trans d1⟩)
        have HP := Lib.hid hp
        have HQ := Lib.hid hq
        clear hp hq c0 c1' d0 d1
        by_cases hpq : p = q
        · have hcmp : ∀ w, _ := fun w => run_neq_pair p q w
          rw [show decide (p ≠ q) = false from by simp [hpq]] at hcmp
          unfold pairV at hcmp
          have HNext := Lib.hid (show P.take (i + 1) = Q.take (i + 1) by rw [List.take_add_one, List.take_add_one, HP.out, HQ.out, HEq.out, hpq])
          clear hpq
          go_upto_region 6 with fail
          refine wp_region_settle (Below wr.heap.size wr) (by kernel_rfl) (by kernel_rfl) (by kernel_rfl) (below_drew (Below.refl _ _)) ?_
          repeat (first
            | (refine settled_not ?_ ?_
               · rfl
               simp only [Act.put, List.setIfInBounds_toArray, List.set_cons_zero, List.set_cons_succ])
            | (refine settled_val (v := ?_) ?_ (fun w' hS => ?_) ?_
               rotate_left
               · rfl
               · obtain ⟨k0, k1, k2, k3⟩ := HF.out w' hS
                 go_simp
                 with_reducible rfl
               simp only [Act.put, List.setIfInBounds_toArray, List.set_cons_zero, List.set_cons_succ]))
          refine settled_nil (fun w2 hS => ?_)
          clear hcmp
          go_wp2_with fail
          go_roundw
          case rel => exact ⟨i + 1, by omega, by go_num, HNext.out, hb.trans (hS.mono hb.size)⟩
          case measure => simp [intOf]; omega
        · have hcmp : ∀ w, _ := fun w => run_neq_pair p q w
          rw [show decide (p ≠ q) = true from by simp [hpq]] at hcmp
          unfold pairV at hcmp
          have HNe := Lib.hid (show decide (P = Q) = false from decide_eq_false (fun e => by
            have h1 := HP.out
            rw [e, HQ.out] at h1
            exact hpq (Option.some.inj h1).symm))
          clear hpq
          go_upto_region 6 with fail
          refine wp_region_settle (Below wr.heap.size wr) (by kernel_rfl) (by kernel_rfl) (by kernel_rfl) (below_drew (Below.refl _ _)) ?_
          repeat (first
            | (refine settled_not ?_ ?_
               · rfl
               simp only [Act.put, List.setIfInBounds_toArray, List.set_cons_zero, List.set_cons_succ])
            | (refine settled_val (v := ?_) ?_ (fun w' hS => ?_) ?_
               rotate_left
               · rfl
               · obtain ⟨k0, k1, k2, k3⟩ := HF.out w' hS
                 go_simp
                 with_reducible rfl
               simp only [Act.put, List.setIfInBounds_toArray, List.set_cons_zero, List.set_cons_succ]))
          refine settled_nil (fun w2 hS => ?_)
          clear hcmp
          have HB := Lib.hid (hb.trans (hS.mono hb.size))
          clear hS hb
          go_wp2_with fail
          go_ret
          exact ⟨by rw [HNe.out]; try rfl, HB.out⟩
      · have hge : ¬ (i : Int) < (n1 : Int) := by omega
        have HPQ := Lib.hid (show decide (P = Q) = true from decide_eq_true (by
          have h1 := HEq.out
          have hin : i = n1 := by omega
          rw [hin, List.take_of_length_le (by have := E1.out; omega), List.take_of_length_le (by have := E2.out; omega)] at h1
          exact h1))
        have HB := Lib.hid hb
        clear hb
        go_wp2_with fail
        go_ret
        exact ⟨by rw [HPQ.out]; try rfl, HB.out⟩
  · have hne : ((n1 : Int) != (n2 : Int)) = true := by simp; omega
    have HPQ := Lib.hid (show decide (P = Q) = false from decide_eq_false (fun e => by
      have h1 := E1.out
      have h2 := E2.out
      rw [e] at h1
      omega))
    clear hl
    go_enter Try.func49, Try.ntmps49
    go_wp2_with fail
    go_ret
    exact ⟨by rw [HPQ.out]; try rfl, Below.refl _ _⟩
end Go.Proofs.Ytffianjbljgnaaa

/-! ### Right2 -/
namespace Go.Proofs.Ytffianjbljgnaaa
set_option linter.unusedVariables false
set_option linter.unusedSimpArgs false
open Go.RowKit

set_option maxRecDepth 100000 in
set_option maxHeartbeats 4000000 in
theorem right2_any (w : World) (px cx ox rb sb wb : Nat) (m : Md) (ps : List KV) (M : List KV) (W : List Rec) (h : AskAt w px cx ox rb m) (hR : RepAt w rb sb wb M W) (hM : M.length ≤ 1000000) (hn : m.pn = ps.length) (hps : RowsAt w m.pa m.pn m.pc 2 (pairsCells ps)) (hpn : m.pn ≤ 9223372036854775807) :
    Calls Try.prog 48 #[.pointer (some ⟨ox, 0, none⟩), .pointer (some ⟨px, 0, none⟩), .pointer (some ⟨cx, 0, none⟩)] w fun e w' => e = .returned (.bool (decide (ps = sel M m.key m.hi))) ∧ Below w.heap.size w w' := by
  have HF := Lib.hid (show ∀ w', Below w.heap.size w w' → (w'.cell? ⟨px, 0, none⟩ = some (.pointer (some ⟨rb, 0, none⟩)) ∧ w'.cell? ⟨rb, 0, none⟩ = some (.map (some sb)) ∧ w'.cell? ⟨cx, 2, none⟩ = some (.string ⟨m.key.toArray⟩) ∧ w'.cell? ⟨cx, 3, none⟩ = some (.string ⟨m.hi.toArray⟩) ∧ w'.cell? ⟨ox, 5, none⟩ = some (.slice m.pa m.pn m.pc)) from
    fun w' hb => ⟨(h.on hb).p, by rw [(hR.blk.on hb).cell]; rfl, by rw [(h.c.on hb).cell]; rfl, by rw [(h.c.on hb).cell]; rfl, by rw [(h.o.on hb).cell]; rfl⟩)
  have HR := Lib.hid hR
  have HPs := Lib.hid hps
  have HN := Lib.hid hn
  clear h hR hps hn
  go_enter Try.func48, Try.ntmps48
  go_upto_region 1 with fail
  refine wp_region_float [0, 1, 2, 3, 4, 5, 6, 7, 8, 9] [10, 11, 12] [11, 12] (Below w.heap.size w) (by kernel_rfl) (by kernel_rfl) (by kernel_rfl) (by kernel_rfl) (fun c a d v w h => by cases d <;> exact h) (below_drew (Below.refl _ _)) ?_
  have hS : Below w.heap.size w { w with drawn := w.drawn + 1 } := below_drew (Below.refl _ _)
  generalize ({ w with drawn := w.drawn + 1 } : World) = w2 at *
  simp only [pick, List.map_cons, List.map_nil, List.getD_cons_zero, List.getD_cons_succ]
  repeat (
    refine takes_val (v := ?_) ?_ (fun w' hS => ?_) ?_
    rotate_left
    · rfl
    · obtain ⟨k0, k1, k2, k3, k4⟩ := HF.out w' hS
      go_simp
      with_reducible rfl
    simp only [Act.put, List.setIfInBounds_toArray, List.set_cons_zero, List.set_cons_succ])
  refine takes_nil ?_
  have HP := Lib.hid (pairs_any w2 sb M m.key m.hi ((HR.out.on hS).store) hM)
  have HB := Lib.hid hS
  clear hS
  refine seqW_step (by rfl) (fun K hK => ?_)
  go_simp
  refine HP.out.mono ?_
  rintro e w3 ⟨a, c, rfl, hrows, hold, hb3⟩
  have hb23 := HB.out.trans (hb3.mono HB.out.size)
  refine hK.out _ _ (.inr hb23) ?_
  clear hK K
  have HE := Lib.hid (equalP_any w3 m.pa a m.pn m.pc (sel M m.key m.hi).length c ps (sel M m.key m.hi) (HPs.out.on hb23) hrows HN.out rfl hpn)
  have HB3 := Lib.hid hb23
  clear hrows hold hb3 hb23
  refine seqW_step (by rfl) (fun K hK => ?_)
  go_simp
  refine HE.out.mono ?_
  rintro e w4 ⟨rfl, hb4⟩
  refine hK.out _ _ (.inl (by rfl)) ?_
  clear hK K
  refine seqW_step (by rfl) (fun K hK => ?_)
  go_simp
  refine hK.out _ _ (.inl (by rfl)) (seqW_nil ?_)
  clear hK K
  have HB4 := Lib.hid (HB3.out.trans (hb4.mono HB3.out.size))
  clear hb4
  go_wp2_with fail
  go_ret
  exact ⟨rfl, HB4.out⟩
end Go.Proofs.Ytffianjbljgnaaa

/-! ### Right3 -/
namespace Go.Proofs.Ytffianjbljgnaaa
set_option linter.unusedVariables false
set_option linter.unusedSimpArgs false
open Go.RowKit Go.Maps

/-- Keys that are ints. -/
def intKey : KeyT 3 Int where
  val := fun n => .int .i64 n
  lit := fun n => .int .i64 n
  ok := fun n => -9223372036854775808 ≤ n ∧ n ≤ 9223372036854775807
  key := fun n hn => keyOf_int_mk Try.underlying3 (by
    have h1 : IntKind.i64.min = -9223372036854775808 := rfl
    have h2 : IntKind.i64.max = 9223372036854775807 := rfl
    simp only [Lit.wf, h1, h2, Bool.and_eq_true, decide_eq_true_eq]
    omega)
  inj := fun x y _ _ e => by injection e
  law := int_keyed Try.underlying3
theorem two_new (w : World) (A B : List Value) (TA TB : TypeId) : Blk ((w.alloc (.cells A.toArray TA)).alloc (.cells B.toArray TB)).drew w.heap.size A TA ∧ Blk ((w.alloc (.cells A.toArray TA)).alloc (.cells B.toArray TB)).drew (w.heap.size + 1) B TB ∧ Below w.heap.size w ((w.alloc (.cells A.toArray TA)).alloc (.cells B.toArray TB)).drew := by
  have h1 := (Blk.new w A TA).alloc (.cells B.toArray TB)
  have h2 := Blk.new (w.alloc (.cells A.toArray TA)) B TB
  rw [World.size_alloc] at h2
  have hb := (Below.refl w.heap.size w).alloc (Nat.le_refl _) (.cells A.toArray TA)
  exact ⟨h1.drew, h2.drew, (hb.alloc hb.size _).drew⟩
def fnF (px cx ox : Nat) : Int → Option Value := fun z =>
  if z = 4 then some (.func (.func 52) #[] #[.pointer (some ⟨px, 0, none⟩), .pointer (some ⟨cx, 0, none⟩)])
  else if z = 3 then some (.func (.func 50) #[] #[.pointer (some ⟨px, 0, none⟩), .pointer (some ⟨cx, 0, none⟩)])
  else if z = 2 then some (.func (.func 48) #[] #[.pointer (some ⟨ox, 0, none⟩), .pointer (some ⟨px, 0, none⟩), .pointer (some ⟨cx, 0, none⟩)])
  else if z = 1 then some (.func (.func 47) #[] #[.pointer (some ⟨px, 0, none⟩), .pointer (some ⟨cx, 0, none⟩), .pointer (some ⟨ox, 0, none⟩)])
  else none
/-- The map of questions, as it is built. -/
theorem fns_built (w : World) (px cx ox : Nat) : ∃ w1 w2 w3 w4,
    (Instr.makeMap 103 none).run Try.prog w = .ok (.map (some w.heap.size)) (w.alloc (.map #[] 0)) ∧
    (Instr.mapUpdate 103 (.map (some w.heap.size)) (.int .i64 1) (.func (.func 47) #[] #[.pointer (some ⟨px, 0, none⟩), .pointer (some ⟨cx, 0, none⟩), .pointer (some ⟨ox, 0, none⟩)])).run Try.prog (w.alloc (.map #[] 0)) = .ok () w1 ∧
    (Instr.mapUpdate 103 (.map (some w.heap.size)) (.int .i64 2) (.func (.func 48) #[] #[.pointer (some ⟨ox, 0, none⟩), .pointer (some ⟨px, 0, none⟩), .pointer (some ⟨cx, 0, none⟩)])).run Try.prog w1 = .ok () w2 ∧
    (Instr.mapUpdate 103 (.map (some w.heap.size)) (.int .i64 3) (.func (.func 50) #[] #[.pointer (some ⟨px, 0, none⟩), .pointer (some ⟨cx, 0, none⟩)])).run Try.prog w2 = .ok () w3 ∧
    (Instr.mapUpdate 103 (.map (some w.heap.size)) (.int .i64 4) (.func (.func 52) #[] #[.pointer (some ⟨px, 0, none⟩), .pointer (some ⟨cx, 0, none⟩)])).run Try.prog w3 = .ok () w4 ∧
    VMap intKey w4 w.heap.size 4 (fnF px cx ox) ∧ Below w.heap.size w w4 := by
  have h0 := VMap.made intKey w
  have hb0 := (Below.refl w.heap.size w).alloc (Nat.le_refl _) (.map #[] 0)
  obtain ⟨w1, r1, h1, m1⟩ := h0.store (e := 45) Try.underlying103 (by unfold maxLen; omega) 1 (by constructor <;> decide) (.func (.func 47) #[] #[.pointer (some ⟨px, 0, none⟩), .pointer (some ⟨cx, 0, none⟩), .pointer (some ⟨ox, 0, none⟩)])
  obtain ⟨w2, r2, h2, m2⟩ := h1.store (e := 45) Try.underlying103 (by unfold maxLen; split <;> omega) 2 (by constructor <;> decide) (.func (.func 48) #[] #[.pointer (some ⟨ox, 0, none⟩), .pointer (some ⟨px, 0, none⟩), .pointer (some ⟨cx, 0, none⟩)])
  obtain ⟨w3, r3, h3, m3⟩ := h2.store (e := 45) Try.underlying103 (by unfold maxLen; (repeat' split) <;> omega) 3 (by constructor <;> decide) (.func (.func 50) #[] #[.pointer (some ⟨px, 0, none⟩), .pointer (some ⟨cx, 0, none⟩)])
  obtain ⟨w4, r4, h4, m4⟩ := h3.store (e := 45) Try.underlying103 (by unfold maxLen; (repeat' split) <;> omega) 4 (by constructor <;> decide) (.func (.func 52) #[] #[.pointer (some ⟨px, 0, none⟩), .pointer (some ⟨cx, 0, none⟩)])
  refine ⟨w1, w2, w3, w4, VMap.made_run (k := 3) (e := 45) Try.underlying103, r1, r2, r3, r4, ?_, ?_⟩
  · have e : VMap intKey w4 w.heap.size 4 _ := h4
    exact e.congr fun x => rfl
  · have hm := ((m1.trans m2).trans m3).trans m4
    exact hb0.trans (hm.below (fun x hx => by simp at hx; omega) hb0.size)
def rightB (M : List KV) (q : MZ) : Bool := if q.1.kind = 1 then readB M q.1 else if q.1.kind = 2 then decide (q.2 = sel M q.1.key q.1.hi) else true
def rightM (M : List KV) (q : MZ) : List KV := if q.1.kind = 3 then app M ⟨q.1.key, 0, false, q.1.val⟩ else if q.1.kind = 4 then app M ⟨q.1.key, 0, true, []⟩ else M
def rightW (W : List Rec) (q : MZ) : List Rec := if q.1.kind = 3 then setR W ⟨q.1.key, 0, false, q.1.val⟩ else if q.1.kind = 4 then setR W ⟨q.1.key, 0, true, []⟩ else W
/-- What right ends with. -/
def RightEnd (rb sb wb : Nat) (M : List KV) (W : List Rec) (q : MZ) (w : World) (e : Ending) (w' : World) : Prop := e = .returned (.bool (rightB M q)) ∧ RepAt w' rb sb wb (rightM M q) (rightW W q) ∧ Mod [sb, wb] w w'
set_option maxRecDepth 100000 in
set_option maxHeartbeats 8000000 in
theorem right_any (w : World) (rb sb wb : Nat) (q : MZ) (M : List KV) (W : List Rec) (hR : RepAt w rb sb wb M W) (hM : M.length ≤ 1000000) (hW : W.length ≤ 1000000) (hq : MdIs w q) (hpn : q.1.pn ≤ 9223372036854775807) (hki : -9223372036854775808 ≤ q.1.kind ∧ q.1.kind ≤ 9223372036854775807) :
    Calls Try.prog 28 #[.pointer (some ⟨rb, 0, none⟩), .agg (mdCells q.1).toArray] w (RightEnd rb sb wb M W q w) := by
  have hb0 := ((Below.refl w.heap.size w).alloc (Nat.le_refl _) (.cells #[.pointer (some ⟨rb, 0, none⟩)] 70))
  have hb1 := hb0.alloc hb0.size (.cells (mdCells q.1).toArray 37)
  have hp0 : Blk (w.alloc (.cells #[.pointer (some ⟨rb, 0, none⟩)] 70)) w.heap.size [.pointer (some ⟨rb, 0, none⟩)] 70 := Blk.new w [.pointer (some ⟨rb, 0, none⟩)] _
  have hp1 := hp0.alloc (.cells (mdCells q.1).toArray 37)
  have hmx := md_box (w.alloc (.cells #[.pointer (some ⟨rb, 0, none⟩)] 70)) q.1
  rw [World.size_alloc] at hmx
  clear hp0 hb0
  go_enter Try.func28, Try.ntmps28
  go_upto_region 1 with fail
  generalize hw1 : (w.alloc (.cells #[.pointer (some ⟨rb, 0, none⟩)] 70)).alloc (.cells (mdCells q.1).toArray 37) = w1 at *
  have hw1s : w1.heap.size = w.heap.size + 2 := by rw [← hw1]; simp
  clear hw1
  obtain ⟨mx, hmxe⟩ : ∃ mx, w.heap.size + 1 = mx := ⟨_, rfl⟩
  rw [hmxe] at hmx
  rw [hmxe]
  have hE1 : ¬ (mx = w1.heap.size) := by omega
  have hE2 : ¬ (mx = w1.heap.size + 1) := by omega
  have hE3 : ¬ (w1.heap.size = mx) := by omega
  clear hmxe
  go_cut [5, 6] (fun s5 s6 wx => ∃ cx ox : Nat, s5 = .pointer (some ⟨cx, 0, none⟩) ∧ s6 = .pointer (some ⟨ox, 0, none⟩) ∧ Blk wx cx (callCells q.1) 31 ∧ Blk wx ox (outCells q.1) 35 ∧ Below w1.heap.size w1 wx)
  case first =>
    obtain ⟨-, -, c2, c3, c4, c5, c6, -, c8, c9, c10, c11, c12, c13, -, -⟩ := hmx
    simp only [Nat.zero_add] at c2 c3 c4 c5 c6 c8 c9 c10 c11 c12 c13
    clear hp1 hb1 hR hq hw1s
    go_region_held3 (fun w' => w'.cell? ⟨mx, 2, none⟩ = some (.int .i64 q.1.kind) ∧ w'.cell? ⟨mx, 3, none⟩ = some (.int .u64 (q.1.cts : Nat)) ∧ w'.cell? ⟨mx, 4, none⟩ = some (.string ⟨q.1.key.toArray⟩) ∧ w'.cell? ⟨mx, 5, none⟩ = some (.string ⟨q.1.hi.toArray⟩) ∧ w'.cell? ⟨mx, 6, none⟩ = some (.string ⟨q.1.val.toArray⟩) ∧
      w'.cell? ⟨mx, 8, none⟩ = some (.int .u64 (q.1.ots : Nat)) ∧ w'.cell? ⟨mx, 9, none⟩ = some (.int .i64 q.1.on) ∧ w'.cell? ⟨mx, 10, none⟩ = some (.int .i64 q.1.err) ∧ w'.cell? ⟨mx, 11, none⟩ = some (.bool q.1.found) ∧ w'.cell? ⟨mx, 12, none⟩ = some (.string ⟨q.1.oval.toArray⟩) ∧ w'.cell? ⟨mx, 13, none⟩ = some (.slice q.1.pa q.1.pn q.1.pc)) (go_keep) (fail)
    all_goals
      go_wp2_with fail
      go_meet
      refine ⟨_, _, rfl, rfl, ?_, ?_, ?_⟩
    · exact (two_new w1 (callCells q.1) (outCells q.1) 31 35).1
    · exact (two_new w1 (callCells q.1) (outCells q.1) 31 35).2.1
    · exact (two_new w1 (callCells q.1) (outCells q.1) 31 35).2.2
    · exact (two_new w1 (outCells q.1) (callCells q.1) 35 31).2.1
    · exact (two_new w1 (outCells q.1) (callCells q.1) 35 31).1
    · exact (two_new w1 (outCells q.1) (callCells q.1) 35 31).2.2
  obtain ⟨cx, ox, rfl, rfl, hcx, hox, hb2⟩ := hcut
  obtain ⟨wa, wb1, wc1, w6, r0, r1, r2, r3, r4, hV, hb6⟩ := fns_built wc w.heap.size cx ox
  have hbc6 : Below w1.heap.size w1 w6 := hb2.trans (hb6.mono hb2.size)
  have hbw6 : Below w.heap.size w w6 := hb1.trans (hbc6.mono hb1.size)
  have k0 : w6.cell? ⟨cx, 0, none⟩ = some (.int .i64 q.1.kind) := by rw [(hcx.on hb6).cell]; rfl
  have hask : AskAt w6 w.heap.size cx ox rb q.1 := ⟨by rw [(hp1.on hbc6).cell]; rfl, by have := hbw6.size; have := hbc6.size; omega, hcx.on hb6, hox.on hb6⟩
  have HA := Lib.hid hask
  have HRep := Lib.hid (hR.on hbw6)
  have HQ := Lib.hid (hq.on hbw6)
  have HB := Lib.hid hbw6
  have hl := hV.look_ok (e := 45) (z := .nilFunc) Try.underlying103 (by kernel_rfl) q.1.kind hki
  rw [show intKey.val q.1.kind = .int .i64 q.1.kind from rfl] at hl
  clear hask hR hq hbw6 hbc6 hb1 hb2 hb6 hp1 hmx hcx hox hV hw1s hE1 hE2 hE3
  have HPN := Lib.hid hpn
  clear hpn
  by_cases e1 : q.1.kind = 1
  · have HE := Lib.hid (show rightB M q = readB M q.1 ∧ rightM M q = M ∧ rightW W q = W by unfold rightB rightM rightW; rw [e1]; exact ⟨rfl, rfl, rfl⟩)
    have HC := Lib.hid (right1_any w6 w.heap.size cx ox rb sb wb q.1 M W HA.out HRep.out HQ.out.key)
    rw [e1] at hl k0
    rw [show fnF w.heap.size cx ox 1 = some (.func (.func 47) #[] #[.pointer (some ⟨w.heap.size, 0, none⟩), .pointer (some ⟨cx, 0, none⟩), .pointer (some ⟨ox, 0, none⟩)]) from rfl] at hl
    simp only [Option.getD_some, Option.isSome_some] at hl
    clear e1 hki
    go_wp2_with fail
    refine HC.out.mono ?_
    rintro e w7 ⟨rfl, hb7⟩
    have HF := Lib.hid (show RightEnd rb sb wb M W q w (.returned (.bool (readB M q.1))) w7 from ⟨by rw [HE.out.1], by rw [HE.out.2.1, HE.out.2.2]; exact HRep.out.on hb7, Mod.of_below (HB.out.trans (hb7.mono HB.out.size))⟩)
    clear hb7
    go_wp2_with fail
    go_ret
    exact HF.out
  · by_cases e2 : q.1.kind = 2
    · have HE := Lib.hid (show rightB M q = decide (q.2 = sel M q.1.key q.1.hi) ∧ rightM M q = M ∧ rightW W q = W by unfold rightB rightM rightW; rw [e2]; exact ⟨rfl, rfl, rfl⟩)
      have HC := Lib.hid (right2_any w6 w.heap.size cx ox rb sb wb q.1 q.2 M W HA.out HRep.out hM HQ.out.n HQ.out.rows HPN.out)
      rw [e2] at hl k0
      rw [show fnF w.heap.size cx ox 2 = some (.func (.func 48) #[] #[.pointer (some ⟨ox, 0, none⟩), .pointer (some ⟨w.heap.size, 0, none⟩), .pointer (some ⟨cx, 0, none⟩)]) from rfl] at hl
      simp only [Option.getD_some, Option.isSome_some] at hl
      clear e1 e2 hki
      go_wp2_with fail
      refine HC.out.mono ?_
      rintro e w7 ⟨rfl, hb7⟩
      have HF := Lib.hid (show RightEnd rb sb wb M W q w (.returned (.bool (decide (q.2 = sel M q.1.key q.1.hi)))) w7 from ⟨by rw [HE.out.1], by rw [HE.out.2.1, HE.out.2.2]; exact HRep.out.on hb7, Mod.of_below (HB.out.trans (hb7.mono HB.out.size))⟩)
      clear hb7
      generalize decide (q.2 = sel M q.1.key q.1.hi) = bb at *
      go_wp2_with fail
      go_ret
      exact HF.out
    · by_cases e3 : q.1.kind = 3
      · have HE := Lib.hid (show rightB M q = true ∧ rightM M q = app M ⟨q.1.key, 0, false, q.1.val⟩ ∧ rightW W q = setR W ⟨q.1.key, 0, false, q.1.val⟩ by unfold rightB rightM rightW; rw [e3]; exact ⟨rfl, rfl, rfl⟩)
        have HC := Lib.hid (right3_any w6 w.heap.size cx ox rb sb wb q.1 M W HA.out HRep.out hM hW HQ.out.key)
        rw [e3] at hl k0
        rw [show fnF w.heap.size cx ox 3 = some (.func (.func 50) #[] #[.pointer (some ⟨w.heap.size, 0, none⟩), .pointer (some ⟨cx, 0, none⟩)]) from rfl] at hl
        simp only [Option.getD_some, Option.isSome_some] at hl
        clear e1 e2 e3 hki
        go_wp2_with fail
        refine HC.out.mono ?_
        rintro e w7 ⟨rfl, hR7, hm7⟩
        have HF := Lib.hid (show RightEnd rb sb wb M W q w (.returned (.bool true)) w7 from ⟨by rw [HE.out.1], by rw [HE.out.2.1, HE.out.2.2]; exact hR7, (Mod.of_below HB.out).trans hm7⟩)
        clear hR7 hm7
        go_wp2_with fail
        go_ret
        exact HF.out
      · by_cases e4 : q.1.kind = 4
        · have HE := Lib.hid (show rightB M q = true ∧ rightM M q = app M ⟨q.1.key, 0, true, []⟩ ∧ rightW W q = setR W ⟨q.1.key, 0, true, []⟩ by unfold rightB rightM rightW; rw [e4]; exact ⟨rfl, rfl, rfl⟩)
          have HC := Lib.hid (right4_any w6 w.heap.size cx ox rb sb wb q.1 M W HA.out HRep.out hM hW HQ.out.key)
          rw [e4] at hl k0
          rw [show fnF w.heap.size cx ox 4 = some (.func (.func 52) #[] #[.pointer (some ⟨w.heap.size, 0, none⟩), .pointer (some ⟨cx, 0, none⟩)]) from rfl] at hl
          simp only [Option.getD_some, Option.isSome_some] at hl
          clear e1 e2 e3 e4 hki
          go_wp2_with fail
          refine HC.out.mono ?_
          rintro e w7 ⟨rfl, hR7, hm7⟩
          have HF := Lib.hid (show RightEnd rb sb wb M W q w (.returned (.bool true)) w7 from ⟨by rw [HE.out.1], by rw [HE.out.2.1, HE.out.2.2]; exact hR7, (Mod.of_below HB.out).trans hm7⟩)
          clear hR7 hm7
          go_wp2_with fail
          go_ret
          exact HF.out
        · have HE := Lib.hid (show RightEnd rb sb wb M W q w (.returned (.bool true)) w6 from by
            refine ⟨?_, ?_, Mod.of_below HB.out⟩
            · unfold rightB; rw [if_neg e1, if_neg e2]
            · unfold rightM rightW
              rw [if_neg e3, if_neg e4, if_neg e3, if_neg e4]
              exact HRep.out)
          rw [show fnF w.heap.size cx ox q.1.kind = none by unfold fnF; rw [if_neg e4, if_neg e3, if_neg e2, if_neg e1]] at hl
          simp only [Option.getD_none, Option.isSome_none] at hl
          clear e1 e2 e3 e4 hki
          go_wp2_with fail
          go_ret
          exact HE.out
end Go.Proofs.Ytffianjbljgnaaa
