/-
  The law's own cut of entries: thirty, of eight operations each. No condition but sizes that a machine has.
-/
import Derived.Test.YtffianjbljgnaaaCut
namespace Go.Proofs.Ytffianjbljgnaaa
set_option linter.unusedVariables false
set_option linter.unusedSimpArgs false
open Go.RowKit

def cutEntry (x : Entry) : Entry := ⟨x.ts, x.first, cutRecs 8 x.ops⟩
def cutEntries (L : List Entry) : List Entry := (L.take 30).map cutEntry
theorem cutRec_ok {r : Rec} (h : r.ok) : (cutRec r).ok := by
  refine ⟨?_, ?_, h.2.2⟩
  · have := h.1
    show (r.key.take 20).length ≤ maxLen
    rw [List.length_take]; omega
  · have := h.2.1
    show (r.val.take 20).length ≤ maxLen
    rw [List.length_take]; omega
theorem cutRecs_ok {R : List Rec} {most : Nat} (h : ∀ r ∈ R, r.ok) : ∀ r ∈ cutRecs most R, r.ok := by
  intro r hr
  obtain ⟨q, hq, rfl⟩ := List.mem_map.1 hr
  exact cutRec_ok (h q (List.mem_of_mem_take hq))
theorem cutRecs_length (most : Nat) (R : List Rec) : (cutRecs most R).length ≤ most := by
  unfold cutRecs
  rw [List.length_map, List.length_take]
  omega
theorem cutEntry_ok {x : Entry} (h : x.ok) : (cutEntry x).ok := ⟨h.ts, h.first, cutRecs_ok h.ops⟩
theorem ents_one (l : List Ent) : ∀ u ∈ entsCells l, u.oneCell' = true := by
  intro u hu
  unfold entsCells at hu
  obtain ⟨r, _, hr⟩ := List.mem_flatMap.1 hu
  simp only [entCells, List.mem_cons, List.not_mem_nil, or_false] at hr
  rcases hr with rfl | rfl | rfl <;> rfl
/-- What a row of entries ends with. -/
def EntsEnd (L : List Entry) (w : World) (e : Ending) (w' : World) : Prop :=
  ∃ (a : Option Addr) (c : Nat) (z : List EZ), e = .returned (.slice a L.length c) ∧ EntsAt w' a L.length c z ∧ z.map (·.2) = L ∧ (∀ g o, a = some ⟨g, o, none⟩ → w.heap.size ≤ g) ∧ (∀ q ∈ z, ∀ g o, q.1.a = some ⟨g, o, none⟩ → w.heap.size ≤ g) ∧ Below w.heap.size w w'
/-- Entries that a loop has gathered in a row that it owns. -/
structure Gather (w0 w : World) (v : Value) (i : Nat) (zs : List EZ) (L : List Entry) : Prop where
  len : zs.length = i
  own : w.ownsRow w0.heap.size 40 3 v i (entsCells (zs.map (·.1)))
  is : zs.map (·.2) = L
  each : ∀ q ∈ zs, EntIs w q.1 q.2
  fresh : ∀ q ∈ zs, ∀ g o, q.1.a = some ⟨g, o, none⟩ → w0.heap.size ≤ g
  apart : ∀ q ∈ zs, ∀ g o, q.1.a = some ⟨g, o, none⟩ → v.ownBlock ≠ some g
  below : Below w0.heap.size w0 w
theorem Gather.start (w0 : World) : Gather w0 w0 (.slice none 0 0) 0 [] [] := ⟨rfl, ⟨rfl, .inl ⟨rfl, rfl⟩⟩, rfl, by simp, by simp, by simp, Below.refl _ _⟩
theorem Gather.stop {w0 w : World} {v : Value} {i : Nat} {zs : List EZ} {L : List Entry} (h : Gather w0 w v i zs L) : EntsEnd L w0 (.returned v) w := by
  obtain ⟨a, c, rfl⟩ := own_slice h.own
  obtain ⟨h1, h2⟩ := own_rows h.own
  have hl : i = L.length := by rw [← h.is, List.length_map, h.len]
  subst hl
  exact ⟨a, c, zs, rfl, ⟨h.len, h1, h.each⟩, h.is, h2, h.fresh, h.below⟩
theorem Gather.mod {S : List Nat} {w0 w w' : World} {v : Value} {i : Nat} {zs : List EZ} {L : List Entry} (h : Gather w0 w v i zs L) (hm : Mod S w w') (hS : ∀ x ∈ S, w.heap.size ≤ x) (hlt : ∀ p ∈ zs, ∀ g o, p.1.a = some ⟨g, o, none⟩ → g < w.heap.size) : Gather w0 w' v i zs L :=
  ⟨h.len, ownsRow_mod h.own hm (fun s hs e => by have := (h.own.lt s e).2; have := hS s hs; omega), h.is, fun q hq => (h.each q hq).mod hm (fun g o e hx => by have := hlt q hq g o e; have := hS g hx; omega), h.fresh, h.apart, h.below.trans (hm.below (fun x hx => by have := hS x hx; have := h.below.size; omega) h.below.size)⟩
theorem Gather.put {w0 w : World} {v : Value} {i : Nat} {zs : List EZ} {L : List Entry} (h : Gather w0 w v i zs L) (hi : i ≤ 1000000) (q : EZ) (hq : EntIs w q.1 q.2) (hf : ∀ g o, q.1.a = some ⟨g, o, none⟩ → w0.heap.size ≤ g) (ha : ∀ g o, q.1.a = some ⟨g, o, none⟩ → v.ownBlock ≠ some g ∧ g < w.heap.size) (ty : TypeId)
    (hlt : ∀ p ∈ zs, ∀ g o, p.1.a = some ⟨g, o, none⟩ → g < w.heap.size) :
    ∃ v' w', (Builtin.append_ #[25, 25] ty #[v, .slice (some ⟨w.heap.size, 0, none⟩) 1 1]).run Try.prog (w.alloc (.cells (entCells q.1).toArray 40)) = .ok v' w' ∧ Gather w0 w' v' (i + 1) (zs ++ [q]) (L ++ [q.2]) ∧ w.heap.size ≤ w'.heap.size := by
  have hbn := (Below.refl w.heap.size w).alloc (Nat.le_refl _) (.cells (entCells q.1).toArray 40)
  have hN : Blk (w.alloc (.cells (entCells q.1).toArray 40)) w.heap.size (entCells q.1) 40 := Blk.new w (entCells q.1) 40
  obtain ⟨v', w', hrun, hown', hmod, hblk⟩ := own_append 25 40 ty _ 3 40 Try.underlying25 info_entry rfl (by decide) (by decide) (h.own.alloc (.cells (entCells q.1).toArray 40))
    hi (by have := h.below.size; simp; omega) ⟨w.heap.size, 0, none⟩ 1 1 (entsCells [q.1]) (by omega) (by omega) rfl
    (fun k u hk => by rw [addr_add', Nat.zero_add, hN.cell]; simpa [entsCells] using hk) (ents_one _)
  have hm : Mod v.ownBlock.toList w w' := (Mod.of_below hbn).trans hmod
  have hoff : ∀ p ∈ zs ++ [q], Off v.ownBlock.toList p.1.a := by
    intro p hp g o e hx
    rcases List.mem_append.1 hp with hp | hp
    · exact h.apart p hp g o e (by simpa using hx)
    · simp only [List.mem_cons, List.not_mem_nil, or_false] at hp
      subst hp
      exact (ha g o e).1 (by simpa using hx)
  refine ⟨v', w', hrun, ⟨by simp [h.len], ?_, by simp [h.is], ?_, ?_, ?_, ?_⟩, hm.size⟩
  · rw [List.map_append, ents_append]; exact hown'
  · intro p hp
    rcases List.mem_append.1 hp with hp' | hp'
    · exact (h.each p hp').mod hm (hoff p hp)
    · simp only [List.mem_cons, List.not_mem_nil, or_false] at hp'
      subst hp'
      exact hq.mod hm (hoff p hp)
  · intro p hp
    rcases List.mem_append.1 hp with hp | hp
    · exact h.fresh p hp
    · simp only [List.mem_cons, List.not_mem_nil, or_false] at hp
      subst hp
      exact hf
  · intro p hp g o e hx
    rcases hblk g hx with h1 | h1
    · exact hoff p hp g o e (by simpa using h1)
    · rw [World.size_alloc] at h1
      rcases List.mem_append.1 hp with hp | hp
      · have := hlt p hp g o e; omega
      · simp only [List.mem_cons, List.not_mem_nil, or_false] at hp
        subst hp
        have := (ha g o e).2; omega
  · exact h.below.trans (hm.below (fun x hx => (h.own.lt x (by simpa using hx)).1) h.below.size)
set_option maxRecDepth 100000 in
set_option maxHeartbeats 4000000 in
theorem entries_any (w : World) (a : Option Addr) (n c : Nat) (z : List EZ) (h : EntsAt w a n c z) :
    Calls Try.prog 13 #[.slice a n c] w (EntsEnd (cutEntries (z.map (·.2))) w) := by
  have HH := Lib.hid h
  have hn : n ≤ 9223372036854775807 := h.rows.max
  clear h
  go_enter Try.func13, Try.ntmps13
  go_wp2_with fail
  go_loopw [3, 4, 5] (fun s3 s4 _ wr => ∃ (i : Nat) (zs : List EZ), i ≤ n ∧ i ≤ 30 ∧ s4 = .int .i64 i ∧ Gather w wr s3 i zs (((z.map (·.2)).take i).map cutEntry) ∧ (∀ p ∈ zs, ∀ g o, p.1.a = some ⟨g, o, none⟩ → g < wr.heap.size)) (fun _ s4 _ _ => n - (intOf s4).toNat)
  case atStart => exact ⟨0, [], by omega, by omega, rfl, Gather.start w, by simp⟩
  case round =>
    obtain ⟨i, zs, hi, him, rfl, hG, hL⟩ := hrel
    have hsz := hG.below.size
    have HG := Lib.hid hG
    have HL := Lib.hid hL
    clear hG hL
    by_cases hlt : i < n ∧ i < 30
    · obtain ⟨hlt, hlm⟩ := hlt
      have hil : (i : Int) < (n : Int) := by omega
      have hml : (i : Int) < 30 := by omega
      obtain ⟨q, g, o, hq, hqz, rfl, hg, c0, c1, c2⟩ := (HH.out.on HG.out.below).row hlt
      have HQ := Lib.hid ((HH.out.on HG.out.below).each q hqz)
      obtain ⟨⟨ts, first, qa, qn, qc⟩, x⟩ := q
      simp only at c0 c1 c2
      have HNext := Lib.hid (show ((z.map (·.2)).take (i + 1)).map cutEntry = ((z.map (·.2)).take i).map cutEntry ++ [cutEntry x] by rw [List.take_add_one, List.getElem?_map, hq]; simp)
      have hbn := (Below.refl wr.heap.size wr).alloc (Nat.le_refl _) (.cells #[.int .u64 (ts : Nat), .int .u64 (first : Nat), .slice qa qn qc] 40)
      have hA : Blk (wr.alloc (.cells #[.int .u64 (ts : Nat), .int .u64 (first : Nat), .slice qa qn qc] 40)) wr.heap.size [.int .u64 (ts : Nat), .int .u64 (first : Nat), .slice qa qn qc] 40 := Blk.new wr [.int .u64 (ts : Nat), .int .u64 (first : Nat), .slice qa qn qc] 40
      have HA := Lib.hid hA
      have HBn := Lib.hid hbn
      have HQ2 := Lib.hid (HQ.out.on hbn)
      clear hA hbn hq hqz
      go_upto_region 6 with fail
      generalize hw2 : wr.alloc (.cells #[.int .u64 (ts : Nat), .int .u64 (first : Nat), .slice qa qn qc] 40) = w2 at *
      have hw2s : w2.heap.size = wr.heap.size + 1 := by rw [← hw2]; simp
      clear hw2 c0 c1 c2
      have k2 : w2.cell? ⟨wr.heap.size, 2, none⟩ = some (.slice qa qn qc) := by rw [HA.out.cell]; rfl
      have HR := Lib.hid (recs_any w2 qa qn qc x.ops HQ2.out.rows HQ2.out.n HQ2.out.ok.ops 8 (by omega))
      go_wp2_with fail
      refine HR.out.mono ?_
      rintro e w3 ⟨ra, rc, rfl, hrow, hfr, hb3⟩
      have hA3 := HA.out.on hb3
      have hA4 := hA3.set 2 (.slice ra (cutRecs 8 x.ops).length rc)
      have hm4 : Mod [wr.heap.size] w3 (w3.setCell ⟨wr.heap.size, 2, none⟩ (.slice ra (cutRecs 8 x.ops).length rc)) := (Mod.refl _ _).setCell _ _ (.inl (by simp))
      have f2 := hA3.free 2
      have g2 : w3.cell? ⟨wr.heap.size, 2, none⟩ = some (.slice qa qn qc) := by rw [hA3.cell]; rfl
      have hs3 := hb3.size
      have hm := ((Mod.of_below (S := [wr.heap.size]) (HBn.out.trans (hb3.mono (by omega)))).trans hm4)
      have hR4 := hrow.mod hm4 (fun gg oo e hx => by have := hfr gg oo e; simp at hx; omega)
      have HG4 := HG.out.mod hm (fun x hx => by simp at hx; omega) HL.out
      have hlz : ∀ p ∈ zs, ∀ gg oo, p.1.a = some ⟨gg, oo, none⟩ → gg < (w3.setCell ⟨wr.heap.size, 2, none⟩ (.slice ra (cutRecs 8 x.ops).length rc)).heap.size := fun p hp gg oo e => by
        have := HL.out p hp gg oo e
        have := hm.size
        omega
      obtain ⟨v', w', hrun, hG', hs'⟩ := HG4.put (by omega) (⟨ts, first, ra, (cutRecs 8 x.ops).length, rc⟩, cutEntry x) ⟨HQ.out.ts, HQ.out.first, rfl, hR4, cutEntry_ok HQ.out.ok⟩
        (fun gg oo e => by have := hfr gg oo e; omega) (fun gg oo e => ⟨fun hx => by have := hfr gg oo e; have := (HG.out.own.lt gg hx).2; omega, by have := hfr gg oo e; have := hm4.size; omega⟩) 25 hlz
      rw [← HNext.out] at hG'
      have HL' := Lib.hid (show ∀ p ∈ zs ++ [((⟨ts, first, ra, (cutRecs 8 x.ops).length, rc⟩ : Ent), cutEntry x)], ∀ gg oo, p.1.a = some ⟨gg, oo, none⟩ → gg < w'.heap.size from fun p hp gg oo e => by
        rcases List.mem_append.1 hp with hp | hp
        · have := hlz p hp gg oo e; omega
        · simp only [List.mem_cons, List.not_mem_nil, or_false] at hp
          subst hp
          have := hfr gg oo e; have := hm4.size; omega)
      have HG' := Lib.hid hG'
      have e0 : (w3.setCell ⟨wr.heap.size, 2, none⟩ (.slice ra (cutRecs 8 x.ops).length rc)).cell? ⟨wr.heap.size, 0, none⟩ = some (.int .u64 (ts : Nat)) := by rw [hA4.cell]; rfl
      have e1 : (w3.setCell ⟨wr.heap.size, 2, none⟩ (.slice ra (cutRecs 8 x.ops).length rc)).cell? ⟨wr.heap.size, 1, none⟩ = some (.int .u64 (first : Nat)) := by rw [hA4.cell]; rfl
      have e2 : (w3.setCell ⟨wr.heap.size, 2, none⟩ (.slice ra (cutRecs 8 x.ops).length rc)).cell? ⟨wr.heap.size, 2, none⟩ = some (.slice ra (cutRecs 8 x.ops).length rc) := by rw [hA4.cell]; rfl
      clear hA3 hA4 hm4 hm hR4 HG4 hlz hG' hrow hfr hb3 hs3 hs'
      go_upto_region 7 with fail
      clear f2 g2 k2
      have hrun' : (Builtin.append_ #[25, 25] 25 #[u3, .slice (some ⟨(w3.setCell ⟨wr.heap.size, 2, none⟩ (.slice ra (cutRecs 8 x.ops).length rc)).heap.size, 0, none⟩) 1 1]).run Try.prog ((w3.setCell ⟨wr.heap.size, 2, none⟩ (.slice ra (cutRecs 8 x.ops).length rc)).alloc (.cells #[.int .u64 (ts : Nat), .int .u64 (first : Nat), .slice ra (cutRecs 8 x.ops).length rc] 40)) = .ok v' w' := hrun
      clear hrun
      generalize w3.setCell ⟨wr.heap.size, 2, none⟩ (.slice ra (cutRecs 8 x.ops).length rc) = w4 at *
      go_wp2_with (at_builtin; (with_reducible refine wpList_append_run rfl _ _ _ rfl _ _ _ _ ?_ ?_ hrun' ?_); rfl; rfl)
      go_roundw
      case rel => exact ⟨i + 1, _, by omega, by omega, by go_num, HG'.out, HL'.out⟩
      case measure => simp [intOf]; omega
    · have HE := Lib.hid (show EntsEnd (cutEntries (z.map (·.2))) w (.returned u3) wr from by
        have hl := HH.out.len
        have e : (z.map (·.2)).take i = (z.map (·.2)).take 30 := by
          rcases Nat.lt_or_ge i n with h3 | h3
          · rw [show i = 30 by omega]
          · rw [List.take_of_length_le (by rw [List.length_map]; omega), List.take_of_length_le (by rw [List.length_map]; omega)]
        have := HG.out.stop
        rw [e] at this
        exact this)
      by_cases h1 : i < n
      · have hil : (i : Int) < (n : Int) := by omega
        have hml : ¬ (i : Int) < 30 := by omega
        go_wp2_with fail
        go_ret
        exact HE.out
      · have hil : ¬ (i : Int) < (n : Int) := by omega
        go_wp2_with fail
        go_ret
        exact HE.out
end Go.Proofs.Ytffianjbljgnaaa
