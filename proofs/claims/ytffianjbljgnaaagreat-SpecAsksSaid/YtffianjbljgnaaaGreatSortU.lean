/-
  The keys of a map of numbers without a sign, sorted: slices.Sorted(maps.Keys(m)). Condition: at most a thousand keys (BoundU).
-/
import Derived.Test.YtffianjbljgnaaaGreatIterU
import Derived.Test.YtffianjbljgnaaaGreatPdqZ
namespace Go.Proofs.YtffianjbljgnaaaGreat
set_option linter.unusedVariables false
set_option linter.unusedSimpArgs false
open Go.RowKit Go.Maps Go.Sort Go.Shelf Go.Proofs

/-- How many numbers are sorted. -/
def BoundU (n : Nat) : Prop := n ≤ 1000
theorem BoundU.le {n : Nat} (h : BoundU n) : n ≤ 1000000 := by unfold BoundU at h; omega

/-- What a sort of numbers ends with. -/
def SortedU (g : Nat) (D : List Nat) (rest : List Value) (w : World) (e : Ending) (w' : World) : Prop :=
  e = .returned (.tuple #[]) ∧ ∃ D' : List Nat, D'.Perm D ∧ D'.Pairwise (fun a b => a ≤ b) ∧ Blk w' g (u64s D' ++ rest) 33 ∧ Mod [g] w w'
theorem sortU_any (g : Nat) (D : List Nat) (rest : List Value) (cap : Nat) (hl : BoundU D.length) (hcap : D.length ≤ cap) (w : World) (h : Blk w g (u64s D ++ rest) 33) :
    Calls Tryz.prog 36 #[.slice (some ⟨g, 0, none⟩) D.length cap] w (SortedU g D rest w) :=
  (sortA_any g D rest cap (by have := hl.le; omega) hcap w h).mono fun e w' ⟨he, D', h1, h2, h3, h4⟩ => ⟨he, D', h1, h2, h3, h4⟩
set_option maxHeartbeats 1000000 in
theorem insU_none (w : World) : Calls Tryz.prog 62 #[.slice none 0 0, .int .i64 0, .int .i64 0] w fun e w' => e = .returned (.tuple #[]) ∧ w = w' := by
  go_enter Tryz.func62, Tryz.ntmps62
  go_wp2_with fail
  go_loopw [6] (fun s6 wr => w = wr ∧ s6 = .int .i64 1) (fun _ _ => 0)
  case atStart => exact ⟨rfl, rfl⟩
  case round =>
    obtain ⟨rfl, rfl⟩ := hrel
    go_wp2_with fail
    go_end0
    exact ⟨rfl, rfl⟩
set_option maxHeartbeats 1000000 in
theorem pdqU_none (z : Int) (w : World) : Calls Tryz.prog 52 #[.slice none 0 0, .int .i64 0, .int .i64 0, .int .i64 z] w fun e w' => e = .returned (.tuple #[]) ∧ w = w' := by
  go_enter Tryz.func52, Tryz.ntmps52
  go_wp2_with fail
  go_loopw [1, 2, 3] (fun s1 s2 s3 wr => w = wr ∧ s1 = .int .i64 0 ∧ s2 = .int .i64 0 ∧ s3 = .int .i64 z) (fun _ _ _ _ => 0)
  case atStart => exact ⟨rfl, rfl, rfl, rfl⟩
  case round =>
    obtain ⟨rfl, rfl, rfl, rfl⟩ := hrel
    go_wp2_with fail
    refine (insU_none w).mono ?_
    rintro e w1 ⟨rfl, rfl⟩
    go_wp2_with fail
    refine bodyPost_ret (results_none rfl _ _ _) rfl ?_
    exact ⟨rfl, rfl⟩
set_option maxHeartbeats 1000000 in
theorem sortU_none (w : World) : Calls Tryz.prog 36 #[.slice none 0 0] w fun e w' => e = .returned (.tuple #[]) ∧ w = w' := by
  have hl := len_small 0 (by omega) w
  rw [show ((0 : Nat) : Int) = 0 from rfl] at hl
  go_enter Tryz.func36, Tryz.ntmps36
  go_wp2_with fail
  refine hl.mono ?_
  rintro e w1 ⟨⟨z, rfl⟩, rfl⟩
  go_wp2_with fail
  refine (pdqU_none z w).mono ?_
  rintro e w1 ⟨rfl, rfl⟩
  go_wp2_with fail
  go_end0
  exact ⟨rfl, rfl⟩

/-- A slice that reads as a row of cells, k to an element. -/
structure RowsAt (w : World) (a : Option Addr) (n c k : Nat) (cells : List Value) : Prop where
  len : cells.length = n * k
  cap : n ≤ c
  max : n ≤ 9223372036854775807
  at_ : 0 < n → ∃ g o, a = some ⟨g, o, none⟩ ∧ g < w.heap.size ∧ ∀ i v, cells[i]? = some v → w.cell? ⟨g, o + i, none⟩ = some v
theorem RowsAt.nil (w : World) (k : Nat) : RowsAt w none 0 0 k [] := ⟨by simp, Nat.le_refl _, by omega, fun h => absurd h (Nat.lt_irrefl 0)⟩
theorem RowsAt.on {w w' : World} {a : Option Addr} {n c k : Nat} {cells : List Value} (h : RowsAt w a n c k cells) (hb : Below w.heap.size w w') : RowsAt w' a n c k cells :=
  ⟨h.len, h.cap, h.max, fun hn => by
    obtain ⟨g, o, e, hg, hc⟩ := h.at_ hn
    exact ⟨g, o, e, Nat.lt_of_lt_of_le hg hb.size, fun i v hv => by rw [hb.cell (p := ⟨g, o + i, none⟩) hg]; exact hc i v hv⟩⟩
/-- Where a slice lies: not in these blocks. -/
def Off (S : List Nat) (a : Option Addr) : Prop := ∀ g o, a = some ⟨g, o, none⟩ → g ∉ S
theorem RowsAt.mod {S : List Nat} {w w' : World} {a : Option Addr} {n c k : Nat} {cells : List Value} (h : RowsAt w a n c k cells) (hm : Mod S w w') (hS : Off S a) : RowsAt w' a n c k cells :=
  ⟨h.len, h.cap, h.max, fun hn => by
    obtain ⟨g, o, e, hg, hc⟩ := h.at_ hn
    exact ⟨g, o, e, Nat.lt_of_lt_of_le hg hm.size, fun i v hv => by rw [hm.cell hg (hS g o e)]; exact hc i v hv⟩⟩
theorem RowsAt.of_blk {w : World} {g c k n : Nat} {cells rest : List Value} {T : TypeId} (h : Blk w g (cells ++ rest) T) (hl : cells.length = n * k) (hc : n ≤ c) (hm : n ≤ 9223372036854775807) : RowsAt w (some ⟨g, 0, none⟩) n c k cells :=
  ⟨hl, hc, hm, fun _ => ⟨g, 0, rfl, h.lt, fun i v hv => by
    rw [Nat.zero_add, h.cell, List.getElem?_append_left (List.getElem?_eq_some_iff.1 hv).1]; exact hv⟩⟩

theorem owns_blk {w : World} {base : Nat} {e : TypeId} {size : Nat} {v : Value} {n : Nat} {xs : List Value} (h : w.ownsRow base e size v n xs) (hn : n ≠ 0) : ∃ g cap rest, v = .slice (some ⟨g, 0, none⟩) n cap ∧ base ≤ g ∧ n ≤ cap ∧ cap ≤ maxLen ∧ Blk w g (xs ++ rest) e := by
  obtain ⟨h1, h2⟩ := h
  rcases h2 with ⟨_, h0⟩ | ⟨g, cap, cur, rfl, hb, hg, hc1, hc2, hs, ht⟩
  · exact absurd h0 hn
  · refine ⟨g, cap, cur.toList.drop (n * size), rfl, hb, hc1, hc2, ?_⟩
    unfold Blk
    rw [hg, ← ht, List.take_append_drop]

theorem allU_length {w : World} {b n : Nat} {D : DataW Value} (hown : w.ownsMap Tryz.prog 33 heldE b n D) {ss : List Nat} (hA : AllU D ss) : ss.length = Maps.size D := by
  obtain ⟨es, hD, hpw, _⟩ := hown.entries (int_keyed Tryz.underlying33)
  obtain ⟨es', hD', hko⟩ := hown.keysOf
  obtain rfl : es = es' := by rw [hD] at hD'; simpa using hD'
  subst hD
  have hk : ∀ p ∈ es, ∃ x : Nat, p.1 = litU x := fun p hp => by
    obtain ⟨v, hv⟩ := hko p hp
    obtain ⟨x, _, hx, _⟩ := keyOf_u64 hv
    exact ⟨x, hx⟩
  have hperm : (ss.map litU).Perm (es.map fun p => p.1) := by
    refine (List.perm_ext_iff_of_nodup ?_ ?_).2 fun x => ?_
    · exact List.pairwise_map.2 (hA.1.imp (fun hne e => hne (by injection e with _ e; omega)))
    · exact List.pairwise_map.2 hpw
    · rw [List.mem_map, List.mem_map]
      constructor
      · rintro ⟨y, hy, rfl⟩
        have := (hA.2 y).1 hy
        rw [has_eq, List.any_eq_true] at this
        obtain ⟨p, hp, hs⟩ := this
        obtain ⟨z, hz⟩ := hk p hp
        refine ⟨p, hp, ?_⟩
        rw [hz] at hs ⊢
        have : (z : Int) = (y : Int) := by simpa [Lit.sameKey, litU] using hs
        unfold litU; rw [this]
      · rintro ⟨p, hp, rfl⟩
        obtain ⟨z, hz⟩ := hk p hp
        refine ⟨z, (hA.2 z).2 ?_, hz.symm⟩
        rw [has_eq, List.any_eq_true]
        exact ⟨p, hp, by rw [hz]; simp [Lit.sameKey, litU]⟩
  have := hperm.length_eq
  simpa [Maps.size] using this

set_option maxRecDepth 100000 in
set_option maxHeartbeats 2000000 in
theorem sortedU_any (Bm b n : Nat) (f : Nat → Option Value) (w : World) (hBm : Bm < w.heap.size) (hm : w.cell? ⟨Bm, 0, none⟩ = some (.map (some b))) (h : VMap numKey w b n f) (hn : BoundU n) :
    Calls Tryz.prog 16 #[.func (.func 37) #[] #[.pointer (some ⟨Bm, 0, none⟩)]] w fun e w' => ∃ (a : Option Addr) (c : Nat) (L : List Nat),
      e = .returned (.slice a L.length c) ∧ RowsAt w' a L.length c 1 (u64s L) ∧ L.Pairwise (fun x y => x < y) ∧ (∀ x, x ∈ L ↔ x < 18446744073709551616 ∧ (f x).isSome = true) ∧ L.length = n ∧ (∀ g o, a = some ⟨g, o, none⟩ → w.heap.size ≤ g) ∧ Below w.heap.size w w' := by
  obtain ⟨D, hown, hT, hsz, hf⟩ := h
  have hn' : n ≤ 1000000 := hn.le
  have hseq : SeqGives Fence.wide 4 Tryz.prog 37 #[.pointer (some ⟨Bm, 0, none⟩)] encU (AllU D) (Maps.size D) w := keysU_gives Fence.wide 4 trivial rfl (by omega) Bm b _ D w hBm hm hown
  have hC := (callsIn_wide (n := 6)).1 (collectU_in Fence.wide 6 trivial trivial rfl (by omega) 37 #[.pointer (some ⟨Bm, 0, none⟩)] trivial (enters_of Tryz.func37 (by kernel_rfl) rfl) _ _ (by rw [hsz]; unfold maxLen; omega) (by rw [hsz]; omega) w hseq)
  have HC := Lib.hid hC
  have HFin := Lib.hid (show ∀ ss : List Nat, AllU D ss → ∀ L : List Nat, L.Perm ss → L.Pairwise (fun a b => a ≤ b) → L.Pairwise (fun x y => x < y) ∧ (∀ x, x ∈ L ↔ x < 18446744073709551616 ∧ (f x).isSome = true) ∧ L.length = n from fun ss hA L hp hs => by
    have hnd : L.Nodup := hp.nodup_iff.2 hA.1
    refine ⟨?_, fun x => ?_, ?_⟩
    · exact (hs.and hnd).imp (fun ⟨h1, h2⟩ => by omega)
    · rw [hp.mem_iff, hA.2 x]
      constructor
      · intro hh
        have hx : x < 18446744073709551616 := by
          obtain ⟨es, hD, hko⟩ := hown.keysOf
          subst hD
          rw [has_eq, List.any_eq_true] at hh
          obtain ⟨p, hp', hsk⟩ := hh
          obtain ⟨v, hv⟩ := hko p hp'
          obtain ⟨y, _, hy, hy2⟩ := keyOf_u64 hv
          rw [hy] at hsk
          have : (y : Int) = (x : Int) := by simpa [Lit.sameKey, litU] using hsk
          omega
        exact ⟨hx, by rw [← (hf x hx).1]; exact hh⟩
      · rintro ⟨hx, hi⟩
        show has D (numKey.lit x) = true
        rw [(hf x hx).1]; exact hi
    · rw [hp.length_eq, ← hsz]
      exact allU_length hown hA)
  clear hC hseq hown hT hsz hf hm
  go_enter Tryz.func16, Tryz.ntmps16
  go_wp2_with fail
  refine HC.out.mono ?_
  rintro e w1 ⟨v, ss, rfl, hA, hrow, hnil, hb⟩
  by_cases hss : ss = []
  · subst hss
    obtain rfl := hnil.2 rfl
    go_wp2_with fail
    refine (sortU_none w1).mono ?_
    rintro e w2 ⟨rfl, rfl⟩
    go_wp2_with fail
    go_ret
    obtain ⟨f1, f2, f3⟩ := HFin.out [] hA [] (List.Perm.refl _) List.Pairwise.nil
    exact ⟨none, 0, [], rfl, RowsAt.nil _ _, f1, f2, f3, (fun g o e => by cases e), hb⟩
  · have hpos : ss.length ≠ 0 := fun e => hss (List.eq_nil_of_length_eq_zero e)
    obtain ⟨g, cap, rest, rfl, hg, hc1, hc2, hblk⟩ := owns_blk hrow hpos
    have HS := Lib.hid (sortU_any g ss rest cap (by rw [show ss.length = n from (HFin.out ss hA (isort below64 ss) (isort_perm _ _) (isort_asc _)).2.2 ▸ (isort_length _ _).symm]; exact hn) hc1 w1 hblk)
    clear hrow hblk hpos hnil
    go_wp2_with fail
    refine HS.out.mono ?_
    rintro e w2 ⟨rfl, D', hp, hs, hb2, hm2⟩
    go_wp2_with fail
    go_ret
    obtain ⟨f1, f2, f3⟩ := HFin.out ss hA D' hp hs
    have hl2 : D'.length = ss.length := hp.length_eq
    exact ⟨some ⟨g, 0, none⟩, cap, D', by simp [hl2], RowsAt.of_blk hb2 (by simp [u64s]) (by omega) (by unfold maxLen at hc2; omega), f1, f2, f3, (fun g' o e => by cases e; exact hg), hb.trans (hm2.below (fun x hx => by simp at hx; omega) hb.size)⟩
end Go.Proofs.YtffianjbljgnaaaGreat
