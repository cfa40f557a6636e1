/-
  The keys of a store, sorted: slices.Sorted(maps.Keys(m)) of texts, by the library's contracts. Condition: at most a million keys.
-/
import Derived.Test.YtffianjbljgnaaaGreatStore
namespace Go.Proofs.YtffianjbljgnaaaGreat
set_option linter.unusedVariables false
set_option linter.unusedSimpArgs false
open Go.RowKit Go.Maps Go.Sort Go.Shelf Go.Proofs

theorem sortsS (m : Nat) : AnyZ.SortsIn Tryz.prog Tryz.sortedS_ren Fence.wide m :=
  ⟨fun blk off cap ss W hH hblk hsz => callsIn_wide.2 (AnyM.slices_Sort_string Tryz.sortS blk off cap ss W hH hblk hsz),
   fun p cap W => callsIn_wide.2 (AnyM.slices_Sort_string_none Tryz.sortS p cap W)⟩
theorem keysS_any (mb : Option Nat) (w : World) : Calls Tryz.prog 57 #[.map mb] w fun e w' => e = .returned (.func (.func 77) #[] #[.pointer (some ⟨w.heap.size, 0, none⟩)]) ∧ w' = w.alloc (.cells #[.map mb] 55) :=
  (callsIn_wide (n := 6)).1 (AnyZ.keys_in Tryz.keysS Fence.wide 6 trivial rfl mb w)
theorem asc_sorted {M : List KV} (h : Asc M) {ss : List Txt} (hp : ss.Perm (M.map (·.1))) : ss.mergeSort (fun x y => decide (x ≤ y)) = M.map (·.1) := by
  rw [show (fun x y : Txt => decide (x ≤ y)) = leB from rfl, mergeSort_of_perm hp]
  refine List.mergeSort_of_pairwise ?_
  rw [List.pairwise_map]
  refine h.imp fun {a b} hab => ?_
  show decide (a.1 ≤ b.1) = true
  exact decide_eq_true (List.le_of_lt hab)
theorem StoreAt.perm {w : World} {b : Nat} {M : List KV} (h : StoreAt w b M) {n : Nat} {D : DataW Value} (hown : w.ownsMap Tryz.prog 9 heldE b n D) (hT : Tidy D)
    (hf : ∀ x, textKey.ok x → Maps.has D (textKey.lit x) = ((look M x).map str).isSome ∧ ∀ v, (look M x).map str = some v → ∀ z, D.atKey (textKey.lit x) z = .held v) : (M.map (·.1)).Perm (strKeys D) := by
  obtain ⟨es, hD, hpw, _⟩ := hown.entries (string_keyed Tryz.underlying9)
  obtain ⟨es', hD', hko⟩ := hown.keysOf
  obtain rfl : es = es' := by rw [hD] at hD'; simpa using hD'
  have hk : ∀ p ∈ es, ∃ x : Txt, p.1 = .string x ∧ x.length ≤ maxLen := fun p hp => by
    obtain ⟨v, hv⟩ := hko p hp
    obtain ⟨x, _, hx, hl⟩ := Maps.keyOf_str Tryz.underlying9 hv
    exact ⟨x, hx, hl⟩
  subst hD
  refine perm_strKeys hpw (fun p hp => ⟨_, (hk p hp).choose_spec.1⟩) ?_ (fun x => ?_)
  · exact List.pairwise_map.2 (h.asc.imp fun hab => txt_ne hab)
  · have hmem : x ∈ M.map (·.1) ↔ (look M x).isSome = true := by
      constructor
      · intro hx
        refine Classical.byContradiction fun hn => ?_
        have : look M x = none := by cases hl : look M x <;> simp_all
        obtain ⟨p, hp, rfl⟩ := List.mem_map.1 hx
        clear hn
        have hall : ∀ (M : List KV) (p : KV), p ∈ M → look M p.1 ≠ none := by
          intro M
          induction M with
          | nil => intro p hp; cases hp
          | cons q t ih =>
            intro p hp
            unfold look
            split
            · simp
            · rename_i hne
              rcases List.mem_cons.1 hp with rfl | hp
              · exact absurd rfl hne
              · exact ih p hp
        exact hall M p hp this
      · intro hs
        refine Classical.byContradiction fun hn => ?_
        have : look M x = none := lookup_none_of fun p hp e => hn (List.mem_map.2 ⟨p, hp, e⟩)
        rw [this] at hs
        cases hs
    rw [hmem]
    constructor
    · intro hs
      have hx : x.length ≤ maxLen := by
        obtain ⟨p, hp, rfl⟩ := List.mem_map.1 (hmem.2 hs)
        exact h.keys p hp
      have := (hf x hx).1
      rw [show textKey.lit x = .string x from rfl] at this
      rw [this]; simpa using hs
    · intro hh
      have hx : x.length ≤ maxLen := by
        rw [has_eq, List.any_eq_true] at hh
        obtain ⟨p, hp, hs⟩ := hh
        obtain ⟨y, hy, hl⟩ := hk p hp
        rw [hy] at hs
        have : y = x := by simpa [Lit.sameKey] using hs
        rw [← this]; exact hl
      have := (hf x hx).1
      rw [show textKey.lit x = .string x from rfl, hh] at this
      simpa using this.symm
/-- What the sorted keys are. -/
def KeysEnd (M : List KV) (w : World) (e : Ending) (w' : World) : Prop :=
  ∃ (a : Option Addr) (c : Nat), e = .returned (.slice a M.length c) ∧ RowsAt w' a M.length c 1 (M.map fun p => .string ⟨p.1.toArray⟩) ∧ (∀ g o, a = some ⟨g, o, none⟩ → w.heap.size ≤ g) ∧ Below w.heap.size w w'
theorem sortedS_any (Bm b : Nat) (M : List KV) (w : World) (hBm : Bm < w.heap.size) (hm : w.cell? ⟨Bm, 0, none⟩ = some (.map (some b))) (h : StoreAt w b M) (hM : M.length ≤ 1000000) :
    Calls Tryz.prog 56 #[.func (.func 77) #[] #[.pointer (some ⟨Bm, 0, none⟩)]] w (KeysEnd M w) := by
  obtain ⟨D, hown, hT, hsz, hf⟩ := h.map
  have hperm := h.perm hown hT hf
  have hmax : Maps.size D ≤ maxLen := by rw [hsz]; unfold maxLen; omega
  have hbytes : Maps.size D * 16 ≤ 140737488355328 := by rw [hsz]; omega
  have hseq : SeqGives Fence.wide 2 Tryz.prog 77 #[.pointer (some ⟨Bm, 0, none⟩)] encStr (fun ss => ss.Perm (strKeys D)) (Maps.size D) w :=
    AnyZ.keys_gives (ρ := Tryz.keysS_ren) { Tryz.keysS with } Fence.wide _ trivial rfl (by omega) Bm b _ D w hBm hm hown
  have cS := AnyZ.sorted_in Tryz.sortedS Fence.wide 5 trivial trivial trivial trivial rfl (by omega) (sortsS _) (enters_of Tryz.func76 (by kernel_rfl) rfl) 77 #[.pointer (some ⟨Bm, 0, none⟩)] trivial (enters_of Tryz.func77 (by kernel_rfl) rfl) _ _ hmax hbytes _ hseq
  change CallsIn _ _ Tryz.prog 56 _ _ _ at cS
  refine ((callsIn_wide (n := 5)).1 cS).mono ?_
  rintro e w' ⟨v, ss, rfl, hS, hrow, hnil, hb⟩
  obtain ⟨a, c, rfl⟩ := own_slice hrow
  have hlen : ss.length = M.length := by rw [(hS.trans hperm.symm).length_eq, List.length_map]
  rw [asc_sorted h.asc (hS.trans hperm.symm), hlen] at hrow
  obtain ⟨h1, h2⟩ := own_rows hrow
  refine ⟨a, c, by rw [hlen], ?_, h2, hb⟩
  rw [List.map_map] at h1
  exact h1
end Go.Proofs.YtffianjbljgnaaaGreat
