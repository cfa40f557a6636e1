/-
  A map from strings to ints that the call itself makes: what it holds, asked and stored into. No condition.
-/
import Derived.Test.YtjlhkmkjegamdaaRows
import Derived.Test.YtjlhkmkjegamdaaMem
import Derived.Maps.Own
import Derived.Maps.Views
import Derived.Maps.OwnOps
import Derived.StringKeys
namespace Go.Proofs.Ytjlhkmkjegamdaa
set_option linter.unusedVariables false
set_option linter.unusedSimpArgs false
open Go.RowKit Go.Maps

theorem keyLaw : Keyed Try.prog 9 := string_keyed Try.underlying9
theorem zeroInt (w : World) : (zeroValue 3).run Try.prog w = .ok (.int .i64 0) w := by kernel_rfl

/-- Block b is a map of n entries at most that holds f. -/
def KMap (w : World) (b n : Nat) (f : List UInt8 → Int) : Prop :=
  ∃ D : DataW Unit, w.ownsMap Try.prog 9 (plainElem Try.prog 3) b n D ∧ IsMap D ∧ ∀ l, D.atKey (.string l) (.lit (.int .i64 0)) = .lit (.int .i64 (f l))

theorem KMap.made (w : World) : KMap (w.alloc (.map #[] 0)) w.heap.size 0 (fun _ => 0) := by
  exact ⟨.map [], World.ownsMap_made _ _ _ _, isMap_empty, fun l => rfl⟩
theorem KMap.lt {w : World} {b n : Nat} {f : List UInt8 → Int} (h : KMap w b n f) : b < w.heap.size := by obtain ⟨D, hD, _⟩ := h; exact hD.lt
theorem KMap.of_block {w w' : World} {b n : Nat} {f : List UInt8 → Int} (h : KMap w b n f) (hb : w'.heap[b]? = w.heap[b]?) : KMap w' b n f := by
  obtain ⟨D, ⟨es, clock, h1, r⟩, h2⟩ := h
  exact ⟨D, ⟨es, clock, by rw [hb]; exact h1, r⟩, h2⟩
theorem KMap.on {w w' : World} {b n : Nat} {f : List UInt8 → Int} (h : KMap w b n f) (hb : Below w.heap.size w w') : KMap w' b n f := h.of_block (hb.block b h.lt)
theorem KMap.look {w : World} {b n : Nat} {f : List UInt8 → Int} (h : KMap w b n f) (l : List UInt8) (hl : l.length ≤ maxLen) :
    (Instr.lookup 74 (.map (some b)) (.string ⟨l.toArray⟩) false).run Try.prog w = .ok (.int .i64 (f l)) w := by
  obtain ⟨D, hD, _, hf⟩ := h
  obtain ⟨c, hrun, hat, _⟩ := hD.lookup_int keyLaw Try.underlying74 Try.underlying3 (zeroInt w) (Go.WideMaps.keyOf_string_mk Try.underlying9 (s := ⟨l.toArray⟩) (by simpa [ByteArray.size] using hl))
  rw [hrun]
  have : D.atKey (.string (ByteArray.mk l.toArray).data.toList) (.lit (.int .i64 0)) = .lit (.int .i64 (f l)) := hf l
  rw [this] at hat
  simp only [DataW.lit.injEq, Lit.int.injEq, true_and] at hat
  rw [hat]
theorem KMap.store {w : World} {b n : Nat} {f : List UInt8 → Int} (h : KMap w b n f) (l : List UInt8) (hl : l.length ≤ maxLen) (hn : n < maxLen) (v : Int) (hv : (Lit.int .i64 v).wf = true) :
    ∃ w', (Instr.mapUpdate 74 (.map (some b)) (.string ⟨l.toArray⟩) (.int .i64 v)).run Try.prog w = .ok () w' ∧ KMap w' b (n + 1) (fun k => if k = l then v else f k) ∧ Mod [b] w w' := by
  obtain ⟨D, hD, hm, hf⟩ := h
  obtain ⟨w', hrun, hown, hg⟩ := hD.update keyLaw Try.underlying74 hn (Go.WideMaps.keyOf_string_mk Try.underlying9 (s := ⟨l.toArray⟩) (by simpa [ByteArray.size] using hl)) (plainElem_int Try.underlying3 hv)
  refine ⟨w', hrun, ⟨_, hown, ?_, ?_⟩, (Mod.refl _ _).grown hg (fun k hk => by cases hk; simp)⟩
  · exact hm.put _ _
  · intro k
    by_cases hk : k = l
    · subst hk
      show _ = DataW.lit (Lit.int .i64 (if k = k then v else f k))
      rw [if_pos rfl]
      exact atKey_put_same (k := .string k) hm (show True from trivial) _ _
    · show _ = DataW.lit (Lit.int .i64 (if k = l then v else f k))
      rw [if_neg hk, ← hf k]
      exact atKey_put_other (by intro e; injection e with e; exact hk e) _ _
end Go.Proofs.Ytjlhkmkjegamdaa
