/-
  Maps that the call itself makes, whatever their keys and elements are: what they hold, asked, stored into, struck from. No condition.
-/
import Derived.Test.YtffianjbljgnaaaRows
import Derived.Test.YtffianjbljgnaaaMem
import Derived.Maps.Own
import Derived.Maps.Views
import Derived.Maps.OwnOps
import Derived.Maps.OwnSet
import Derived.StringKeys
namespace Go.Proofs.Ytffianjbljgnaaa
set_option linter.unusedVariables false
set_option linter.unusedSimpArgs false
open Go.RowKit Go.Maps Go.WideShapes Go.ChangeMaps Go.MapKept

/-- How an element reads: as itself. -/
def heldE (v : Value) : Option (DataW Value × List MemPlace) := some (.held v, [])
/-- Keys of a kind: how one is written as a value, and read. -/
structure KeyT (k : TypeId) (κ : Type) where
  val : κ → Value
  lit : κ → Lit
  ok : κ → Prop
  key : ∀ x, ok x → keyOf Try.prog k (val x) = some (lit x)
  inj : ∀ x y, ok x → ok y → lit x = lit y → x = y
  law : Keyed Try.prog k
/-- Block b is a map of n entries that holds f. -/
def VMap {k : TypeId} {κ : Type} (T : KeyT k κ) (w : World) (b n : Nat) (f : κ → Option Value) : Prop :=
  ∃ D : DataW Value, w.ownsMap Try.prog k heldE b n D ∧ Tidy D ∧ Maps.size D = n ∧ ∀ x, T.ok x → Maps.has D (T.lit x) = (f x).isSome ∧ ∀ v, f x = some v → ∀ z, D.atKey (T.lit x) z = .held v
section
variable {k : TypeId} {κ : Type} {T : KeyT k κ}
theorem VMap.made (T : KeyT k κ) (w : World) : VMap T (w.alloc (.map #[] 0)) w.heap.size 0 (fun _ => none) :=
  ⟨.map [], World.ownsMap_made _ _ _ _, tidy_empty, rfl, fun x _ => ⟨rfl, fun v hv => by cases hv⟩⟩
theorem VMap.lt {w : World} {b n : Nat} {f : κ → Option Value} (h : VMap T w b n f) : b < w.heap.size := by obtain ⟨D, hD, _⟩ := h; exact hD.lt
theorem VMap.of_block {w w' : World} {b n : Nat} {f : κ → Option Value} (h : VMap T w b n f) (hb : w'.heap[b]? = w.heap[b]?) : VMap T w' b n f := by
  obtain ⟨D, ⟨es, clock, h1, r⟩, h2⟩ := h
  exact ⟨D, ⟨es, clock, by rw [hb]; exact h1, r⟩, h2⟩
theorem VMap.on {w w' : World} {b n : Nat} {f : κ → Option Value} (h : VMap T w b n f) (hb : Below w.heap.size w w') : VMap T w' b n f := h.of_block (hb.block b h.lt)
theorem VMap.mod {S : List Nat} {w w' : World} {b n : Nat} {f : κ → Option Value} (h : VMap T w b n f) (hm : Mod S w w') (hn : b ∉ S) : VMap T w' b n f := h.of_block (hm.block b h.lt hn)
theorem VMap.congr {w : World} {b n : Nat} {f g : κ → Option Value} (h : VMap T w b n f) (hg : ∀ x, f x = g x) : VMap T w b n g := by rw [show g = f from funext fun x => (hg x).symm]; exact h
theorem vturned_mod {w w' : World} {b : Nat} (h : w.mapTurned w' b) : Mod [b] w w' := by
  obtain ⟨es, clock, es', clock', hb, rfl⟩ := h
  refine ⟨rfl, rfl, rfl, by simp [setBlock], fun k _ hk => ?_⟩
  have hk' : b ≠ k := fun e => hk (by simp [e])
  simp [setBlock, hk']
theorem VMap.look_run {w : World} {b n : Nat} {f : κ → Option Value} (h : VMap T w b n f) {t e : TypeId} (ht : Try.prog.underlying t = some (.map k e)) {z : Value} (hz : (zeroValue e).run Try.prog w = .ok z w) (x : κ) (hx : T.ok x) :
    (Instr.lookup t (.map (some b)) (T.val x) false).run Try.prog w = .ok ((f x).getD z) w := by
  obtain ⟨D, hD, hT, _, hf⟩ := h
  obtain ⟨v, ps, hrun, hv⟩ := hD.lookup T.law ht hz (show heldE z = some (.held z, []) from rfl) (T.key x hx)
  rw [hrun]
  have hv' : DataW.held v = D.atKey (T.lit x) (.held z) := by
    have := Option.some.inj hv
    exact congrArg Prod.fst this
  obtain ⟨h1, h2⟩ := hf x hx
  cases hfx : f x with
  | none =>
    rw [hfx] at h1
    rw [atKey_of_not_has (by simpa using h1)] at hv'
    cases hv'; rfl
  | some u =>
    rw [h2 u hfx] at hv'
    cases hv'; rfl
theorem VMap.look_ok {w : World} {b n : Nat} {f : κ → Option Value} (h : VMap T w b n f) {t e : TypeId} (ht : Try.prog.underlying t = some (.map k e)) {z : Value} (hz : (zeroValue e).run Try.prog w = .ok z w) (x : κ) (hx : T.ok x) :
    (Instr.lookup t (.map (some b)) (T.val x) true).run Try.prog w = .ok (.tuple #[(f x).getD z, .bool (f x).isSome]) w := by
  obtain ⟨D, hD, hT, _, hf⟩ := h
  obtain ⟨v, ps, hrun, hv⟩ := hD.look_ok T.law ht hz (show heldE z = some (.held z, []) from rfl) (T.key x hx)
  obtain ⟨h1, h2⟩ := hf x hx
  rw [hrun, h1]
  have hv' : DataW.held v = D.atKey (T.lit x) (.held z) := by
    have := Option.some.inj hv
    exact congrArg Prod.fst this
  cases hfx : f x with
  | none =>
    rw [hfx] at h1
    rw [atKey_of_not_has (by simpa using h1)] at hv'
    cases hv'; rfl
  | some u =>
    rw [h2 u hfx] at hv'
    cases hv'; rfl
theorem owns_exact {w : World} {b n : Nat} {D : DataW Value} (h : w.ownsMap Try.prog k heldE b n D) : w.ownsMap Try.prog k heldE b (Maps.size D) D := by
  obtain ⟨es, clock, hb, F, hs, rfl⟩ := h
  refine ⟨es, clock, hb, F, ?_, rfl⟩
  simp [Maps.size, length_sorted]
theorem VMap.store [DecidableEq κ] {w : World} {b n : Nat} {f : κ → Option Value} (h : VMap T w b n f) {t e : TypeId} (ht : Try.prog.underlying t = some (.map k e)) (hn : n < maxLen) (x : κ) (hx : T.ok x) (v : Value) :
    ∃ w', (Instr.mapUpdate t (.map (some b)) (T.val x) v).run Try.prog w = .ok () w' ∧ VMap T w' b (if (f x).isSome then n else n + 1) (fun y => if y = x then some v else f y) ∧ Mod [b] w w' := by
  obtain ⟨D, hD, hT, hs, hf⟩ := h
  obtain ⟨w', hrun, hown, hg⟩ := hD.store T.law ht hn (T.key x hx) (show heldE v = some (.held v, []) from rfl)
  have hkl := T.law.key (T.key x hx)
  have hsz : Maps.size (D.put (T.lit x) (.held v)) = if (f x).isSome then n else n + 1 := by
    rw [size_put hT, (hf x hx).1, hs]
  refine ⟨w', hrun, ⟨_, by rw [← hsz]; exact owns_exact hown, hown.tidy T.law, hsz, fun y hy => ?_⟩, vturned_mod hg⟩
  by_cases hyx : y = x
  · subst hyx
    refine ⟨by rw [has_put_same hT.isMap hkl]; simp, fun u hu z => ?_⟩
    simp only [if_pos] at hu
    cases hu
    exact atKey_put_same hT.isMap hkl _ _
  · have hne : T.lit y ≠ T.lit x := fun e => hyx (T.inj y x hy hx e)
    refine ⟨by rw [has_put_other hne]; simp only [if_neg hyx]; exact (hf y hy).1, fun u hu z => ?_⟩
    simp only [if_neg hyx] at hu
    rw [atKey_put_other hne]
    exact (hf y hy).2 u hu z
theorem VMap.drop [DecidableEq κ] {w : World} {b n : Nat} {f : κ → Option Value} (h : VMap T w b n f) {t e : TypeId} (ht : Try.prog.underlying t = some (.map k e)) (x : κ) (hx : T.ok x) (ty : TypeId) :
    ∃ w', (Builtin.delete_ #[t, k] ty #[.map (some b), T.val x]).run Try.prog w = .ok (.tuple #[]) w' ∧ VMap T w' b (if (f x).isSome then n - 1 else n) (fun y => if y = x then none else f y) ∧ Mod [b] w w' := by
  obtain ⟨D, hD, hT, hs, hf⟩ := h
  obtain ⟨w', hrun, hown, hg⟩ := hD.drop T.law ht (T.key x hx) ty
  have hsz : Maps.size (D.del (T.lit x)) = if (f x).isSome then n - 1 else n := by
    have := size_del (k := T.lit x) hT
    rw [(hf x hx).1, hs] at this
    split at this <;> simp_all <;> omega
  refine ⟨w', hrun, ⟨_, by rw [← hsz]; exact owns_exact hown, hown.tidy T.law, hsz, fun y hy => ?_⟩, vturned_mod hg⟩
  by_cases hyx : y = x
  · subst hyx
    refine ⟨by rw [has_del_same]; simp, fun u hu z => ?_⟩
    simp only [if_pos] at hu
    cases hu
  · have hne : T.lit y ≠ T.lit x := fun e => hyx (T.inj y x hy hx e)
    refine ⟨by rw [has_del_other hne]; simp only [if_neg hyx]; exact (hf y hy).1, fun u hu z => ?_⟩
    simp only [if_neg hyx] at hu
    rw [atKey_del_other hne]
    exact (hf y hy).2 u hu z
theorem VMap.len {w : World} {b n : Nat} {f : κ → Option Value} (h : VMap T w b n f) {t e : TypeId} (ht : Try.prog.underlying t = some (.map k e)) (ty : TypeId) : (Builtin.len_ #[t] ty #[.map (some b)]).run Try.prog w = .ok (.int .i64 n) w := by
  obtain ⟨D, hD, _, hs, _⟩ := h
  rw [hD.len ht ty, hs]
theorem VMap.made_run {w : World} {t e : TypeId} (ht : Try.prog.underlying t = some (.map k e)) : (Instr.makeMap t none).run Try.prog w = .ok (.map (some w.heap.size)) (w.alloc (.map #[] 0)) := by
  simp [Instr.makeMap, run_underlying ht, go_sem, Result.andThen]
end

/-- Keys that are texts (their bytes). -/
def textKey : KeyT 9 (List UInt8) where
  val := fun l => .string ⟨l.toArray⟩
  lit := fun l => .string l
  ok := fun l => l.length ≤ maxLen
  key := fun l hl => Go.WideMaps.keyOf_string_mk Try.underlying9 (s := ⟨l.toArray⟩) (by simpa [ByteArray.size] using hl)
  inj := fun x y _ _ e => by injection e
  law := string_keyed Try.underlying9
/-- Keys that are numbers without a sign. -/
def numKey : KeyT 29 Nat where
  val := fun n => .int .u64 n
  lit := fun n => .int .u64 n
  ok := fun n => n < 2 ^ 64
  key := fun n hn => keyOf_int_mk Try.underlying29 (by
    have h1 : IntKind.u64.min = 0 := rfl
    have h2 : IntKind.u64.max = 18446744073709551615 := rfl
    simp only [Lit.wf, h1, h2, Bool.and_eq_true, decide_eq_true_eq]
    omega)
  inj := fun x y _ _ e => by injection e with _ e; omega
  law := int_keyed Try.underlying29
end Go.Proofs.Ytffianjbljgnaaa
