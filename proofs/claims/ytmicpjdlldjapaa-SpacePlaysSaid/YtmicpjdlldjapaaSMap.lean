/-
  A map from ints to ints that the call itself makes: what it holds, asked, stored into, struck from, gone through. No condition.
-/
import Derived.Test.YtmicpjdlldjapaaRows
import Derived.Test.YtmicpjdlldjapaaMem
import Derived.Maps.Own
import Derived.Maps.Views
import Derived.Maps.OwnOps
import Derived.Maps.OwnSet
import Derived.Maps.RangeWalk
namespace Go.Proofs.Ytmicpjdlldjapaa
set_option linter.unusedVariables false
set_option linter.unusedSimpArgs false
open Go.RowKit Go.Maps Go.WideShapes Go.ChangeMaps Go.MapKept

theorem keyLaw : Keyed Try.prog 3 := int_keyed Try.underlying3
theorem zeroInt (w : World) : (zeroValue 3).run Try.prog w = .ok (.int .i64 0) w := by kernel_rfl

/-- A number that an int holds. -/
def isInt (k : Int) : Prop := -9223372036854775808 ≤ k ∧ k ≤ 9223372036854775807
theorem isInt.wf {k : Int} (h : isInt k) : (Lit.int .i64 k).wf = true := by
  have h1 : IntKind.i64.min = -9223372036854775808 := rfl
  have h2 : IntKind.i64.max = 9223372036854775807 := rfl
  unfold isInt at h
  simp only [Lit.wf, h1, h2, Bool.and_eq_true, decide_eq_true_eq]
  exact h
theorem isInt.of_wf {k : Int} (h : (Lit.int .i64 k).wf = true) : isInt k := by
  have h1 : IntKind.i64.min = -9223372036854775808 := rfl
  have h2 : IntKind.i64.max = 9223372036854775807 := rfl
  simp only [Lit.wf, h1, h2, Bool.and_eq_true, decide_eq_true_eq] at h
  exact h

/-- A datum that reads as f: a key is there just if f is not nought at it. -/
def Reads (D : DataW Unit) (f : Int → Int) : Prop :=
  IsMap D ∧ ∀ k, isInt k → D.atKey (.int .i64 k) (.lit (.int .i64 0)) = .lit (.int .i64 (f k)) ∧ (Maps.has D (.int .i64 k) = true ↔ f k ≠ 0)
/-- Block b is a map of n entries at most that holds f. -/
def SMap (w : World) (b n : Nat) (f : Int → Int) : Prop :=
  ∃ D : DataW Unit, w.ownsMap Try.prog 3 (plainElem Try.prog 3) b n D ∧ Reads D f
theorem SMap.made (w : World) : SMap (w.alloc (.map #[] 0)) w.heap.size 0 (fun _ => 0) :=
  ⟨.map [], World.ownsMap_made _ _ _ _, isMap_empty, fun k _ => ⟨rfl, by simp [Maps.has]⟩⟩
theorem SMap.lt {w : World} {b n : Nat} {f : Int → Int} (h : SMap w b n f) : b < w.heap.size := by obtain ⟨D, hD, _⟩ := h; exact hD.lt
theorem SMap.mono {w : World} {b n n' : Nat} {f : Int → Int} (h : SMap w b n f) (hn : n ≤ n') : SMap w b n' f := by obtain ⟨D, hD, r⟩ := h; exact ⟨D, hD.mono hn, r⟩
theorem SMap.of_block {w w' : World} {b n : Nat} {f : Int → Int} (h : SMap w b n f) (hb : w'.heap[b]? = w.heap[b]?) : SMap w' b n f := by
  obtain ⟨D, ⟨es, clock, h1, r⟩, h2⟩ := h
  exact ⟨D, ⟨es, clock, by rw [hb]; exact h1, r⟩, h2⟩
theorem SMap.on {w w' : World} {b n : Nat} {f : Int → Int} (h : SMap w b n f) (hb : Below w.heap.size w w') : SMap w' b n f := h.of_block (hb.block b h.lt)
theorem SMap.mod {S : List Nat} {w w' : World} {b n : Nat} {f : Int → Int} (h : SMap w b n f) (hm : Mod S w w') (hn : b ∉ S) : SMap w' b n f := h.of_block (hm.block b h.lt hn)
theorem SMap.congr {w : World} {b n : Nat} {f g : Int → Int} (h : SMap w b n f) (hg : ∀ k, f k = g k) : SMap w b n g := by rw [show g = f from funext fun k => (hg k).symm]; exact h
theorem turned_mod {w w' : World} {b : Nat} (h : w.mapTurned w' b) : Mod [b] w w' := by
  obtain ⟨es, clock, es', clock', hb, rfl⟩ := h
  refine ⟨rfl, rfl, rfl, by simp [setBlock], fun k _ hk => ?_⟩
  have hk' : b ≠ k := fun e => hk (by simp [e])
  simp [setBlock, hk']
theorem SMap.look {w : World} {b n : Nat} {f : Int → Int} (h : SMap w b n f) (k : Int) (hk : isInt k) :
    (Instr.lookup 54 (.map (some b)) (.int .i64 k) false).run Try.prog w = .ok (.int .i64 (f k)) w := by
  obtain ⟨D, hD, _, hf⟩ := h
  obtain ⟨c, hrun, hat, _⟩ := hD.lookup_int keyLaw Try.underlying54 Try.underlying3 (zeroInt w) (Maps.keyOf_int_mk Try.underlying3 hk.wf)
  rw [hrun]
  rw [(hf k hk).1] at hat
  simp only [DataW.lit.injEq, Lit.int.injEq, true_and] at hat
  rw [hat]
theorem SMap.store {w : World} {b n : Nat} {f : Int → Int} (h : SMap w b n f) (k : Int) (hk : isInt k) (hn : n < maxLen) (v : Int) (hv : isInt v) (h0 : v ≠ 0) :
    ∃ w', (Instr.mapUpdate 54 (.map (some b)) (.int .i64 k) (.int .i64 v)).run Try.prog w = .ok () w' ∧ SMap w' b (n + 1) (fun x => if x = k then v else f x) ∧ Mod [b] w w' := by
  obtain ⟨D, hD, hm, hf⟩ := h
  obtain ⟨w', hrun, hown, hg⟩ := hD.store keyLaw Try.underlying54 hn (Maps.keyOf_int_mk Try.underlying3 hk.wf) (plainElem_int Try.underlying3 hv.wf)
  refine ⟨w', hrun, ⟨_, hown, hm.put _ _, fun x hx => ?_⟩, turned_mod hg⟩
  by_cases hxk : x = k
  · subst hxk
    simp only [if_pos]
    exact ⟨atKey_put_same (k := .int .i64 x) hm (show True from trivial) _ _, by rw [has_put_same (k := .int .i64 x) hm (show True from trivial)]; simp [h0]⟩
  · simp only [if_neg hxk]
    have hne : Lit.int .i64 x ≠ Lit.int .i64 k := by intro e; injection e with _ e; exact hxk e
    exact ⟨by rw [atKey_put_other hne]; exact (hf x hx).1, by rw [has_put_other hne]; exact (hf x hx).2⟩
theorem SMap.drop {w : World} {b n : Nat} {f : Int → Int} (h : SMap w b n f) (k : Int) (hk : isInt k) (ty : TypeId) :
    ∃ w', (Builtin.delete_ #[54, 3] ty #[.map (some b), .int .i64 k]).run Try.prog w = .ok (.tuple #[]) w' ∧ SMap w' b n (fun x => if x = k then 0 else f x) ∧ Mod [b] w w' := by
  obtain ⟨D, hD, hm, hf⟩ := h
  obtain ⟨w', hrun, hown, hg⟩ := hD.drop keyLaw Try.underlying54 (Maps.keyOf_int_mk Try.underlying3 hk.wf) ty
  refine ⟨w', hrun, ⟨_, hown, hm.del _, fun x hx => ?_⟩, turned_mod hg⟩
  by_cases hxk : x = k
  · subst hxk
    simp only [if_pos]
    exact ⟨atKey_del_same _, by rw [has_del_same]; simp⟩
  · simp only [if_neg hxk]
    have hne : Lit.int .i64 x ≠ Lit.int .i64 k := by intro e; injection e with _ e; exact hxk e
    exact ⟨by rw [atKey_del_other hne]; exact (hf x hx).1, by rw [has_del_other hne]; exact (hf x hx).2⟩

/-- The map in block b is being gone through by the iterator in block r: which keys are still to come. -/
def SRange (w : World) (b r n : Nat) (f : Int → Int) (left : Int → Bool) (cnt : Nat) : Prop :=
  ∃ (D : DataW Unit) (L : Lit → Bool), w.ranges Try.prog 3 (plainElem Try.prog 3) b r n D L cnt ∧ Reads D f ∧ ∀ k, isInt k → L (.int .i64 k) = left k
theorem SRange.left_eq {w : World} {b r n : Nat} {f : Int → Int} {left : Int → Bool} {cnt : Nat} (h : SRange w b r n f left cnt) : w.rangeLeft b r = cnt := by obtain ⟨D, L, hD, _⟩ := h; exact hD.left_eq
theorem SMap.range {w : World} {b n : Nat} {f : Int → Int} (h : SMap w b n f) :
    ∃ w' cnt, (Instr.range 54 (.map (some b))).run Try.prog w = .ok (.pointer (some ⟨w.heap.size, 0, none⟩)) w' ∧ SRange w' b w.heap.size n f (fun k => decide (f k ≠ 0)) cnt ∧ Below w.heap.size w w' ∧ w'.heap.size = w.heap.size + 1 := by
  obtain ⟨D, hD, hR⟩ := h
  obtain ⟨w', hrun, hr, hg, hs⟩ := hD.range keyLaw Try.underlying54
  refine ⟨w', _, hrun, ⟨D, _, hr, hR, fun k hk => ?_⟩, ⟨hg.os, hg.tape, hg.output, hg.size, fun i hi => hg.block i hi (by simp)⟩, hs⟩
  have := (hR.2 k hk).2
  cases hh : Maps.has D (.int .i64 k) with
  | true => simp [this.1 hh]
  | false =>
    rw [hh] at this
    simpa using this
theorem SRange.next {w : World} {b r n : Nat} {f : Int → Int} {left : Int → Bool} {cnt : Nat} (h : SRange w b r n f left cnt) (ty : TypeId) :
    ((∀ k, isInt k → left k = false) ∧ (Instr.next (.pointer (some ⟨r, 0, none⟩)) false ty).run Try.prog w = .ok (.tuple #[.bool false]) w) ∨
    ∃ k w' cnt', isInt k ∧ isInt (f k) ∧ left k = true ∧ (Instr.next (.pointer (some ⟨r, 0, none⟩)) false ty).run Try.prog w = .ok (.tuple #[.bool true, .int .i64 k, .int .i64 (f k)]) w' ∧
      SRange w' b r n f (fun x => left x && !decide (x = k)) cnt' ∧ cnt' < cnt ∧ Mod [r] w w' ∧ (Instr.entry (.pointer (some ⟨r, 0, none⟩))).run Try.prog w' = .ok (.tuple #[.int .i64 k, .int .i64 (f k)]) w' := by
  obtain ⟨D, L, hr, hR, hL⟩ := h
  rcases hr.next keyLaw ty with ⟨h0, hl, hrun⟩ | ⟨key, v, kl, y, w', cnt', hkey, hlk, hv, hat, hrun, hrg, hlt, hgr, hsz, hen⟩
  · exact .inl ⟨fun k hk => by rw [← hL k hk]; exact hl _, hrun⟩
  · obtain ⟨x, rfl, rfl, hwx⟩ := Maps.keyOf_int_inv Try.underlying3 hkey
    obtain ⟨c, rfl, rfl, hwc⟩ := plainElem_int_inv Try.underlying3 hv
    have hx : isInt x := .of_wf hwx
    have hc : isInt c := .of_wf hwc
    have hfc : f x = c := by
      have h1 := (hR.2 x hx).1
      rw [hat] at h1
      simp only [DataW.lit.injEq, Lit.int.injEq, true_and] at h1
      exact h1.symm
    refine .inr ⟨x, w', cnt', hx, by rw [hfc]; exact hc, by rw [← hL x hx]; exact hlk, by rw [hfc]; exact hrun, ⟨D, _, hrg, hR, fun k hk => ?_⟩, hlt, ⟨hgr.os, hgr.tape, hgr.output, hgr.size, fun i hi hn => hgr.block i hi (by intro e; exact hn (by cases e; simp))⟩, by rw [hfc]; exact hen⟩
    have : (Lit.int .i64 k).sameKey (.int .i64 x) = decide (k = x) := by
      by_cases hkx : k = x
      · subst hkx; rw [WideAt.sameKey_self (a := .int .i64 k) (show True from trivial)]; simp
      · rw [sameKey_ne (by intro e; injection e with _ e; exact hkx e)]; simp [hkx]
    simp only [hL k hk, this]
end Go.Proofs.Ytmicpjdlldjapaa
