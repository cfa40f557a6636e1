/-
  Appends to a row that the call owns, of elements of any size: what is owned then, and where the row lies. Condition: at most a million elements.
-/
import Derived.Test.YtffianjbljgnaaaGreatSortU
import Derived.OwnWalk
import Derived.Laws.AppendOwn
import Derived.ArgAppend
namespace Go.Proofs.YtffianjbljgnaaaGreat
set_option linter.unusedVariables false
set_option linter.unusedSimpArgs false
open Go.RowKit

theorem addr_add' (g o j : Nat) : (⟨g, o, none⟩ : Addr).add j = ⟨g, o + j, none⟩ := by unfold Addr.add; split <;> simp_all
theorem own_slice {w : World} {B : Nat} {e : TypeId} {size : Nat} {v : Value} {n : Nat} {cells : List Value} (h : w.ownsRow B e size v n cells) : ∃ a c, v = .slice a n c := by
  rcases h.2 with ⟨rfl, rfl⟩ | ⟨g, cap, cur, rfl, _⟩ <;> exact ⟨_, _, rfl⟩
/-- A row that is owned reads. -/
theorem own_rows {w : World} {B : Nat} {e : TypeId} {size : Nat} {a : Option Addr} {n c : Nat} {cells : List Value} (h : w.ownsRow B e size (.slice a n c) n cells) : RowsAt w a n c size cells ∧ (∀ g o, a = some ⟨g, o, none⟩ → B ≤ g) := by
  obtain ⟨h1, h2⟩ := h
  rcases h2 with ⟨h3, h0⟩ | ⟨g, cap, cur, h3, hg, hh, hc1, hc2, hs, ht⟩
  · simp only [Value.slice.injEq] at h3
    obtain ⟨rfl, _, rfl⟩ := h3
    subst h0
    exact ⟨⟨h1, Nat.le_refl _, by omega, fun hn => absurd hn (Nat.lt_irrefl 0)⟩, fun g o e => by cases e⟩
  · cases h3
    refine ⟨⟨h1, hc1, by unfold maxLen at hc2; omega, fun _ => ⟨g, 0, rfl, (Array.getElem?_eq_some_iff.1 hh).1, fun i v hv => ?_⟩⟩, fun g' o e => by cases e; exact hg⟩
    rw [Nat.zero_add]
    have hb : Blk w g (cells ++ cur.toList.drop (n * size)) e := by unfold Blk; rw [hh, ← ht, List.take_append_drop]
    rw [hb.cell, List.getElem?_append_left (List.getElem?_eq_some_iff.1 hv).1]; exact hv
theorem own_append (t e ty : TypeId) (z : Value) (size bytes : Nat) (ht : Tryz.prog.underlying t = some (.slice e)) (hinf : (Tryz.prog.info? e).map (fun i => (i.zero, i.size, i.bytes)) = some (some z, size, bytes)) (hzs : z.cells.size = size) (hsz : 0 < size) (hby : bytes ≤ 1000)
    {w : World} {B : Nat} {v : Value} {n : Nat} {cells : List Value} (h : w.ownsRow B e size v n cells) (hl : n ≤ 1000000) (hB : B ≤ w.heap.size)
    (a : Addr) (m c : Nat) (news : List Value) (hm : m ≤ 1000000) (h0 : 0 < m) (hnl : news.length = m * size) (hnews : ∀ j u, news[j]? = some u → w.cell? (a.add j) = some u) (hone : ∀ u ∈ news, u.oneCell' = true) :
    ∃ v' w', (Builtin.append_ #[t, t] ty #[v, .slice (some a) m c]).run Tryz.prog w = .ok v' w' ∧ w'.ownsRow B e size v' (n + m) (cells ++ news) ∧ Mod v.ownBlock.toList w w' ∧ ∀ x, v'.ownBlock = some x → v.ownBlock = some x ∨ w.heap.size ≤ x := by
  obtain ⟨i, hi, hz0, hz1, hz2⟩ := info_parts hinf
  have hbig : (n + m) * bytes ≤ 2000000 * 1000 := Nat.mul_le_mul (by omega) hby
  obtain ⟨v', w', hrun, hown, hgr, _⟩ := run_append_own (P := Tryz.prog) (w := w) B t ty e i z size bytes ht hi hz0 hz1 hz2 hzs hsz v n cells h a m c news hnl hnews hone (by unfold maxLen; omega) (by omega) hB
  refine ⟨v', w', hrun, hown, (Mod.refl _ _).grown hgr (fun b hb => .inl (by rw [hb]; simp)), fun x hx => ?_⟩
  rcases h.2 with ⟨rfl, hn0⟩ | ⟨g, cap, cur, rfl, hg, hh, hcp, hmx, hcs, htk⟩
  · subst hn0
    have hr := run_append_nil (P := Tryz.prog) w t ty e i z ht hi hz0 a m c news (by rw [hz1]; exact hnl) hnews h0 (by omega) (by
      rw [hz2]
      have : m * bytes ≤ 1000000 * 1000 := Nat.mul_le_mul hm hby
      omega)
    rw [hr] at hrun
    cases hrun
    simp [Value.ownBlock] at hx
    right; omega
  · by_cases hroom : n + m ≤ cap
    · have hr := run_append_room (P := Tryz.prog) w t ty e i ht hi g n cap cur hh a m c news (by rw [hz1]; exact hnl) hnews hone hroom (by
        rw [hz1, hcs, hnl, ← Nat.add_mul]; exact Nat.mul_le_mul_right size hroom)
      rw [hr] at hrun
      cases hrun
      exact .inl hx
    · have hfit : Builtin.nextslicecap (n + m) cap * i.bytes ≤ 281474976710656 := by
        rw [hz2]; exact growslice_fits (by omega) (by omega)
      have hr := run_append_grow (P := Tryz.prog) (w := w) t ty e i z ht hi hz0 ⟨g, 0, none⟩ n cap cells (by rw [hz1]; exact h.1) (h.cells (g := g) rfl) a m c news (by rw [hz1]; exact hnl) hnews (by omega) (by omega) hfit
      rw [hr] at hrun
      cases hrun
      simp [Value.ownBlock] at hx
      right; omega
end Go.Proofs.YtffianjbljgnaaaGreat
