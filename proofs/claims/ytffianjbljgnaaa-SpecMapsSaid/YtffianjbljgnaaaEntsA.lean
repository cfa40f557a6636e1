/-
  Texts folded into one: App, Lay, Store, KeysS, Pairs, EntsA.
-/
import Derived.Test.YtffianjbljgnaaaSortU
import Derived.OwnWalk
import Derived.Laws.AppendOwn
import Derived.ArgAppend
import Derived.Test.YtffianjbljgnaaaRows
import Derived.Shelf.SlIter.Nil
import Derived.Shelf.SortM.Plain
import Derived.Shelf.SortM.SortNone
import Derived.Shelf.SlSortCmp.InsertionK

/-! ### App -/
namespace Go.Proofs.Ytffianjbljgnaaa
set_option linter.unusedVariables false
set_option linter.unusedSimpArgs false
open Go.RowKit

theorem addr_add' (g o j : Nat) : (⟨g, o, none⟩ : Addr).add j = ⟨g, o + j, none⟩ := by unfold Addr.add; split <;> simp_all
theorem own_slice {w : World} {B : Nat} {e : TypeId} {size : Nat} {v : Value} {n : Nat} {cells : List Value} (h : w.ownsRow B e size v n cells) : ∃ a c, v = .slice a n c := by
  rcases h.2 with ⟨rfl, rfl⟩ | ⟨g, cap, cur, rfl, _⟩ <;> exact ⟨_, _, rfl⟩
/-- A row that is owned reads. -/
theorem own_rows {w : World} {B : Nat} {e : TypeId} {size : Nat} {a : Option Addr} {n c : Nat} {cells : List Value} (h : w.ownsRow B e size (.slice a n c) n cells) : RowsAt w a n c size cells ∧ (∀ g o, a = some ⟨g, o, none⟩ → B ≤ g) := by
  obtain ⟨h1, h2⟩ := h
  rcases h2 with ⟨h3, h0⟩ | ⟨g, cap, cur, h3, hg, hh, hc1, hc2, hs, ht⟩
  · simp only [Value.slice.injEq] at h3
    obtain ⟨rfl, _, rfl⟩ := h3
    subst h0
    exact ⟨⟨h1, Nat.le_refl _, by omega, fun hn => absurd hn (Nat.lt_irrefl 0)⟩, fun g o e => by cases e⟩
  · cases h3
    refine ⟨⟨h1, hc1, by unfold maxLen at hc2; omega, fun _ => ⟨g, 0, rfl, (Array.getElem?_eq_some_iff.1 hh).1, fun i v hv => ?_⟩⟩, fun g' o e => by cases e; exact hg⟩
    rw [Nat.zero_add]
    have hb : Blk w g (cells ++ cur.toList.drop (n * size)) e := by unfold Blk; rw [hh, ← ht, List.take_append_drop]
    rw [hb.cell, List.getElem?_append_left (List.getElem?_eq_some_iff.1 hv).1]; exact hv
theorem own_append (t e ty : TypeId) (z : Value) (size bytes : Nat) (ht : Try.prog.underlying t = some (.slice e)) (hinf : (Try.prog.info? e).map (fun i => (i.zero, i.size, i.bytes)) = some (some z, size, bytes)) (hzs : z.cells.size = size) (hsz : 0 < size) (hby : bytes ≤ 1000)
    {w : World} {B : Nat} {v : Value} {n : Nat} {cells : List Value} (h : w.ownsRow B e size v n cells) (hl : n ≤ 1000000) (hB : B ≤ w.heap.size)
    (a : Addr) (m c : Nat) (news : List Value) (hm : m ≤ 1000000) (h0 : 0 < m) (hnl : news.length = m * size) (hnews : ∀ j u, news[j]? = some u → w.cell? (a.add j) = some u) (hone : ∀ u ∈ news, u.oneCell' = true) :
    ∃ v' w', (Builtin.append_ #[t, t] ty #[v, .slice (some a) m c]).run Try.prog w = .ok v' w' ∧ w'.ownsRow B e size v' (n + m) (cells ++ news) ∧ Mod v.ownBlock.toList w w' ∧ ∀ x, v'.ownBlock = some x → v.ownBlock = some x ∨ w.heap.size ≤ x := by
  obtain ⟨i, hi, hz0, hz1, hz2⟩ := info_parts hinf
  have hbig : (n + m) * bytes ≤ 2000000 * 1000 := Nat.mul_le_mul (by omega) hby
  obtain ⟨v', w', hrun, hown, hgr, _⟩ := run_append_own (P := Try.prog) (w := w) B t ty e i z size bytes ht hi hz0 hz1 hz2 hzs hsz v n cells h a m c news hnl hnews hone (by unfold maxLen; omega) (by omega) hB
  refine ⟨v', w', hrun, hown, (Mod.refl _ _).grown hgr (fun b hb => .inl (by rw [hb]; simp)), fun x hx => ?_⟩
  rcases h.2 with ⟨rfl, hn0⟩ | ⟨g, cap, cur, rfl, hg, hh, hcp, hmx, hcs, htk⟩
  · subst hn0
    have hr := run_append_nil (P := Try.prog) w t ty e i z ht hi hz0 a m c news (by rw [hz1]; exact hnl) hnews h0 (by omega) (by
      rw [hz2]
      have : m * bytes ≤ 1000000 * 1000 := Nat.mul_le_mul hm hby
      omega)
    rw [hr] at hrun
    cases hrun
    simp [Value.ownBlock] at hx
    right; omega
  · by_cases hroom : n + m ≤ cap
    · have hr := run_append_room (P := Try.prog) w t ty e i ht hi g n cap cur hh a m c news (by rw [hz1]; exact hnl) hnews hone hroom (by
        rw [hz1, hcs, hnl, ← Nat.add_mul]; exact Nat.mul_le_mul_right size hroom)
      rw [hr] at hrun
      cases hrun
      exact .inl hx
    · have hfit : Builtin.nextslicecap (n + m) cap * i.bytes ≤ 281474976710656 := by
        rw [hz2]; exact growslice_fits (by omega) (by omega)
      have hr := run_append_grow (P := Try.prog) (w := w) t ty e i z ht hi hz0 ⟨g, 0, none⟩ n cap cells (by rw [hz1]; exact h.1) (h.cells (g := g) rfl) a m c news (by rw [hz1]; exact hnl) hnews (by omega) (by omega) hfit
      rw [hr] at hrun
      cases hrun
      simp [Value.ownBlock] at hx
      right; omega
end Go.Proofs.Ytffianjbljgnaaa

/-! ### Lay -/
namespace Go.Proofs.Ytffianjbljgnaaa
set_option linter.unusedVariables false
open Go.Proofs Go.Shelf
def Try.keysS_ren : Go.Shelf.Ren := ⟨fun | 7 => 58 | 10 => 68 | n => n, fun | 23 => 72 | 26 => 9 | 3 => 9 | 28 => 110 | 0 => 0 | 27 => 109 | 33 => 118 | 4 => 4 | n => n, fun | n => n⟩
theorem Try.keysS : Go.Proofs.SlLaysZ.n7 Try.prog Try.keysS_ren := {
  mixed := by kernel_rfl
  f7 := ⟨Try.f58.name, by decide, Try.func58.trans (congrArg some (by kernel_rfl))⟩
  f10 := ⟨Try.f68.name, by decide, Try.func68.trans (congrArg some (by kernel_rfl))⟩
  t0 := Try.underlying0
  a0 := Try.isAgg0
  z0 := Try.sizeOf0
  v0 := Try.zeroValue0
  t4 := Try.underlying4
  a4 := Try.isAgg4
  z4 := Try.sizeOf4
  v4 := Try.zeroValue4
  t23 := Try.underlying72
  a23 := Try.isAgg72
  z23 := Try.sizeOf72
  v23 := Try.zeroValue72
  t26 := Try.underlying9
  a26 := Try.isAgg9
  z26 := Try.sizeOf9
  v26 := Try.zeroValue9
  t27 := Try.underlying109
  a27 := Try.isAgg109
  z27 := Try.sizeOf109
  v27 := Try.zeroValue109
  t28 := Try.underlying110
  a28 := Try.isAgg110
  z28 := Try.sizeOf110
  v28 := Try.zeroValue110
  t33 := Try.underlying118
  a33 := Try.isAgg118
  z33 := Try.sizeOf118
  v33 := Try.zeroValue118 }

def Try.sortedS_ren : Go.Shelf.Ren := ⟨fun | 6 => 57 | 8 => 66 | 9 => 67 | 11 => 76 | 13 => 71 | 12 => 77 | 23 => 87 | 24 => 88 | 14 => 91 | 15 => 92 | 16 => 93 | 17 => 94 | 18 => 95 | 19 => 96 | 20 => 97 | 21 => 98 | 22 => 99 | 25 => 107 | 26 => 101 | 27 => 102 | 28 => 108 | 29 => 109 | 30 => 110 | 31 => 112 | n => n, fun | 26 => 9 | 28 => 110 | 24 => 107 | 0 => 0 | 3 => 3 | 37 => 122 | 48 => 139 | 50 => 29 | 4 => 4 | 40 => 131 | 39 => 130 | 45 => 136 | 5 => 5 | 9 => 9 | 51 => 147 | 55 => 151 | 57 => 155 | 58 => 156 | 33 => 118 | n => n, fun | n => n⟩
theorem Try.sortedS : Go.Proofs.SlLaysZ.n6 Try.prog Try.sortedS_ren := {
  mixed := by kernel_rfl
  f6 := ⟨Try.f57.name, by decide, Try.func57.trans (congrArg some (by kernel_rfl))⟩
  f8 := ⟨Try.f66.name, by decide, Try.func66.trans (congrArg some (by kernel_rfl))⟩
  f11 := ⟨Try.f76.name, by decide, Try.func76.trans (congrArg some (by kernel_rfl))⟩
  t0 := Try.underlying0
  a0 := Try.isAgg0
  z0 := Try.sizeOf0
  v0 := Try.zeroValue0
  t24 := Try.underlying107
  a24 := Try.isAgg107
  z24 := Try.sizeOf107
  v24 := Try.zeroValue107
  t26 := Try.underlying9
  a26 := Try.isAgg9
  z26 := Try.sizeOf9
  v26 := Try.zeroValue9
  t28 := Try.underlying110
  a28 := Try.isAgg110
  z28 := Try.sizeOf110
  v28 := Try.zeroValue110
  i26 := by kernel_rfl }

def Try.sortS_ren : Go.Shelf.Ren := ⟨fun | 6 => 67 | 8 => 71 | 9 => 77 | 19 => 87 | 20 => 88 | 21 => 91 | 22 => 92 | 23 => 93 | 24 => 94 | 25 => 95 | 26 => 96 | 27 => 97 | 28 => 98 | 29 => 99 | 36 => 107 | 31 => 101 | 32 => 102 | 37 => 108 | 38 => 109 | 39 => 110 | 41 => 112 | n => n, fun | 27 => 107 | 29 => 9 | 3 => 3 | 32 => 122 | 26 => 107 | 0 => 0 | 44 => 139 | 46 => 29 | 4 => 4 | 36 => 131 | 35 => 130 | 41 => 136 | 5 => 5 | 9 => 9 | 53 => 147 | 57 => 151 | 63 => 155 | 64 => 156 | n => n, fun | n => n⟩
theorem Try.sortS : Go.Proofs.SlLaysM.n6 Try.prog Try.sortS_ren := {
  mixed := by kernel_rfl
  f6 := ⟨Try.f67.name, by decide, Try.func67.trans (congrArg some (by kernel_rfl))⟩
  f8 := Try.func71.trans (congrArg some (by kernel_rfl))
  f9 := ⟨Try.f77.name, by decide, Try.func77.trans (congrArg some (by kernel_rfl))⟩
  f19 := Try.func87.trans (congrArg some (by kernel_rfl))
  f20 := Try.func88.trans (congrArg some (by kernel_rfl))
  f21 := ⟨Try.f91.name, by decide, Try.func91.trans (congrArg some (by kernel_rfl))⟩
  f22 := ⟨Try.f92.name, by decide, Try.func92.trans (congrArg some (by kernel_rfl))⟩
  f23 := ⟨Try.f93.name, by decide, Try.func93.trans (congrArg some (by kernel_rfl))⟩
  f24 := ⟨Try.f94.name, by decide, Try.func94.trans (congrArg some (by kernel_rfl))⟩
  f25 := ⟨Try.f95.name, by decide, Try.func95.trans (congrArg some (by kernel_rfl))⟩
  f26 := ⟨Try.f96.name, by decide, Try.func96.trans (congrArg some (by kernel_rfl))⟩
  f27 := ⟨Try.f97.name, by decide, Try.func97.trans (congrArg some (by kernel_rfl))⟩
  f28 := ⟨Try.f98.name, by decide, Try.func98.trans (congrArg some (by kernel_rfl))⟩
  f29 := ⟨Try.f99.name, by decide, Try.func99.trans (congrArg some (by kernel_rfl))⟩
  f31 := Try.func101.trans (congrArg some (by kernel_rfl))
  f32 := Try.func102.trans (congrArg some (by kernel_rfl))
  f36 := ⟨Try.f107.name, by decide, Try.func107.trans (congrArg some (by kernel_rfl))⟩
  f37 := ⟨Try.f108.name, by decide, Try.func108.trans (congrArg some (by kernel_rfl))⟩
  f38 := ⟨Try.f109.name, by decide, Try.func109.trans (congrArg some (by kernel_rfl))⟩
  f39 := ⟨Try.f110.name, by decide, Try.func110.trans (congrArg some (by kernel_rfl))⟩
  f41 := ⟨Try.f112.name, by decide, Try.func112.trans (congrArg some (by kernel_rfl))⟩
  t0 := Try.underlying0
  a0 := Try.isAgg0
  z0 := Try.sizeOf0
  v0 := Try.zeroValue0
  t3 := Try.underlying3
  a3 := Try.isAgg3
  z3 := Try.sizeOf3
  v3 := Try.zeroValue3
  t4 := Try.underlying4
  a4 := Try.isAgg4
  z4 := Try.sizeOf4
  v4 := Try.zeroValue4
  t5 := Try.underlying5
  a5 := Try.isAgg5
  z5 := Try.sizeOf5
  v5 := Try.zeroValue5
  t9 := Try.underlying9
  a9 := Try.isAgg9
  z9 := Try.sizeOf9
  v9 := Try.zeroValue9
  t26 := Try.underlying107
  a26 := Try.isAgg107
  z26 := Try.sizeOf107
  v26 := Try.zeroValue107
  t27 := Try.underlying107
  a27 := Try.isAgg107
  z27 := Try.sizeOf107
  v27 := Try.zeroValue107
  t29 := Try.underlying9
  a29 := Try.isAgg9
  z29 := Try.sizeOf9
  v29 := Try.zeroValue9
  t32 := Try.underlying122
  a32 := Try.isAgg122
  z32 := Try.sizeOf122
  v32 := Try.zeroValue122
  t35 := Try.underlying130
  a35 := Try.isAgg130
  z35 := Try.sizeOf130
  v35 := Try.zeroValue130
  t36 := Try.underlying131
  a36 := Try.isAgg131
  z36 := Try.sizeOf131
  v36 := Try.zeroValue131
  t41 := Try.underlying136
  a41 := Try.isAgg136
  z41 := Try.sizeOf136
  v41 := Try.zeroValue136
  t44 := Try.underlying139
  a44 := Try.isAgg139
  z44 := Try.sizeOf139
  v44 := Try.zeroValue139
  t46 := Try.underlying29
  a46 := Try.isAgg29
  z46 := Try.sizeOf29
  v46 := Try.zeroValue29
  t53 := Try.underlying147
  a53 := Try.isAgg147
  z53 := Try.sizeOf147
  v53 := Try.zeroValue147
  t57 := Try.underlying151
  a57 := Try.isAgg151
  z57 := Try.sizeOf151
  v57 := Try.zeroValue151
  t63 := Try.underlying155
  a63 := Try.isAgg155
  z63 := Try.sizeOf155
  v63 := Try.zeroValue155
  t64 := Try.underlying156
  a64 := Try.isAgg156
  z64 := Try.sizeOf156
  v64 := Try.zeroValue156 }

def Try.insE_ren : Go.Shelf.Ren := ⟨fun | 20 => 74 | n => n, fun | 24 => 40 | 22 => 25 | 3 => 3 | 25 => 106 | 4 => 4 | 0 => 0 | n => n, fun | n => n⟩
theorem Try.insE : Go.Proofs.SlLaysF0.n20 Try.prog Try.insE_ren := {
  mixed := by kernel_rfl
  f20 := ⟨Try.f74.name, by decide, Try.func74.trans (congrArg some (by kernel_rfl))⟩
  t0 := Try.underlying0
  a0 := Try.isAgg0
  z0 := Try.sizeOf0
  v0 := Try.zeroValue0
  t3 := Try.underlying3
  a3 := Try.isAgg3
  z3 := Try.sizeOf3
  v3 := Try.zeroValue3
  t4 := Try.underlying4
  a4 := Try.isAgg4
  z4 := Try.sizeOf4
  v4 := Try.zeroValue4
  t22 := Try.underlying25
  a22 := Try.isAgg25
  z22 := Try.sizeOf25
  v22 := Try.zeroValue25
  t25 := Try.underlying106
  a25 := Try.isAgg106
  z25 := Try.sizeOf106
  v25 := Try.zeroValue106 }

end Go.Proofs.Ytffianjbljgnaaa

/-! ### Store -/
namespace Go.Proofs.Ytffianjbljgnaaa
set_option linter.unusedVariables false
set_option linter.unusedSimpArgs false
open Go.RowKit Go.Maps

abbrev Txt := List UInt8
abbrev KV := Txt × Txt
def str (l : Txt) : Value := .string ⟨l.toArray⟩
def Asc (M : List KV) : Prop := M.Pairwise fun a b => a.1 < b.1
def put : List KV → Txt → Txt → List KV
  | [], k, v => [(k, v)]
  | p :: t, k, v => if p.1 < k then p :: put t k v else if p.1 = k then (k, v) :: t else (k, v) :: p :: t
def drop (M : List KV) (k : Txt) : List KV := M.filter fun p => decide (p.1 ≠ k)
def look : List KV → Txt → Option Txt
  | [], _ => none
  | p :: t, k => if k = p.1 then some p.2 else look t k

theorem txt_lt_irrefl (a : Txt) : ¬ a < a := List.lt_irrefl a
theorem txt_lt_trans {a b c : Txt} (h : a < b) (k : b < c) : a < c := List.lt_trans h k
theorem txt_lt_of {a b : Txt} (h1 : ¬ a < b) (h2 : ¬ a = b) : b < a := by
  refine Classical.byContradiction fun h3 => h2 (List.le_antisymm (List.not_lt.1 h3) (List.not_lt.1 h1))
theorem txt_ne {a b : Txt} (h : a < b) : a ≠ b := fun e => txt_lt_irrefl a (by rw [← e] at h; exact h)

theorem put_lookup (M : List KV) (k v x : Txt) : look (put M k v) x = if x = k then some v else look M x := by
  induction M with
  | nil => rfl
  | cons p t ih =>
    unfold put
    split
    · rename_i hlt
      unfold look
      rw [ih]
      by_cases hx : x = p.1
      · subst hx
        rw [if_pos rfl, if_neg (txt_ne hlt), if_pos rfl]
      · rw [if_neg hx, if_neg hx]
    · split
      · rename_i h1 h2
        subst h2
        show (if x = p.1 then some v else look t x) = if x = p.1 then some v else if x = p.1 then some p.2 else look t x
        by_cases hx : x = p.1
        · rw [if_pos hx, if_pos hx]
        · rw [if_neg hx, if_neg hx, if_neg hx]
      · rfl
theorem put_mem (M : List KV) (k v : Txt) (q : KV) (h : q ∈ put M k v) : q = (k, v) ∨ q ∈ M := by
  induction M with
  | nil => simpa [put] using h
  | cons p t ih =>
    unfold put at h
    split at h
    · rcases List.mem_cons.1 h with rfl | h
      · exact .inr (by simp)
      · exact (ih h).imp id (fun h => List.mem_cons_of_mem _ h)
    · split at h
      · rcases List.mem_cons.1 h with rfl | h
        · exact .inl rfl
        · exact .inr (List.mem_cons_of_mem _ h)
      · rcases List.mem_cons.1 h with rfl | h
        · exact .inl rfl
        · exact .inr h
theorem put_asc {M : List KV} (h : Asc M) (k v : Txt) : Asc (put M k v) := by
  induction M with
  | nil => exact List.pairwise_singleton _ _
  | cons p t ih =>
    obtain ⟨h1, h2⟩ := List.pairwise_cons.1 h
    unfold put
    split
    · rename_i hlt
      refine List.pairwise_cons.2 ⟨fun q hq => ?_, ih h2⟩
      rcases put_mem t k v q hq with rfl | hq
      · exact hlt
      · exact h1 q hq
    · split
      · rename_i _ he
        exact List.pairwise_cons.2 ⟨fun q hq => he ▸ h1 q hq, h2⟩
      · rename_i hn he
        have hk : k < p.1 := txt_lt_of hn he
        refine List.pairwise_cons.2 ⟨fun q hq => ?_, h⟩
        rcases List.mem_cons.1 hq with rfl | hq
        · exact hk
        · exact txt_lt_trans hk (h1 q hq)
theorem lookup_none_of {M : List KV} {k : Txt} (h : ∀ p ∈ M, p.1 ≠ k) : look M k = none := by
  induction M with
  | nil => rfl
  | cons p t ih =>
    unfold look
    rw [if_neg (fun e => h p (by simp) e.symm), ih (fun q hq => h q (List.mem_cons_of_mem _ hq))]
theorem put_length {M : List KV} (h : Asc M) (k v : Txt) : (put M k v).length = if (look M k).isSome then M.length else M.length + 1 := by
  induction M with
  | nil => rfl
  | cons p t ih =>
    obtain ⟨h1, h2⟩ := List.pairwise_cons.1 h
    unfold put look
    split
    · rename_i hlt
      have hk : ¬ k = p.1 := fun e => txt_ne hlt e.symm
      rw [List.length_cons, ih h2, if_neg hk, List.length_cons]
      split <;> rfl
    · split
      · rename_i _ he
        rw [if_pos he.symm]; rfl
      · rename_i hn he
        have hk : k < p.1 := txt_lt_of hn he
        have e1 : ¬ k = p.1 := fun e => he e.symm
        have e2 : look t k = none := lookup_none_of fun q hq e => txt_lt_irrefl k (by have := txt_lt_trans hk (h1 q hq); rwa [e] at this)
        rw [if_neg e1, e2]; rfl
theorem drop_asc {M : List KV} (h : Asc M) (k : Txt) : Asc (drop M k) := List.Pairwise.filter _ h
theorem drop_lookup (M : List KV) (k x : Txt) : look (drop M k) x = if x = k then none else look M x := by
  induction M with
  | nil => simp [drop, look]
  | cons p t ih =>
    unfold drop at ih ⊢
    rw [List.filter_cons]
    by_cases hp : p.1 = k
    · rw [if_neg (by simp [hp]), ih]
      show _ = if x = k then none else if x = p.1 then some p.2 else look t x
      by_cases hx : x = k
      · rw [if_pos hx, if_pos hx]
      · rw [if_neg hx, if_neg hx, if_neg (by rw [hp]; exact hx)]
    · rw [if_pos (by simp [hp])]
      show (if x = p.1 then some p.2 else look _ x) = if x = k then none else if x = p.1 then some p.2 else look t x
      rw [ih]
      by_cases hx : x = p.1
      · rw [if_pos hx, if_neg (by rw [hx]; exact hp), if_pos hx]
      · rw [if_neg hx, if_neg hx]
theorem drop_length {M : List KV} (h : Asc M) (k : Txt) : (drop M k).length = if (look M k).isSome then M.length - 1 else M.length := by
  induction M with
  | nil => rfl
  | cons p t ih =>
    obtain ⟨h1, h2⟩ := List.pairwise_cons.1 h
    have ih := ih h2
    unfold drop at ih ⊢
    rw [List.filter_cons]
    unfold look
    by_cases hp : p.1 = k
    · have e2 : t.filter (fun p => decide (p.1 ≠ k)) = t := List.filter_eq_self.2 fun q hq => by
        have := txt_ne (h1 q hq)
        rw [hp] at this
        simp [Ne.symm this]
      rw [if_neg (by simp [hp]), e2, if_pos hp.symm]
      simp
    · have hk : ¬ k = p.1 := fun e => hp e.symm
      rw [if_pos (show decide (p.1 ≠ k) = true by simp [hp]), if_neg hk, List.length_cons, ih, List.length_cons]
      cases hl : look t k with
      | none => rfl
      | some z =>
        have : 0 < t.length := by
          cases t with
          | nil => cases hl
          | cons _ _ => simp
        show t.length - 1 + 1 = t.length + 1 - 1
        omega

structure Rec where
  key : Txt
  lsn : Nat
  del : Bool
  val : Txt
  deriving DecidableEq
def recCells (r : Rec) : List Value := [.string ⟨r.key.toArray⟩, .int .u64 (r.lsn : Nat), .bool r.del, .string ⟨r.val.toArray⟩]
def app (M : List KV) (r : Rec) : List KV := if r.del then drop M r.key else put M r.key r.val
theorem app_asc {M : List KV} (h : Asc M) (r : Rec) : Asc (app M r) := by
  unfold app
  split
  · exact drop_asc h _
  · exact put_asc h _ _
theorem app_length {M : List KV} (h : Asc M) (r : Rec) : (app M r).length ≤ M.length + 1 := by
  unfold app
  split
  · rw [drop_length h]; split <;> omega
  · rw [put_length h]; split <;> omega

/-- Block b is a store that holds M. -/
structure StoreAt (w : World) (b : Nat) (M : List KV) : Prop where
  asc : Asc M
  keys : ∀ p ∈ M, p.1.length ≤ maxLen
  map : VMap textKey w b M.length (fun x => (look M x).map str)
theorem StoreAt.on {w w' : World} {b : Nat} {M : List KV} (h : StoreAt w b M) (hb : Below w.heap.size w w') : StoreAt w' b M := ⟨h.asc, h.keys, h.map.on hb⟩
theorem StoreAt.mod {S : List Nat} {w w' : World} {b : Nat} {M : List KV} (h : StoreAt w b M) (hm : Mod S w w') (hn : b ∉ S) : StoreAt w' b M := ⟨h.asc, h.keys, h.map.mod hm hn⟩
theorem StoreAt.made (w : World) : StoreAt (w.alloc (.map #[] 0)) w.heap.size [] := ⟨List.Pairwise.nil, by simp, (VMap.made textKey w).congr (fun x => rfl)⟩
theorem StoreAt.lt {w : World} {b : Nat} {M : List KV} (h : StoreAt w b M) : b < w.heap.size := h.map.lt
theorem StoreAt.puts {w : World} {b : Nat} {M : List KV} (h : StoreAt w b M) (hM : M.length ≤ 1000000) (k v : Txt) (hk : k.length ≤ maxLen) :
    ∃ w', (Instr.mapUpdate 72 (.map (some b)) (.string ⟨k.toArray⟩) (.string ⟨v.toArray⟩)).run Try.prog w = .ok () w' ∧ StoreAt w' b (put M k v) ∧ Mod [b] w w' := by
  obtain ⟨w', hr, hm, hmod⟩ := h.map.store (e := 9) Try.underlying72 (by unfold maxLen; omega) k hk (.string ⟨v.toArray⟩)
  refine ⟨w', hr, ⟨put_asc h.asc k v, fun p hp => ?_, ?_⟩, hmod⟩
  · rcases put_mem M k v p hp with rfl | hp
    · exact hk
    · exact h.keys p hp
  · have e : (if ((look M k).map str).isSome then M.length else M.length + 1) = (put M k v).length := by rw [put_length h.asc]; simp
    rw [e] at hm
    exact hm.congr fun x => by
      show _ = (look (put M k v) x).map str
      rw [put_lookup]
      split <;> rfl
theorem StoreAt.drops {w : World} {b : Nat} {M : List KV} (h : StoreAt w b M) (k : Txt) (hk : k.length ≤ maxLen) (ty : TypeId) :
    ∃ w', (Builtin.delete_ #[72, 9] ty #[.map (some b), .string ⟨k.toArray⟩]).run Try.prog w = .ok (.tuple #[]) w' ∧ StoreAt w' b (drop M k) ∧ Mod [b] w w' := by
  obtain ⟨w', hr, hm, hmod⟩ := h.map.drop (e := 9) Try.underlying72 k hk ty
  refine ⟨w', hr, ⟨drop_asc h.asc k, fun p hp => h.keys p (List.mem_filter.1 hp).1, ?_⟩, hmod⟩
  have e : (if ((look M k).map str).isSome then M.length - 1 else M.length) = (drop M k).length := by rw [drop_length h.asc]; simp
  rw [e] at hm
  exact hm.congr fun x => by
    show _ = (look (drop M k) x).map str
    rw [drop_lookup]
    split <;> rfl
theorem StoreAt.looks {w : World} {b : Nat} {M : List KV} (h : StoreAt w b M) (k : Txt) (hk : k.length ≤ maxLen) :
    (Instr.lookup 72 (.map (some b)) (.string ⟨k.toArray⟩) false).run Try.prog w = .ok (str ((look M k).getD [])) w := by
  have := h.map.look_run (e := 9) Try.underlying72 (z := str []) (by kernel_rfl) k hk
  rw [show (textKey.val k) = .string ⟨k.toArray⟩ from rfl] at this
  rw [this]
  cases look M k <;> rfl
theorem StoreAt.looks_ok {w : World} {b : Nat} {M : List KV} (h : StoreAt w b M) (k : Txt) (hk : k.length ≤ maxLen) :
    (Instr.lookup 72 (.map (some b)) (.string ⟨k.toArray⟩) true).run Try.prog w = .ok (.tuple #[str ((look M k).getD []), .bool (look M k).isSome]) w := by
  have := h.map.look_ok (e := 9) Try.underlying72 (z := str []) (by kernel_rfl) k hk
  rw [show (textKey.val k) = .string ⟨k.toArray⟩ from rfl] at this
  rw [this]
  cases look M k <;> rfl
/-- What an operation on a store ends with. -/
def DoneS (b : Nat) (M' : List KV) (w : World) (e : Ending) (w' : World) : Prop := e = .returned (.tuple #[]) ∧ StoreAt w' b M' ∧ Mod [b] w w'
set_option maxHeartbeats 2000000 in
theorem do_any (w : World) (b : Nat) (M : List KV) (h : StoreAt w b M) (hM : M.length ≤ 1000000) (r : Rec) (hk : r.key.length ≤ maxLen) :
    Calls Try.prog 33 #[.map (some b), .agg #[.string ⟨r.key.toArray⟩, .int .u64 (r.lsn : Nat), .bool r.del, .string ⟨r.val.toArray⟩]] w (DoneS b (app M r) w) := by
  obtain ⟨k, l, d, v⟩ := r
  simp only at hk ⊢
  have hR : Blk (w.alloc (.cells #[.string ⟨k.toArray⟩, .int .u64 (l : Nat), .bool d, .string ⟨v.toArray⟩] 58)) w.heap.size [.string ⟨k.toArray⟩, .int .u64 (l : Nat), .bool d, .string ⟨v.toArray⟩] 58 := Blk.new _ _ _
  have hb := (Below.refl w.heap.size w).alloc (Nat.le_refl _) (.cells #[.string ⟨k.toArray⟩, .int .u64 (l : Nat), .bool d, .string ⟨v.toArray⟩] 58)
  have hS := h.on hb
  cases d with
  | true =>
    obtain ⟨w', hr, hs, hm⟩ := hS.drops k hk 0
    have HE := Lib.hid (show DoneS b (app M ⟨k, l, true, v⟩) w (.returned (.tuple #[])) w' from ⟨rfl, hs, (Mod.of_below hb).trans hm⟩)
    clear hs hm hS h
    go_enter Try.func33, Try.ntmps33
    go_wp2_with fail
    refine bodyPost_ret (results_none rfl _ _ _) rfl ?_
    exact HE.out
  | false =>
    obtain ⟨w', hr, hs, hm⟩ := hS.puts hM k v hk
    have HE := Lib.hid (show DoneS b (app M ⟨k, l, false, v⟩) w (.returned (.tuple #[])) w' from ⟨rfl, hs, (Mod.of_below hb).trans hm⟩)
    clear hs hm hS h
    go_enter Try.func33, Try.ntmps33
    go_wp2_with fail
    go_end0
    exact HE.out
end Go.Proofs.Ytffianjbljgnaaa

/-! ### KeysS -/
namespace Go.Proofs.Ytffianjbljgnaaa
set_option linter.unusedVariables false
set_option linter.unusedSimpArgs false
open Go.RowKit Go.Maps Go.Sort Go.Shelf Go.Proofs

theorem sortsS (m : Nat) : AnyZ.SortsIn Try.prog Try.sortedS_ren Fence.wide m :=
  ⟨fun blk off cap ss W hH hblk hsz => callsIn_wide.2 (AnyM.slices_Sort_string Try.sortS blk off cap ss W hH hblk hsz),
   fun p cap W => callsIn_wide.2 (AnyM.slices_Sort_string_none Try.sortS p cap W)⟩
theorem keysS_any (mb : Option Nat) (w : World) : Calls Try.prog 58 #[.map mb] w fun e w' => e = .returned (.func (.func 68) #[] #[.pointer (some ⟨w.heap.size, 0, none⟩)]) ∧ w' = w.alloc (.cells #[.map mb] 72) :=
  (callsIn_wide (n := 6)).1 (AnyZ.keys_in Try.keysS Fence.wide 6 trivial rfl mb w)
theorem asc_sorted {M : List KV} (h : Asc M) {ss : List Txt} (hp : ss.Perm (M.map (·.1))) : ss.mergeSort (fun x y => decide (x ≤ y)) = M.map (·.1) := by
  rw [show (fun x y : Txt => decide (x ≤ y)) = leB from rfl, mergeSort_of_perm hp]
  refine List.mergeSort_of_pairwise ?_
  rw [List.pairwise_map]
  refine h.imp fun {a b} hab => ?_
  show decide (a.1 ≤ b.1) = true
  exact decide_eq_true (List.le_of_lt hab)
theorem StoreAt.perm {w : World} {b : Nat} {M : List KV} (h : StoreAt w b M) {n : Nat} {D : DataW Value} (hown : w.ownsMap Try.prog 9 heldE b n D) (hT : Tidy D)
    (hf : ∀ x, textKey.ok x → Maps.has D (textKey.lit x) = ((look M x).map str).isSome ∧ ∀ v, (look M x).map str = some v → ∀ z, D.atKey (textKey.lit x) z = .held v) : (M.map (·.1)).Perm (strKeys D) := by
  obtain ⟨es, hD, hpw, _⟩ := hown.entries (string_keyed Try.underlying9)
  obtain ⟨es', hD', hko⟩ := hown.keysOf
  obtain rfl : es = es' := by rw [hD] at hD'; simpa using hD'
  have hk : ∀ p ∈ es, ∃ x : Txt, p.1 = .string x ∧ x.length ≤ maxLen := fun p hp => by
    obtain ⟨v, hv⟩ := hko p hp
    obtain ⟨x, _, hx, hl⟩ := Maps.keyOf_str Try.underlying9 hv
    exact ⟨x, hx, hl⟩
  subst hD
  refine perm_strKeys hpw (fun p hp => ⟨_, (hk p hp).choose_spec.1⟩) ?_ (fun x => ?_)
  · exact List.pairwise_map.2 (h.asc.imp fun hab => txt_ne hab)
  · have hmem : x ∈ M.map (·.1) ↔ (look M x).isSome = true := by
      constructor
      · intro hx
        refine Classical.byContradiction fun hn => ?_
        have : look M x = none := by cases hl : look M x <;> simp_all
        obtain ⟨p, hp, rfl⟩ := List.mem_map.1 hx
        clear hn
        have hall : ∀ (M : List KV) (p : KV), p ∈ M → look M p.1 ≠ none := by
          intro M
          induction M with
          | nil => intro p hp; cases hp
          | cons q t ih =>
            intro p hp
            unfold look
            split
            · simp
            · rename_i hne
              rcases List.mem_cons.1 hp with rfl | hp
              · exact absurd rfl hne
              · exact ih p hp
        exact hall M p hp this
      · intro hs
        refine Classical.byContradiction fun hn => ?_
        have : look M x = none := lookup_none_of fun p hp e => hn (List.mem_map.2 ⟨p, hp, e⟩)
        rw [this] at hs
        cases hs
    rw [hmem]
    constructor
    · intro hs
      have hx : x.length ≤ maxLen := by
        obtain ⟨p, hp, rfl⟩ := List.mem_map.1 (hmem.2 hs)
        exact h.keys p hp
      have := (hf x hx).1
      rw [show textKey.lit x = .string x from rfl] at this
      rw [this]; simpa using hs
    · intro hh
      have hx : x.length ≤ maxLen := by
        rw [has_eq, List.any_eq_true] at hh
        obtain ⟨p, hp, hs⟩ := hh
        obtain ⟨y, hy, hl⟩ := hk p hp
        rw [hy] at hs
        have : y = x := by simpa [Lit.sameKey] using hs
        rw [← this]; exact hl
      have := (hf x hx).1
      rw [show textKey.lit x = .string x from rfl, hh] at this
      simpa using this.symm
/-- What the sorted keys are. -/
def KeysEnd (M : List KV) (w : World) (e : Ending) (w' : World) : Prop :=
  ∃ (a : Option Addr) (c : Nat), e = .returned (.slice a M.length c) ∧ RowsAt w' a M.length c 1 (M.map fun p => .string ⟨p.1.toArray⟩) ∧ (∀ g o, a = some ⟨g, o, none⟩ → w.heap.size ≤ g) ∧ Below w.heap.size w w'
theorem sortedS_any (Bm b : Nat) (M : List KV) (w : World) (hBm : Bm < w.heap.size) (hm : w.cell? ⟨Bm, 0, none⟩ = some (.map (some b))) (h : StoreAt w b M) (hM : M.length ≤ 1000000) :
    Calls Try.prog 57 #[.func (.func 68) #[] #[.pointer (some ⟨Bm, 0, none⟩)]] w (KeysEnd M w) := by
  obtain ⟨D, hown, hT, hsz, hf⟩ := h.map
  have hperm := h.perm hown hT hf
  have hmax : Maps.size D ≤ maxLen := by rw [hsz]; unfold maxLen; omega
  have hbytes : Maps.size D * 16 ≤ 140737488355328 := by rw [hsz]; omega
  have hseq : SeqGives Fence.wide 2 Try.prog 68 #[.pointer (some ⟨Bm, 0, none⟩)] encStr (fun ss => ss.Perm (strKeys D)) (Maps.size D) w :=
    AnyZ.keys_gives (ρ := Try.keysS_ren) { Try.keysS with } Fence.wide _ trivial rfl (by omega) Bm b _ D w hBm hm hown
  have cS := AnyZ.sorted_in Try.sortedS Fence.wide 5 trivial trivial trivial trivial rfl (by omega) (sortsS _) (enters_of Try.func67 (by kernel_rfl) rfl) 68 #[.pointer (some ⟨Bm, 0, none⟩)] trivial (enters_of Try.func68 (by kernel_rfl) rfl) _ _ hmax hbytes _ hseq
  change CallsIn _ _ Try.prog 57 _ _ _ at cS
  refine ((callsIn_wide (n := 5)).1 cS).mono ?_
  rintro e w' ⟨v, ss, rfl, hS, hrow, hnil, hb⟩
  obtain ⟨a, c, rfl⟩ := own_slice hrow
  have hlen : ss.length = M.length := by rw [(hS.trans hperm.symm).length_eq, List.length_map]
  rw [asc_sorted h.asc (hS.trans hperm.symm), hlen] at hrow
  obtain ⟨h1, h2⟩ := own_rows hrow
  refine ⟨a, c, by rw [hlen], ?_, h2, hb⟩
  rw [List.map_map] at h1
  exact h1
end Go.Proofs.Ytffianjbljgnaaa

/-! ### Pairs -/
namespace Go.Proofs.Ytffianjbljgnaaa
set_option linter.unusedVariables false
set_option linter.unusedSimpArgs false
open Go.RowKit

def pairCells (p : KV) : List Value := [.string ⟨p.1.toArray⟩, .string ⟨p.2.toArray⟩]
def pairsCells (l : List KV) : List Value := l.flatMap pairCells
theorem pairs_length (l : List KV) : (pairsCells l).length = l.length * 2 := by
  induction l with
  | nil => rfl
  | cons e t ih => show (pairCells e ++ pairsCells t).length = _; rw [List.length_append, ih, List.length_cons]; show 2 + _ = _; omega
theorem pairs_append (l m : List KV) : pairsCells (l ++ m) = pairsCells l ++ pairsCells m := by unfold pairsCells; rw [List.flatMap_append]
def inside (lo hi k : Txt) : Bool := decide (lo ≤ k) && (decide (hi = []) || decide (k < hi))
def sel (M : List KV) (lo hi : Txt) : List KV := M.filter fun p => inside lo hi p.1
theorem asc_look {M : List KV} (h : Asc M) {p : KV} (hp : p ∈ M) : look M p.1 = some p.2 := by
  induction M with
  | nil => cases hp
  | cons q t ih =>
    obtain ⟨h1, h2⟩ := List.pairwise_cons.1 h
    unfold look
    rcases List.mem_cons.1 hp with rfl | hp
    · rw [if_pos rfl]
    · rw [if_neg (fun e => txt_ne (h1 p hp) e.symm), ih h2 hp]
/-- What a slice of pairs that is handed back is. -/
def PairsEnd (P : List KV) (w : World) (e : Ending) (w' : World) : Prop :=
  ∃ (a : Option Addr) (c : Nat), e = .returned (.slice a P.length c) ∧ RowsAt w' a P.length c 2 (pairsCells P) ∧ (∀ g o, a = some ⟨g, o, none⟩ → w.heap.size ≤ g) ∧ Below w.heap.size w w'
theorem info_pair : (Try.prog.info? 47).map (fun i => (i.zero, i.size, i.bytes)) = some (some (.agg #[.string ⟨#[]⟩, .string ⟨#[]⟩]), 2, 32) := by kernel_rfl
theorem str_eq (s : Txt) : (ByteArray.mk s.toArray == ByteArray.mk #[]) = decide (s = []) := by
  cases s <;> rfl
set_option maxHeartbeats 4000000 in
theorem pairs_any (w : World) (b : Nat) (M : List KV) (lo hi : Txt) (h : StoreAt w b M) (hM : M.length ≤ 1000000) :
    Calls Try.prog 34 #[.map (some b), .string ⟨lo.toArray⟩, .string ⟨hi.toArray⟩] w (PairsEnd (sel M lo hi) w) := by
  have hb1 := (Below.refl w.heap.size w).alloc (Nat.le_refl _) (.cells #[.map (some b)] 72)
  have hS := h.on hb1
  have HSort := Lib.hid (sortedS_any w.heap.size b M _ (by simp) (by simp) hS hM)
  have HK := Lib.hid (keysS_any (some b) w)
  have HH := Lib.hid h
  clear hS h
  go_enter Try.func34, Try.ntmps34
  go_wp2_with fail
  refine HK.out.mono ?_
  rintro e w1 ⟨rfl, rfl⟩
  go_wp2_with fail
  refine HSort.out.mono ?_
  rintro e w1 ⟨a, c, rfl, hrow, hold, hb2⟩
  have HB := Lib.hid (hb1.trans (hb2.mono (by simp)))
  clear hb1 hb2
  go_wp2_with fail
  go_loopw [7, 9, 14] (fun s7 _ s14 wr => ∃ (j : Nat), j ≤ M.length ∧ s14 = .int .i64 j ∧ wr.ownsRow w1.heap.size 47 2 s7 (sel (M.take j) lo hi).length (pairsCells (sel (M.take j) lo hi)) ∧ Below w1.heap.size w1 wr) (fun _ _ s14 _ => M.length - (intOf s14).toNat)
  case atStart => exact ⟨0, by omega, rfl, ⟨rfl, .inl ⟨rfl, rfl⟩⟩, Below.refl _ _⟩
  case round =>
    obtain ⟨j, hj, rfl, hown, hb3⟩ := hrel
    by_cases hlt : j < M.length
    · have hjl : (j : Int) < (M.length : Int) := by omega
      obtain ⟨p, hp⟩ : ∃ p, M[j]? = some p := ⟨_, List.getElem?_eq_getElem hlt⟩
      obtain ⟨g, o, rfl, hg, hc⟩ := (hrow.on hb3).at_ (by omega)
      have c0 := hc j (.string ⟨p.1.toArray⟩) (by rw [List.getElem?_map, hp]; rfl)
      clear hc
      have HRow := Lib.hid hrow
      have HOld := Lib.hid hold
      have HP := Lib.hid hp
      have HOwn := Lib.hid hown
      clear hrow hold hp hown
      go_upto_region 5 with fail
      go_cut [29] (fun s29 wx => s29 = .bool (inside lo hi p.1) ∧ wr = wx)
      case first =>
        by_cases h1 : p.1 < lo
        · have f1 : Op.bytesLess p.1 lo = true := by rw [Go.Proofs.bytesLess_eq]; exact decide_eq_true h1
          have hin : inside lo hi p.1 = false := by unfold inside; rw [decide_eq_false (fun hh => absurd h1 (List.not_lt.2 hh))]; rfl
          have HIn := Lib.hid hin
          clear hin h1
          go_wp2_with fail
          go_meet
          exact ⟨by rw [HIn.out], rfl⟩
        · have f1 : Op.bytesLess p.1 lo = false := by rw [Go.Proofs.bytesLess_eq]; exact decide_eq_false h1
          have hle : decide (lo ≤ p.1) = true := decide_eq_true (List.not_lt.1 h1)
          cases hi with
          | nil =>
            have HIn := Lib.hid (show inside lo [] p.1 = true by unfold inside; rw [hle]; rfl)
            clear hle h1
            go_wp2_with fail
            go_meet
            exact ⟨by rw [HIn.out], rfl⟩
          | cons x xs =>
            have f2 : (({ data := (x :: xs).toArray } : ByteArray) == { data := #[] }) = false := rfl
            by_cases h2 : p.1 < x :: xs
            · have f3 : Op.bytesLess p.1 (x :: xs) = true := by rw [Go.Proofs.bytesLess_eq]; exact decide_eq_true h2
              have HIn := Lib.hid (show inside lo (x :: xs) p.1 = true by unfold inside; rw [hle, decide_eq_true h2]; rfl)
              clear hle h1 h2
              go_wp2_with fail
              go_meet
              exact ⟨by rw [HIn.out], rfl⟩
            · have f3 : Op.bytesLess p.1 (x :: xs) = false := by rw [Go.Proofs.bytesLess_eq]; exact decide_eq_false h2
              have HIn := Lib.hid (show inside lo (x :: xs) p.1 = false by unfold inside; rw [hle, decide_eq_false h2]; rfl)
              clear hle h1 h2
              go_wp2_with fail
              go_meet
              exact ⟨by rw [HIn.out], rfl⟩
      obtain ⟨rfl, rfl⟩ := hcut
      have htk : sel (M.take (j + 1)) lo hi = sel (M.take j) lo hi ++ (if inside lo hi p.1 then [p] else []) := by
        rw [List.take_add_one, HP.out]
        unfold sel
        rw [List.filter_append]
        congr 1
        show List.filter _ [p] = _
        rw [List.filter_cons]; rfl
      cases hin : inside lo hi p.1 with
      | false =>
        rw [hin] at htk
        have HT := Lib.hid htk
        clear htk hin
        go_wp2_with fail
        go_roundw
        case rel => exact ⟨j + 1, by omega, by go_num, by rw [HT.out]; simpa using HOwn.out, hb3⟩
        case measure => simp [intOf]; omega
      | true =>
        rw [hin] at htk
        have HT := Lib.hid htk
        clear htk hin
        have hlook := (HH.out.on (HB.out.trans (hb3.mono HB.out.size))).looks p.1 (HH.out.keys p (List.mem_of_getElem? HP.out))
        rw [asc_look HH.out.asc (List.mem_of_getElem? HP.out)] at hlook
        rw [show str ((some p.2).getD []) = .string ⟨p.2.toArray⟩ from rfl] at hlook
        have hbn := (Below.refl wr.heap.size wr).alloc (Nat.le_refl _) (.cells #[.string ⟨p.1.toArray⟩, .string ⟨p.2.toArray⟩] 47)
        obtain ⟨v', w', hrun, hown', hmod, hblk⟩ := own_append 33 47 33 _ 2 32 Try.underlying33 info_pair rfl (by decide) (by decide) (HOwn.out.alloc (.cells #[.string ⟨p.1.toArray⟩, .string ⟨p.2.toArray⟩] 47))
          (by have := List.length_filter_le (fun p => inside lo hi p.1) (M.take j); unfold sel; rw [List.length_take] at this; omega) (by have := hb3.size; simp; omega) ⟨wr.heap.size, 0, none⟩ 1 1 (pairCells p) (by omega) (by omega) rfl
          (fun i u hi => by rw [addr_add', Nat.zero_add, World.cell?_alloc_new]; simpa [pairCells] using hi)
          (by intro u hu; simp only [pairCells, List.mem_cons, List.not_mem_nil, or_false] at hu; rcases hu with rfl | rfl <;> rfl)
        have HOwn' := Lib.hid hown'
        have HM := Lib.hid (show Below w1.heap.size w1 w' from by
          refine hb3.trans (((Mod.of_below hbn).trans hmod).below (fun x hx => ?_) hb3.size)
          exact (HOwn.out.lt x (by simpa using hx)).1)
        clear hown' hmod hblk hbn
        go_wp2_with (at_builtin; (with_reducible refine wpList_append_run rfl _ _ _ rfl _ _ _ _ ?_ ?_ hrun ?_); rfl; rfl)
        go_roundw
        case rel => exact ⟨j + 1, by omega, by go_num, by rw [HT.out, List.length_append, pairs_append]; simpa [pairsCells] using HOwn'.out, HM.out⟩
        case measure => simp [intOf]; omega
    · have hge : ¬ (j : Int) < (M.length : Int) := by omega
      have hjj : j = M.length := by omega
      subst hjj
      rw [List.take_of_length_le (Nat.le_refl _)] at hown
      obtain ⟨a7, c7, rfl⟩ := own_slice hown
      obtain ⟨h1, h2⟩ := own_rows hown
      have HE := Lib.hid (show PairsEnd (sel M lo hi) w (.returned (.slice a7 (sel M lo hi).length c7)) wr from ⟨a7, c7, rfl, h1, fun g o e => Nat.le_trans HB.out.size (h2 g o e), HB.out.trans (hb3.mono HB.out.size)⟩)
      clear hown h1 h2 hrow hold
      go_wp2_with fail
      go_ret
      exact HE.out
end Go.Proofs.Ytffianjbljgnaaa

/-! ### EntsA -/
namespace Go.Proofs.Ytffianjbljgnaaa
set_option linter.unusedVariables false
set_option linter.unusedSimpArgs false
open Go.RowKit

def recsCells (l : List Rec) : List Value := l.flatMap recCells
theorem recs_length (l : List Rec) : (recsCells l).length = l.length * 4 := by
  induction l with
  | nil => rfl
  | cons e t ih => show (recCells e ++ recsCells t).length = _; rw [List.length_append, ih, List.length_cons]; show 4 + _ = _; omega
theorem recs_get (l : List Rec) (i : Nat) (r : Rec) (h : l[i]? = some r) : (recsCells l)[i * 4]? = some (.string ⟨r.key.toArray⟩) ∧ (recsCells l)[i * 4 + 1]? = some (.int .u64 (r.lsn : Nat)) ∧ (recsCells l)[i * 4 + 2]? = some (.bool r.del) ∧ (recsCells l)[i * 4 + 3]? = some (.string ⟨r.val.toArray⟩) := by
  induction l generalizing i with
  | nil => simp at h
  | cons q qs ih =>
    cases i with
    | zero => cases h; exact ⟨rfl, rfl, rfl, rfl⟩
    | succ i =>
      have := ih i (by simpa using h)
      have e0 : ∀ j, (recsCells (q :: qs))[j + 4]? = (recsCells qs)[j]? := fun j => by
        show (recCells q ++ recsCells qs)[j + 4]? = _
        rw [List.getElem?_append_right (by show 4 ≤ _; omega)]; show (recsCells qs)[j + 4 - 4]? = _; rw [Nat.add_sub_cancel]
      refine ⟨?_, ?_, ?_, ?_⟩
      · rw [show (i + 1) * 4 = i * 4 + 4 by omega, e0]; exact this.1
      · rw [show (i + 1) * 4 + 1 = i * 4 + 1 + 4 by omega, e0]; exact this.2.1
      · rw [show (i + 1) * 4 + 2 = i * 4 + 2 + 4 by omega, e0]; exact this.2.2.1
      · rw [show (i + 1) * 4 + 3 = i * 4 + 3 + 4 by omega, e0]; exact this.2.2.2
structure Entry where
  ts : Nat
  first : Nat
  ops : List Rec
  deriving DecidableEq
/-- An entry as it lies: its numbers, and where its operations are. -/
structure Ent where
  ts : Nat
  first : Nat
  a : Option Addr
  n : Nat
  c : Nat
  deriving Inhabited
def entCells (e : Ent) : List Value := [.int .u64 (e.ts : Nat), .int .u64 (e.first : Nat), .slice e.a e.n e.c]
def entsCells (l : List Ent) : List Value := l.flatMap entCells
theorem ents_length (l : List Ent) : (entsCells l).length = l.length * 3 := by
  induction l with
  | nil => rfl
  | cons e t ih => show (entCells e ++ entsCells t).length = _; rw [List.length_append, ih, List.length_cons]; show 3 + _ = _; omega
theorem ents_append (l m : List Ent) : entsCells (l ++ m) = entsCells l ++ entsCells m := by unfold entsCells; rw [List.flatMap_append]
theorem ents_get (l : List Ent) (i : Nat) (r : Ent) (h : l[i]? = some r) : (entsCells l)[i * 3]? = some (.int .u64 (r.ts : Nat)) ∧ (entsCells l)[i * 3 + 1]? = some (.int .u64 (r.first : Nat)) ∧ (entsCells l)[i * 3 + 2]? = some (.slice r.a r.n r.c) := by
  induction l generalizing i with
  | nil => simp at h
  | cons q qs ih =>
    cases i with
    | zero => cases h; exact ⟨rfl, rfl, rfl⟩
    | succ i =>
      have := ih i (by simpa using h)
      have e0 : ∀ j, (entsCells (q :: qs))[j + 3]? = (entsCells qs)[j]? := fun j => by
        show (entCells q ++ entsCells qs)[j + 3]? = _
        rw [List.getElem?_append_right (by show 3 ≤ _; omega)]; show (entsCells qs)[j + 3 - 3]? = _; rw [Nat.add_sub_cancel]
      refine ⟨?_, ?_, ?_⟩
      · rw [show (i + 1) * 3 = i * 3 + 3 by omega, e0]; exact this.1
      · rw [show (i + 1) * 3 + 1 = i * 3 + 1 + 3 by omega, e0]; exact this.2.1
      · rw [show (i + 1) * 3 + 2 = i * 3 + 2 + 3 by omega, e0]; exact this.2.2
/-- What a record of an entry is asked to be: its key's length is one that a machine has. -/
def Rec.ok (r : Rec) : Prop := r.key.length ≤ maxLen ∧ r.val.length ≤ maxLen ∧ r.lsn < 18446744073709551616
structure Entry.ok (x : Entry) : Prop where
  ts : x.ts < 18446744073709551616
  first : x.first < 18446744073709551616
  ops : ∀ r ∈ x.ops, r.ok
/-- An entry that lies so. -/
structure EntIs (w : World) (e : Ent) (x : Entry) : Prop where
  ts : e.ts = x.ts
  first : e.first = x.first
  n : e.n = x.ops.length
  rows : RowsAt w e.a e.n e.c 4 (recsCells x.ops)
  ok : x.ok
theorem EntIs.on {w w' : World} {e : Ent} {x : Entry} (h : EntIs w e x) (hb : Below w.heap.size w w') : EntIs w' e x := ⟨h.ts, h.first, h.n, h.rows.on hb, h.ok⟩
theorem EntIs.mod {S : List Nat} {w w' : World} {e : Ent} {x : Entry} (h : EntIs w e x) (hm : Mod S w w') (hS : Off S e.a) : EntIs w' e x := ⟨h.ts, h.first, h.n, h.rows.mod hm hS, h.ok⟩
/-- A slice of entries. -/
structure EntsAt (w : World) (a : Option Addr) (n c : Nat) (z : List (Ent × Entry)) : Prop where
  len : z.length = n
  rows : RowsAt w a n c 3 (entsCells (z.map (·.1)))
  each : ∀ q ∈ z, EntIs w q.1 q.2
theorem EntsAt.on {w w' : World} {a : Option Addr} {n c : Nat} {z : List (Ent × Entry)} (h : EntsAt w a n c z) (hb : Below w.heap.size w w') : EntsAt w' a n c z := ⟨h.len, h.rows.on hb, fun q hq => (h.each q hq).on hb⟩
theorem info_entry : (Try.prog.info? 40).map (fun i => (i.zero, i.size, i.bytes)) = some (some (.agg #[.int .u64 0, .int .u64 0, .slice none 0 0]), 3, 40) := by kernel_rfl
abbrev EZ := Ent × Entry
theorem ops_asc {M : List KV} (h : Asc M) (l : List Rec) : Asc (l.foldl app M) := by
  induction l generalizing M with
  | nil => exact h
  | cons r t ih => exact ih (app_asc h r)
theorem ops_length {M : List KV} (h : Asc M) (l : List Rec) : (l.foldl app M).length ≤ M.length + l.length := by
  induction l generalizing M with
  | nil => exact Nat.le_refl _
  | cons r t ih =>
    have := ih (app_asc h r)
    have := app_length h r
    rw [List.foldl_cons, List.length_cons]
    omega
theorem sel_all (M : List KV) : sel M [] [] = M := by
  unfold sel
  refine List.filter_eq_self.2 fun p _ => ?_
  unfold inside
  simp
/-- An entry of a slice that reads. -/
theorem EntsAt.row {w : World} {a : Option Addr} {n c : Nat} {z : List EZ} (h : EntsAt w a n c z) {i : Nat} (hi : i < n) :
    ∃ (q : EZ) (g o : Nat), z[i]? = some q ∧ q ∈ z ∧ a = some ⟨g, o, none⟩ ∧ g < w.heap.size ∧ w.cell? ⟨g, o + i * 3, none⟩ = some (.int .u64 (q.1.ts : Nat)) ∧ w.cell? ⟨g, o + i * 3 + 1, none⟩ = some (.int .u64 (q.1.first : Nat)) ∧ w.cell? ⟨g, o + i * 3 + 2, none⟩ = some (.slice q.1.a q.1.n q.1.c) := by
  have hl : i < z.length := by rw [h.len]; exact hi
  obtain ⟨g, o, e, hg, hc⟩ := h.rows.at_ (by omega)
  obtain ⟨h0, h1, h2⟩ := ents_get (z.map (·.1)) i z[i].1 (by rw [List.getElem?_map, List.getElem?_eq_getElem hl]; rfl)
  have c0 := hc _ _ h0
  have c1 := hc _ _ h1
  have c2 := hc _ _ h2
  rw [← Nat.add_assoc] at c1 c2
  exact ⟨z[i], g, o, List.getElem?_eq_getElem hl, List.getElem_mem hl, e, hg, c0, c1, c2⟩
theorem recs_row {w : World} {a : Option Addr} {n c : Nat} {l : List Rec} (h : RowsAt w a n c 4 (recsCells l)) (hl : n = l.length) {i : Nat} (hi : i < n) :
    ∃ (r : Rec) (g o : Nat), l[i]? = some r ∧ r ∈ l ∧ a = some ⟨g, o, none⟩ ∧ g < w.heap.size ∧ w.cell? ⟨g, o + i * 4, none⟩ = some (.string ⟨r.key.toArray⟩) ∧ w.cell? ⟨g, o + i * 4 + 1, none⟩ = some (.int .u64 (r.lsn : Nat)) ∧ w.cell? ⟨g, o + i * 4 + 2, none⟩ = some (.bool r.del) ∧ w.cell? ⟨g, o + i * 4 + 3, none⟩ = some (.string ⟨r.val.toArray⟩) := by
  obtain ⟨g, o, e, hg, hc⟩ := h.at_ (by omega)
  have hx : i < l.length := by omega
  obtain ⟨h0, h1, h2, h3⟩ := recs_get l i l[i] (List.getElem?_eq_getElem hx)
  have c0 := hc _ _ h0
  have c1 := hc _ _ h1
  have c2 := hc _ _ h2
  have c3 := hc _ _ h3
  rw [← Nat.add_assoc] at c1 c2 c3
  exact ⟨l[i], g, o, List.getElem?_eq_getElem hx, List.getElem_mem hx, e, hg, c0, c1, c2, c3⟩
theorem EntsAt.mod {S : List Nat} {w w' : World} {a : Option Addr} {n c : Nat} {z : List EZ} (h : EntsAt w a n c z) (hm : Mod S w w') (hS : Off S a) (hE : ∀ q ∈ z, Off S q.1.a) : EntsAt w' a n c z := ⟨h.len, h.rows.mod hm hS, fun q hq => (h.each q hq).mod hm (hE q hq)⟩
end Go.Proofs.Ytffianjbljgnaaa
