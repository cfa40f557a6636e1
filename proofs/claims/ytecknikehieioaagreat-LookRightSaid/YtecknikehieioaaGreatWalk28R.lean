/-
  Texts folded into one: Few, Walk28R.
-/
import Derived.Test.YtecknikehieioaaGreatLookY
import Derived.Test.YtecknikehieioaaGreatLookH

/-! ### Few -/
namespace Go.Proofs.YtecknikehieioaaGreat
set_option linter.unusedVariables false
set_option linter.unusedSimpArgs false
open Go.RowKit Go.Maps

/-- An append of nothing. -/
theorem append_nought (t e ty : TypeId) (ht : Tryz.prog.underlying t = some (.slice e)) (hinf : ∃ i, Tryz.prog.info? e = some i) (w : World) (p : Option Addr) (n cap : Nat) (x : Option Addr) (c : Nat) (hn : n ≤ cap) (hp : p = none → n = 0 ∧ cap = 0) :
    (Builtin.append_ #[t, t] ty #[.slice p n cap, .slice x 0 c]).run Tryz.prog w = .ok (.slice p n cap) w := by
  obtain ⟨i, hi⟩ := hinf
  cases p with
  | none =>
    obtain ⟨rfl, rfl⟩ := hp rfl
    cases x <;> simp [Builtin.append_, run_underlying ht, sizeOf, typeInfo, hi, Builtin.lenOf, Builtin.firstCells, storeCells, loadCells, loadCellsFrom]
  | some p =>
    cases x <;> simp [Builtin.append_, run_underlying ht, sizeOf, typeInfo, hi, Builtin.lenOf, Builtin.firstCells, storeCells, loadCells, loadCellsFrom, hn]
/-- An append of whatever many, of none too. -/
theorem ents_more {w : World} {B : Nat} {v : Value} {n : Nat} {cells : List Value} (h : w.ownsRow B 43 3 v n cells) (hl : n ≤ 1000000) (hB : B ≤ w.heap.size)
    (a : Addr) (m c : Nat) (news : List Value) (hm : m ≤ 1000000) (hnl : news.length = m * 3) (hnews : 0 < m → ∀ j u, news[j]? = some u → w.cell? (a.add j) = some u) (hone : ∀ u ∈ news, u.oneCell' = true) :
    ∃ v' w', (Builtin.append_ #[23, 23] 23 #[v, .slice (some a) m c]).run Tryz.prog w = .ok v' w' ∧ w'.ownsRow B 43 3 v' (n + m) (cells ++ news) ∧ Mod v.ownBlock.toList w w' ∧ ∀ x, v'.ownBlock = some x → v.ownBlock = some x ∨ w.heap.size ≤ x := by
  by_cases h0 : m = 0
  · subst h0
    have : news = [] := List.eq_nil_of_length_eq_zero (by omega)
    subst this
    have hc : ∃ p k, v = .slice p n k ∧ n ≤ k ∧ (p = none → n = 0 ∧ k = 0) := by
      rcases h.2 with ⟨rfl, rfl⟩ | ⟨g, cap, cur, rfl, hg, hh, hcp, hmx, hcs, htk⟩
      · exact ⟨none, 0, rfl, Nat.le_refl _, fun _ => ⟨rfl, rfl⟩⟩
      · exact ⟨_, _, rfl, hcp, fun e => by cases e⟩
    obtain ⟨p, k, rfl, hk, hp⟩ := hc
    refine ⟨_, w, append_nought _ _ _ Tryz.underlying23 (by obtain ⟨i, hi, _⟩ := info_parts info_entry; exact ⟨i, hi⟩) w p n k (some a) c hk hp, ?_, Mod.refl _ _, fun x hx => .inl hx⟩
    rw [List.append_nil]
    exact h
  · exact own_append 23 43 23 _ 3 40 Tryz.underlying23 info_entry rfl (by decide) (by decide) h hl hB a m c news hm (by omega) hnl (hnews (by omega)) hone
/-- All entries but the k-th, copied by two appends. -/
theorem fewer_any {w : World} {B g c nl : Nat} {E : List Ent} (h : w.ownsRow B 43 3 (.slice (some ⟨g, 0, none⟩) nl c) nl (entsCells E)) (hn : E.length = nl) (hN : nl ≤ 1000) (k : Nat) (hk : k < nl) :
    nl ≤ c ∧ ∃ (a3 : Option Addr) (c3 : Nat) (w1 : World), (Builtin.append_ #[23, 23] 23 #[.slice none 0 0, .slice (some ⟨g, 0, none⟩) k c]).run Tryz.prog w = .ok (.slice a3 k c3) w1 ∧
      ∀ o2, (c = k + 1 ∨ o2 = (k + 1) * 3) → ∃ (a' : Option Addr) (n' c' : Nat) (w2 : World), (Builtin.append_ #[23, 23] 23 #[.slice a3 k c3, .slice (some ⟨g, o2, none⟩) (nl - (k + 1)) (c - (k + 1))]).run Tryz.prog w1 = .ok (.slice a' n' c') w2 ∧ Below w.heap.size w w2 ∧ RowsAt w2 a' n' c' 3 (entsCells (E.take k ++ E.drop (k + 1))) ∧ n' = (E.take k ++ E.drop (k + 1)).length := by
  obtain ⟨g', c1, rest, e9, hgB, hcap, hmx, hB⟩ := owns_blk h (by omega)
  simp only [Value.slice.injEq, Option.some.injEq, Addr.mk.injEq, and_true, true_and] at e9
  obtain ⟨rfl, rfl⟩ := e9
  refine ⟨hcap, ?_⟩
  have l0 : (E.take k).length = k := by rw [List.length_take]; omega
  have e1 : entsCells E = entsCells (E.take k) ++ entsCells (E.drop k) := by rw [← ents_append, List.take_append_drop]
  have e2 : entsCells E = entsCells (E.take (k + 1)) ++ entsCells (E.drop (k + 1)) := by rw [← ents_append, List.take_append_drop]
  have l1 : (entsCells (E.take k)).length = k * 3 := by rw [ents_length, l0]
  have l2 : (entsCells (E.take (k + 1))).length = (k + 1) * 3 := by rw [ents_length, List.length_take]; congr 1; omega
  have l3 : (entsCells (E.drop (k + 1))).length = (nl - (k + 1)) * 3 := by rw [ents_length, List.length_drop, hn]
  have hcell : ∀ j u, (entsCells E)[j]? = some u → w.cell? ⟨g, j, none⟩ = some u := fun j u hj => by
    rw [hB.cell, List.getElem?_append_left (List.getElem?_eq_some_iff.1 hj).1]; exact hj
  have c1 : ∀ j u, (entsCells (E.take k))[j]? = some u → w.cell? ⟨g, j, none⟩ = some u := fun j u hj => hcell j u (by rw [e1, List.getElem?_append_left (List.getElem?_eq_some_iff.1 hj).1]; exact hj)
  have c2 : ∀ j u, (entsCells (E.drop (k + 1)))[j]? = some u → w.cell? ⟨g, (k + 1) * 3 + j, none⟩ = some u := fun j u hj => hcell _ u (by rw [e2, List.getElem?_append_right (by omega), l2, Nat.add_sub_cancel_left]; exact hj)
  obtain ⟨v1, w1, hrun1, hown1, hm1, hf1⟩ := ents_more (World.ownsRow_nil w w.heap.size 43 3) (by omega) (Nat.le_refl _) ⟨g, 0, none⟩ k c (entsCells (E.take k)) (by omega) l1 (fun _ j u hj => by rw [addr_add', Nat.zero_add]; exact c1 j u hj) (ents_one _)
  have hb1 : Below w.heap.size w w1 := hm1.below (fun y hy => by simp [Value.ownBlock] at hy) (Nat.le_refl _)
  rw [Nat.zero_add] at hown1
  obtain ⟨a3, c3, rfl⟩ := own_slice hown1
  refine ⟨a3, c3, w1, hrun1, fun o2 ho2 => ?_⟩
  have hgl : g < w.heap.size := hB.lt
  obtain ⟨v2, w2, hrun2, hown2, hm2, hf2⟩ := ents_more hown1 (by omega) hb1.size ⟨g, o2, none⟩ (nl - (k + 1)) (c - (k + 1)) (entsCells (E.drop (k + 1))) (by omega) l3 (fun h0 j u hj => by
    obtain rfl : o2 = (k + 1) * 3 := ho2.resolve_left (by omega)
    rw [addr_add', (hb1.cell (p := ⟨g, (k + 1) * 3 + j, none⟩) hgl)]; exact c2 j u hj) (ents_one _)
  have hb2 : Below w.heap.size w w2 := hb1.trans (hm2.below (fun y hy => by
    rcases hf1 y (by simpa using hy) with h | h
    · simp [Value.ownBlock] at h
    · exact h) hb1.size)
  have e3 : k + (nl - (k + 1)) = (E.take k ++ E.drop (k + 1)).length := by rw [List.length_append, l0, List.length_drop, hn]
  rw [List.nil_append, ← ents_append, e3] at hown2
  obtain ⟨a', c', rfl⟩ := own_slice hown2
  exact ⟨_, _, _, w2, hrun2, hb2, (own_rows hown2).1, rfl⟩
end Go.Proofs.YtecknikehieioaaGreat

/-! ### Walk28R -/
namespace Go.Proofs.YtecknikehieioaaGreat
set_option linter.unusedVariables false
set_option linter.unusedSimpArgs false
open Go.RowKit Go.Maps

theorem hw_ent1 {l : List Wr} {Z : List MZ} {L : List Entry} (h : HW l Z L) (e : Entry) (he : e ∈ L) : e.ops.length = 1 := by
  obtain ⟨n, hn, hne⟩ := List.getElem_of_mem he
  obtain ⟨i, x, _, _, rfl⟩ := h.ent n e (by rw [← hne]; exact List.getElem?_eq_getElem hn)
  rfl
theorem hw_ok {l : List Wr} {Z : List MZ} {L : List Entry} (h : HW l Z L) (hp : ∀ q ∈ Z, PlainM q) : MadeOk Z :=
  ⟨fun q hq => by rw [(hp q hq).pa.2.1]; omega, fun q hq => by
    obtain ⟨i, x, hi, hg⟩ := (h.mem q).1 hq
    simp only [grpH, List.mem_cons, List.not_mem_nil, or_false] at hg
    rcases hg with rfl | rfl | rfl
    · show (-9223372036854775808 : Int) ≤ 0 ∧ (0 : Int) ≤ 9223372036854775807; omega
    · show (-9223372036854775808 : Int) ≤ (if x.del then 4 else 3) ∧ (if x.del then 4 else 3 : Int) ≤ 9223372036854775807
      split <;> omega
    · show (-9223372036854775808 : Int) ≤ 5 ∧ (5 : Int) ≤ 9223372036854775807; omega⟩
theorem hw_serial {w : World} {l : List Wr} {Z : List MZ} {L : List Entry} (h : HW l Z L) (hl : l.length ≤ 40) (hp : ∀ q ∈ Z, PlainM q) {am : Option Addr} {nm cm : Nat} (hm : MadeAt w am nm cm Z) {a : Option Addr} {n c : Nat} {ez : List EZ} (he : EntsAt w a n c ez) (hn : n ≤ 900) (hsub : ∀ q ∈ ez, q.2 ∈ L) :
    Calls Tryz.prog 9 #[.slice am nm cm, .slice a n c] w fun e w' => e = .returned (.int .i64 (serialL Z ez [] (commL (ez.map (·.1.ts)) Z))) ∧ Below w.heap.size w w' := by
  have h1 := h.len.1
  have h2 := hm.len
  refine lserial_any w am nm cm a n c _ (serial_any w a n c ez he hn (fun q hq => by rw [hw_ent1 h q.2 (hsub q hq)]; omega) am nm cm Z hm (by omega) (hw_ok h hp) ?_ fun ts => ?_)
  · have := commL_le (ez.map (·.1.ts)) Z
    unfold BoundU; omega
  · rw [inds_length]
    have := h.few ts
    unfold BoundC; omega
theorem hw_comm {w : World} {l : List Wr} {Z : List MZ} {L : List Entry} (h : HW l Z L) {a : Option Addr} {n c : Nat} {ez : List EZ} (he : EntsAt w a n c ez) (hsub : ∀ q ∈ ez, q.2 ∈ L) (ts : Nat) : ts ∈ commL (ez.map (·.1.ts)) Z ↔ ∃ i x, l[i]? = some x ∧ x.lost = false ∧ ts = i + 1 :=
  h.comm _ (fun ts hts => by
    obtain ⟨q, hq, rfl⟩ := List.mem_map.1 hts
    exact entB_mem.2 ⟨q.2, hsub q hq, (he.each q hq).ts.symm⟩) ts
set_option maxRecDepth 100000 in
set_option maxHeartbeats 16000000 in
theorem right_law (w : World) (a : Option Addr) (n c : Nat) (l : List Wr) (h : RowsAt w a n c 4 (wrsCells l)) (hl : n = l.length) (hb : ∀ x ∈ l, x.key < 256 ∧ x.val < 256) (out : Nat) (ho : out < 256) :
    Calls Tryz.prog 4 #[.slice a n c, .int .u8 (out : Nat)] w fun e w' => e = .returned (.bool true) ∧ Below w.heap.size w w' := by
  have HWk := Lib.hid (works28_any w)
  have HH := Lib.hid (fun w' (hb' : Below w.heap.size w w') => history_any w' a n c l (h.on hb') hl hb)
  clear h hl hb
  go_enter Tryz.func4, Tryz.ntmps4
  go_wp2_with fail
  refine HWk.out.mono ?_
  rintro e w1 ⟨rfl, hb1⟩
  have HB1 := Lib.hid hb1
  have HHi := Lib.hid (HH.out w1 hb1)
  clear hb1 HH HWk
  go_wp2_with fail
  refine HHi.out.mono ?_
  rintro e w2 ⟨a1, n1, c1, a2, n2, c2, Z, ez, rfl, hH, hn1, hn2, hW, hb2⟩
  have HB2 := Lib.hid (HB1.out.trans (hb2.mono HB1.out.size))
  have hl40 : (l.take 40).length ≤ 40 := by rw [List.length_take]; omega
  have hlen := hW.len
  obtain ⟨l4, hl4⟩ : ∃ x, l.take 40 = x := ⟨_, rfl⟩
  rw [hl4] at hW hlen hl40
  obtain ⟨LL, hLL⟩ : ∃ x, ez.map (·.2) = x := ⟨_, rfl⟩
  have hLl : LL.length = n2 := by rw [← hLL, List.length_map, hn2]
  rw [hLL] at hW hlen
  have hM2 : MadeAt w2 a1 n1 c1 Z := ⟨hn1.symm, by subst hn1; exact (own_rows hH.made).1, fun q hq => (hH.plain q hq).is w2⟩
  have hE2 : EntsAt w2 a2 n2 c2 ez := ⟨hn2.symm, by subst hn2; exact (own_rows hH.ents).1, hH.eachZ⟩
  have hO2 := hH.ents
  rw [← hn2] at hO2
  have hsub : ∀ q ∈ ez, q.2 ∈ LL := fun q hq => by rw [← hLL]; exact List.mem_map_of_mem hq
  have hn12 : n1 ≤ 120 := by rw [hn1]; omega
  have hn22 : n2 ≤ 40 := by omega
  have hops : ∀ q ∈ ez, q.2.ops.length ≤ 1000 := fun q hq => by rw [hw_ent1 hW q.2 (hsub q hq)]; omega
  have htsz : ∀ q ∈ ez, q.1.ts = q.2.ts := fun q hq => (hH.eachZ q hq).ts
  have HS1 := Lib.hid (show Calls Tryz.prog 9 #[.slice a1 n1 c1, .slice a2 n2 c2] w2 fun e w' => e = .returned (.int .i64 (-1)) ∧ Below w2.heap.size w2 w' from by
    have := hw_serial hW hl40 hH.plain hM2 hE2 (by omega) hsub
    rw [hW.serial ez htsz hLL _ (fun ts hts => (hw_comm hW hE2 hsub ts).1 hts)] at this
    exact this)
  have HM := Lib.hid hM2
  have HE := Lib.hid hE2
  have HO := Lib.hid hO2
  have HP := Lib.hid hH.plain
  have HWW := Lib.hid hW
  have HSub := Lib.hid hsub
  have HOps := Lib.hid hops
  have HTs := Lib.hid htsz
  have HLL := Lib.hid hLL
  have HLl := Lib.hid hLl
  have HN2 := Lib.hid hn2
  have HL4 := Lib.hid hl40
  clear hH hn1 hn2 hW hb2 hlen hl4 hLL hM2 hE2 hO2 hsub hops htsz hLl hl40 HB1 HHi
  have hov : orderL Z = -1 := HWW.out.order
  have hkv : keptL Z LL = -1 := HWW.out.kept (by have := HL4.out; omega)
  have HOv := Lib.hid hov
  have HKv := Lib.hid hkv
  clear hov hkv
  go_wp2_with fail
  refine HS1.out.mono ?_
  rintro e w3 ⟨rfl, hb3⟩
  have HB3 := Lib.hid hb3
  have HOr := Lib.hid (show Calls Tryz.prog 11 #[.slice a1 n1 c1] w3 fun e w' => e = .returned (.int .i64 (-1)) ∧ Below w3.heap.size w3 w' from
    lorder_any w3 a1 n1 c1 (-1) (by have := order_any w3 a1 n1 c1 Z (HM.out.on hb3) (by omega); rw [HOv.out] at this; exact this))
  clear hb3 HS1
  go_wp2_with fail
  refine HOr.out.mono ?_
  rintro e w4 ⟨rfl, hb4⟩
  have HB4 := Lib.hid (HB3.out.trans (hb4.mono HB3.out.size))
  have HKe := Lib.hid (keptK w4 a1 n1 c1 Z (HM.out.on HB4.out) (by omega) a2 n2 c2 ez (HE.out.on HB4.out) (by omega) (List.all_eq_true.2 fun q hq => decide_eq_true (HOps.out q hq)) (-1) (by rw [HLL.out]; exact HKv.out))
  clear hb4 HOr HB3
  go_wp2_with fail
  refine HKe.out.mono ?_
  rintro e w5 ⟨rfl, hb5⟩
  have HB5 := Lib.hid (HB4.out.trans (hb5.mono HB4.out.size))
  have HT5 := Lib.hid (HB2.out.trans (HB5.out.mono HB2.out.size))
  have HB20 := HB2
  clear hb5 HKe HB4
  by_cases hn0 : n2 = 0
  · have hz : ((n2 : Int) == 0) = true := by simp [hn0]
    clear hn0
    go_wp2_with fail
    go_ret
    exact ⟨by try rfl, HT5.out⟩
  · have hz : ((n2 : Int) == 0) = false := by simp; omega
    obtain ⟨k, hk⟩ : ∃ k, out % n2 = k := ⟨_, rfl⟩
    have hkl : k < n2 := by rw [← hk]; exact Nat.mod_lt _ (by omega)
    have hrem : Int.tmod (out : Int) (n2 : Int) = (k : Int) := by rw [← Int.ofNat_tmod, hk]
    have hnz : ¬ ((n2 : Int) = 0) := by omega
    have hww : IntKind.i64.wrap (out : Int) = (out : Int) := IntWalk.i64_in _ (by omega)
    have hwk : IntKind.i64.wrap (k : Int) = (k : Int) := IntWalk.i64_in _ (by omega)
    have hkli : (k : Int) < (n2 : Int) := by omega
    obtain ⟨q0, g, og, hq0, hq0m, e2, hgl, d0, _, _⟩ := HE.out.row hkl
    obtain ⟨gb, cap, rest, e9, hgb, hcap, _, hgblk⟩ := owns_blk HO.out (by omega)
    simp only [Value.slice.injEq, true_and] at e9
    obtain ⟨rfl, rfl⟩ := e9
    simp only [Option.some.injEq, Addr.mk.injEq, and_true] at e2
    obtain ⟨rfl, rfl⟩ := e2
    have hO5 : w5.ownsRow w1.heap.size 43 3 (.slice (some ⟨gb, 0, none⟩) n2 c2) n2 (entsCells (ez.map (·.1))) := ownsRow_mod HO.out (Mod.of_below HB5.out (S := [])) (by simp)
    obtain ⟨_, a3, c3, w6, hrun1, hall⟩ := fewer_any hO5 (by rw [List.length_map]; exact HN2.out.symm) (by omega) k hkl
    have HAll := Lib.hid hall
    have HT := Lib.hid (show LL[k]? = some q0.2 from by rw [← HLL.out, List.getElem?_map, hq0]; rfl)
    have HTq := Lib.hid (HTs.out q0 hq0m)
    have HD0 := Lib.hid (show ∀ w', Below w2.heap.size w2 w' → w'.cell? ⟨gb, k * 3, none⟩ = some (.int .u64 (q0.1.ts : Nat)) from fun w' hb => by
      have := (hb.cell (p := ⟨gb, 0 + k * 3, none⟩) hgl).trans d0
      rw [Nat.zero_add] at this
      exact this)
    have hkg : (k : Int) ≤ (c2 : Int) := by omega
    have hk1 : (k : Int) + 1 ≤ (n2 : Int) := by omega
    have hwk1 : IntKind.i64.wrap ((k : Int) + 1) = (k : Int) + 1 := IntWalk.i64_in _ (by omega)
    have hk0 : (0 : Int) ≤ (k : Int) := by omega
    have hk3 : (0 : Int) ≤ (k : Int) + 1 := by omega
    have hn9 : (n2 : Int) ≤ (c2 : Int) := by omega
    have j1 : (k : Int) ≤ (k : Int) + 1 := by omega
    have j2 : c2 = k + 1 → (n2 : Int) ≤ (k : Int) + 1 := by omega
    clear hk hn0 hq0 hq0m hgl d0 hgb hcap hgblk hO5 hall
    go_upto_region 11 with (at_builtin; (with_reducible refine wpList_append_run rfl _ _ _ rfl _ _ _ _ ?_ ?_ hrun1 ?_); rfl; rfl)
    clear hrun1
    have hrest : ∀ o2, (c2 = k + 1 ∨ o2 = (k + 1) * 3) → ∃ (a' : Option Addr) (n' c' : Nat) (w7 : World), (Builtin.append_ #[23, 23] 23 #[.slice a3 k c3, .slice (some ⟨gb, o2, none⟩) (n2 - (k + 1)) (c2 - (k + 1))]).run Tryz.prog w6 = .ok (.slice a' n' c') w7 ∧ ∃ (v : Nat) (v3 : Int) (qt : Nat), v < n1 ∧ 0 ≤ v3 ∧ Below w2.heap.size w2 w7 ∧
        (Calls Tryz.prog 13 #[.slice a1 n1 c1, .slice a' n' c'] w7 fun e w' => e = .returned (.int .i64 (v : Nat)) ∧ Below w7.heap.size w7 w') ∧
        (∀ w', Below w7.heap.size w7 w' → Calls Tryz.prog 9 #[.slice a1 n1 c1, .slice a' n' c'] w' fun e w'' => e = .returned (.int .i64 v3) ∧ Below w'.heap.size w' w'') ∧
        (∃ (g1 o1 : Nat), a1 = some ⟨g1, o1, none⟩ ∧ ∀ w', Below w2.heap.size w2 w' → w'.cell? ⟨g1, o1 + v * 16, none⟩ = some (.int .u64 (q0.1.ts : Nat)) ∧ w'.cell? ⟨g1, o1 + v * 16 + 2, none⟩ = some (.int .i64 5)) := by
      intro o2 ho2
      obtain ⟨a', n', c', w7, hrun, hb7, hrows, hn'⟩ := HAll.out o2 ho2
      have hb27 : Below w2.heap.size w2 w7 := HB5.out.trans (hb7.mono HB5.out.size)
      rw [← List.map_take, ← List.map_drop, ← List.map_append] at hrows hn'
      have hmem : ∀ q ∈ ez.take k ++ ez.drop (k + 1), q ∈ ez := fun q hq => (List.mem_append.1 hq).elim List.mem_of_mem_take List.mem_of_mem_drop
      have hE7 : EntsAt w7 a' n' c' (ez.take k ++ ez.drop (k + 1)) := ⟨by rw [hn', List.length_map], hrows, fun q hq => (HE.out.each q (hmem q hq)).on hb27⟩
      have hn7 : n' ≤ 40 := by rw [hn', List.length_map, List.length_append, List.length_take, List.length_drop]; have := HN2.out; omega
      have hLs : (ez.take k ++ ez.drop (k + 1)).map (·.2) = LL.take k ++ LL.drop (k + 1) := by rw [List.map_append, List.map_take, List.map_drop, HLL.out]
      obtain ⟨v, qv, hv, hZv, hqt, hqk⟩ := HWW.out.kept_fewer k q0.2 HT.out
      have hvn : v < n1 := by have := (List.getElem?_eq_some_iff.1 hZv).1; have := HM.out.len; omega
      obtain ⟨qq, g1, o1, hqq, _, ea1, hg1, hcells⟩ := HM.out.row hvn
      rw [hZv] at hqq
      cases hqq
      obtain ⟨t0, _, t2, _⟩ := hcells
      have hsub7 : ∀ q ∈ ez.take k ++ ez.drop (k + 1), q.2 ∈ LL := fun q hq => HSub.out q (hmem q hq)
      refine ⟨a', n', c', w7, hrun, v, _, q0.1.ts, hvn, HWW.out.serial_fewer k q0.2 HT.out (ez.take k ++ ez.drop (k + 1)) (fun q hq => HTs.out q (hmem q hq)) hLs (commL ((ez.take k ++ ez.drop (k + 1)).map (·.1.ts)) Z) (fun ts => hw_comm HWW.out hE7 hsub7 ts), hb27,
        keptK w7 a1 n1 c1 Z (HM.out.on hb27) (by omega) a' n' c' _ hE7 (by omega) (List.all_eq_true.2 fun q hq => decide_eq_true (HOps.out q (hmem q hq))) _ (by rw [hLs]; exact hv),
        fun w' hb' => hw_serial HWW.out HL4.out HP.out (HM.out.on (hb27.trans (hb'.mono hb27.size))) (hE7.on hb') (by omega) hsub7,
        g1, o1, ea1, fun w' hb' => ⟨?_, ?_⟩⟩
      · rw [hb'.cell (p := ⟨g1, o1 + v * 16, none⟩) hg1, t0, hqt, HTq.out]
      · rw [hb'.cell (p := ⟨g1, o1 + v * 16 + 2, none⟩) hg1, t2, hqk]
    have HRest := Lib.hid hrest
    clear hrest HAll HTq HTs HT HSub HOps HP HLL HL4 HO HN2 HLl
    by_cases hcp : c2 = k + 1
    · have j3 := j2 hcp
      obtain ⟨a', n', c', w7, hrun2, v, v3, qt, hvn, hv3, hb7, hkept, hser, g1, o1, rfl, hcl⟩ := HRest.out 0 (.inl hcp)
      rw [show c2 - (k + 1) = 0 by omega] at hrun2
      have HKe := Lib.hid hkept
      have HSe := Lib.hid hser
      have HC := Lib.hid hcl
      have HB7 := Lib.hid hb7
      have H3 := Lib.hid hv3
      have hvi : (v : Int) < (n1 : Int) := by omega
      have hv0 : (0 : Int) ≤ (v : Int) := by omega
      clear hkept hser hcl hb7 hv3 HRest
      go_upto_region 12 with (at_builtin; (with_reducible refine wpList_append_run rfl _ _ _ rfl _ _ _ _ ?_ ?_ hrun2 ?_); rfl; rfl)
      clear hrun2
      go_upto_region 13 with fail
      refine HKe.out.mono ?_
      rintro e w8 ⟨rfl, hb8⟩
      have HB8 := Lib.hid (HB7.out.trans (hb8.mono HB7.out.size))
      have HK := Lib.hid hb8
      clear hb8 HKe
      go_upto_region 13 with fail
      have HF := Lib.hid (show ∀ w', Below w8.heap.size w8 w' → (w'.cell? ⟨gb, k * 3, none⟩ = some (.int .u64 (q0.1.ts : Nat)) ∧ w'.cell? ⟨g1, o1 + v * 16, none⟩ = some (.int .u64 (q0.1.ts : Nat)) ∧ w'.cell? ⟨g1, o1 + v * 16 + 2, none⟩ = some (.int .i64 5)) from fun w' hb => ⟨HD0.out w' (HB8.out.trans (hb.mono HB8.out.size)), (HC.out w' (HB8.out.trans (hb.mono HB8.out.size))).1, (HC.out w' (HB8.out.trans (hb.mono HB8.out.size))).2⟩)
      have HSr := Lib.hid (fun w' (hb : Below w8.heap.size w8 w') => HSe.out w' (HK.out.trans (hb.mono HK.out.size)))
      have d1 : decide ((v : Int) ≥ 0) = true := decide_eq_true (by omega)
      have d2 : decide ((v : Int) < (n1 : Int)) = true := decide_eq_true hvi
      have hv3 : v3 ≥ 0 := H3.out
      have d3 : decide (v3 ≥ 0) = true := decide_eq_true hv3
      refine wp_region_settle (Below w8.heap.size w8) (by kernel_rfl) (by kernel_rfl) (by kernel_rfl) (below_drew (Below.refl _ _)) ?_
      repeat (first
        | (refine settled_not ?_ ?_
           · rfl
           simp only [Act.put, List.setIfInBounds_toArray, List.set_cons_zero, List.set_cons_succ])
        | (refine settled_val (v := ?_) ?_ (fun w' hS => ?_) ?_
           rotate_left
           · rfl
           · obtain ⟨k0, k1, k2⟩ := HF.out w' hS
             go_simp
             with_reducible rfl
           simp only [Act.put, List.setIfInBounds_toArray, List.set_cons_zero, List.set_cons_succ])
        | (refine settled_call (f := 9) (v := .int .i64 v3) ?_ (fun w' hS => ?_) (fun w' hS => ((HSr.out w' hS).mono fun e w'' ⟨h1, h2⟩ => ⟨h1, hS.trans (h2.mono hS.size)⟩)) ?_
           · rfl
           · go_simp
           simp only [Act.put, List.setIfInBounds_toArray, List.set_cons_zero, List.set_cons_succ]))
      refine settled_nil (fun w' hS => ?_)
      have HEn := Lib.hid (HT5.out)
      have HLast := Lib.hid (HB8.out.trans (hS.mono HB8.out.size))
      clear hS
      go_wp2_with fail
      go_ret
      exact ⟨by try rfl, HB20.out.trans (HLast.out.mono HB20.out.size)⟩
    · skip
      obtain ⟨a', n', c', w7, hrun2, v, v3, qt, hvn, hv3, hb7, hkept, hser, g1, o1, rfl, hcl⟩ := HRest.out ((k + 1) * 3) (.inr rfl)
      skip
      have HKe := Lib.hid hkept
      have HSe := Lib.hid hser
      have HC := Lib.hid hcl
      have HB7 := Lib.hid hb7
      have H3 := Lib.hid hv3
      have hvi : (v : Int) < (n1 : Int) := by omega
      have hv0 : (0 : Int) ≤ (v : Int) := by omega
      clear hkept hser hcl hb7 hv3 HRest
      go_upto_region 12 with (at_builtin; (with_reducible refine wpList_append_run rfl _ _ _ rfl _ _ _ _ ?_ ?_ hrun2 ?_); rfl; rfl)
      clear hrun2
      go_upto_region 13 with fail
      refine HKe.out.mono ?_
      rintro e w8 ⟨rfl, hb8⟩
      have HB8 := Lib.hid (HB7.out.trans (hb8.mono HB7.out.size))
      have HK := Lib.hid hb8
      clear hb8 HKe
      go_upto_region 13 with fail
      have HF := Lib.hid (show ∀ w', Below w8.heap.size w8 w' → (w'.cell? ⟨gb, k * 3, none⟩ = some (.int .u64 (q0.1.ts : Nat)) ∧ w'.cell? ⟨g1, o1 + v * 16, none⟩ = some (.int .u64 (q0.1.ts : Nat)) ∧ w'.cell? ⟨g1, o1 + v * 16 + 2, none⟩ = some (.int .i64 5)) from fun w' hb => ⟨HD0.out w' (HB8.out.trans (hb.mono HB8.out.size)), (HC.out w' (HB8.out.trans (hb.mono HB8.out.size))).1, (HC.out w' (HB8.out.trans (hb.mono HB8.out.size))).2⟩)
      have HSr := Lib.hid (fun w' (hb : Below w8.heap.size w8 w') => HSe.out w' (HK.out.trans (hb.mono HK.out.size)))
      have d1 : decide ((v : Int) ≥ 0) = true := decide_eq_true (by omega)
      have d2 : decide ((v : Int) < (n1 : Int)) = true := decide_eq_true hvi
      have hv3 : v3 ≥ 0 := H3.out
      have d3 : decide (v3 ≥ 0) = true := decide_eq_true hv3
      refine wp_region_settle (Below w8.heap.size w8) (by kernel_rfl) (by kernel_rfl) (by kernel_rfl) (below_drew (Below.refl _ _)) ?_
      repeat (first
        | (refine settled_not ?_ ?_
           · rfl
           simp only [Act.put, List.setIfInBounds_toArray, List.set_cons_zero, List.set_cons_succ])
        | (refine settled_val (v := ?_) ?_ (fun w' hS => ?_) ?_
           rotate_left
           · rfl
           · obtain ⟨k0, k1, k2⟩ := HF.out w' hS
             go_simp
             with_reducible rfl
           simp only [Act.put, List.setIfInBounds_toArray, List.set_cons_zero, List.set_cons_succ])
        | (refine settled_call (f := 9) (v := .int .i64 v3) ?_ (fun w' hS => ?_) (fun w' hS => ((HSr.out w' hS).mono fun e w'' ⟨h1, h2⟩ => ⟨h1, hS.trans (h2.mono hS.size)⟩)) ?_
           · rfl
           · go_simp
           simp only [Act.put, List.setIfInBounds_toArray, List.set_cons_zero, List.set_cons_succ]))
      refine settled_nil (fun w' hS => ?_)
      have HEn := Lib.hid (HT5.out)
      have HLast := Lib.hid (HB8.out.trans (hS.mono HB8.out.size))
      clear hS
      go_wp2_with fail
      go_ret
      exact ⟨by try rfl, HB20.out.trans (HLast.out.mono HB20.out.size)⟩
end Go.Proofs.YtecknikehieioaaGreat
